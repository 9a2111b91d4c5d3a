/- Own work: a part of the library under the claims of this seat. -/
/-
From the abstract machine's answer of a law to the statement's own frame.
-/
import Derived.Test.YtihmppdnglfjnaaAbExt
import Derived.ProofKit
import Derived.OpenShut
import Derived.ShutString
import Derived.ChangeOld
import Derived.Below
import Derived.Carry
namespace Go.Ab
open Go.RowKit Go.ChangeShapes Go.WideShapes Go.ChangeAt

section
variable {P : Program} {c : Cx ieee}

theorem law_calls (hc : CtxOk P c) {f : FuncId} {fn : Func} {body : Code} (hf : FnIs P c f fn body) {args : List A} {h h' : Heap ieee} (hx : afun c fn.results.toList body args h = some (.bool true, h'))
    {γ : Gam} {vargs : Array Value} {w : World} (hr : HRel γ h w) (hro : ∀ b ∈ h, ∀ fl cs, b ≠ .live true fl cs) (ha : L2 (VRel γ) args vargs.toList) :
    Calls P f vargs w fun e w' => e = .returned (.bool true) ∧ Below w.heap.size w w' := by
  refine (afun_sound hc hf.func hf.body hf.nt hx hr ha).mono ?_
  rintro en w' ⟨v, rfl, γ', _, q1, q2⟩
  refine ⟨by rw [show v = .bool true from q1], inv_below q2 ?_⟩
  rintro b ⟨k, r, fl, cs, _, e, _⟩
  exact hro _ (List.mem_of_getElem? e) fl cs rfl

/-- nothing of memory is named -/
theorem hrel_nil (w : World) : HRel [] ([] : Heap ieee) w :=
  ⟨rfl, fun k r wr fl cs e _ => by simp at e, fun k k' r r' fl cs wr' fl' cs' _ e _ _ _ => by simp at e⟩

theorem law_calls0 (hc : CtxOk P c) {f : FuncId} {fn : Func} {body : Code} (hf : FnIs P c f fn body) {args : List A} {h' : Heap ieee} (hx : afun c fn.results.toList body args [] = some (.bool true, h'))
    {vargs : Array Value} {w : World} (ha : L2 (VRel []) args vargs.toList) :
    Calls P f vargs w fun e w' => e = .returned (.bool true) ∧ Below w.heap.size w w' :=
  law_calls hc hf hx (hrel_nil w) (by simp) ha

theorem cell_float {W : World} {r : Reach} {b : Nat} {t : TypeId} {k : FloatKind} {v : Value} (ht : P.underlying t = some (.float k)) (h : Cell.okWide P W r b t v) : ∃ x, v = .float k x ∧ k.has x := by
  unfold Cell.okWide at h
  rw [ht] at h
  simp only at h
  unfold Cell.ok at h
  rw [ht] at h
  cases v <;> simp at h
  obtain ⟨rfl, h⟩ := h
  exact ⟨_, rfl, h⟩
theorem cell_int {W : World} {r : Reach} {b : Nat} {t : TypeId} {k : IntKind} {v : Value} (ht : P.underlying t = some (.int k)) (h : Cell.okWide P W r b t v) : ∃ n, v = .int k n ∧ k.has n := by
  unfold Cell.okWide at h
  rw [ht] at h
  simp only at h
  unfold Cell.ok at h
  rw [ht] at h
  cases v <;> simp at h
  obtain ⟨rfl, h⟩ := h
  exact ⟨_, rfl, h⟩

theorem okW_f32 {W : World} {r : Reach} {b : Nat} {t : TypeId} {v : Value} (ht : P.underlying t = some (.float .f32)) (h : Value.okWide P W r b t v) : ∃ x : ieee.S, ∀ γ, VRel γ (.f32 x : A) v := by
  unfold Value.okWide at h
  rw [ht] at h
  obtain ⟨x, rfl, hx⟩ := cell_float ht h
  exact ⟨toW .f32 x, fun γ => ⟨x, rfl, (toW_val (can_lt hx)).symm⟩⟩
theorem okW_f64 {W : World} {r : Reach} {b : Nat} {t : TypeId} {v : Value} (ht : P.underlying t = some (.float .f64)) (h : Value.okWide P W r b t v) : ∃ x : ieee.D, ∀ γ, VRel γ (.f64 x : A) v := by
  unfold Value.okWide at h
  rw [ht] at h
  obtain ⟨x, rfl, hx⟩ := cell_float ht h
  exact ⟨toW .f64 x, fun γ => ⟨x, rfl, (toW_val (can_lt hx)).symm⟩⟩
theorem okW_int {W : World} {r : Reach} {b : Nat} {t : TypeId} {k : IntKind} {v : Value} (ht : P.underlying t = some (.int k)) (h : Value.okWide P W r b t v) : ∃ n, k.has n ∧ ∀ γ, VRel γ (.int k n : A) v := by
  unfold Value.okWide at h
  rw [ht] at h
  obtain ⟨x, rfl, hx⟩ := cell_int ht h
  exact ⟨_, hx, fun γ => rfl⟩

def isAggT (P : Program) (t : TypeId) : Bool := match P.underlying t with | some (.struct _) | some (.array _ _) => true | _ => false

/-- an aggregate of float32s -/
theorem okW_f32s {W : World} {r : Reach} {b : Nat} {t e : TypeId} {v : Value} (n : Nat) (hagg : isAggT P t = true) (hts : P.cellTypes P.depth t = some (List.replicate n e)) (hn : P.cellsOf t = n) (he : P.underlying e = some (.float .f32))
    (h : Value.okWide P W r b t v) : ∃ xs : List ieee.S, xs.length = n ∧ ∀ γ, VRel γ (.agg (xs.map fun x => (.f32 x : A))) v := by
  unfold Value.okWide at h
  unfold isAggT at hagg
  have h' : ∃ cs, v = .agg cs ∧ cs.size = P.cellsOf t ∧ Row.okWide P W r b t cs := by
    split at hagg
    · rename_i e; rw [e] at h; exact h
    · rename_i e; rw [e] at h; exact h
    · cases hagg
  obtain ⟨cs, rfl, hsz, ts, h1, h2, h3⟩ := h'
  rw [hts] at h1
  cases h1
  have hall : ∀ (i : Nat) (u : Value), cs.toList[i]? = some u → ∃ x, u = .float .f32 x ∧ FloatKind.f32.has x := by
    intro i u hu
    obtain ⟨t', ht', hok⟩ := h3 i u (by simpa using hu)
    have : t' = e := by
      have := List.mem_of_getElem? ht'
      exact List.eq_of_mem_replicate this
    subst this
    exact cell_float he hok
  have key : ∀ l : List Value, (∀ (i : Nat) (u : Value), l[i]? = some u → ∃ x, u = .float .f32 x ∧ FloatKind.f32.has x) →
      ∃ xs : List ieee.S, xs.length = l.length ∧ L2 (SRel []) (xs.map fun x => (.f32 x : A)) l := by
    intro l
    induction l with
    | nil => intro _; exact ⟨[], rfl, L2.nil _⟩
    | cons u l ih =>
      intro hl
      obtain ⟨xs, g1, g3⟩ := ih (fun i v hv => hl (i + 1) v (by simpa using hv))
      obtain ⟨x, rfl, hx⟩ := hl 0 u rfl
      exact ⟨(toW .f32 x : ieee.S) :: xs, congrArg (· + 1) g1, L2.cons ⟨x, rfl, (toW_val (can_lt hx)).symm⟩ g3⟩
  obtain ⟨xs, g1, g3⟩ := key cs.toList hall
  refine ⟨xs, by rw [g1, ← hn, ← hsz]; simp, fun γ => ⟨cs, rfl, g3⟩⟩


/-- the kinds of cells -/
inductive CK where
  | f32
  | f64
  | int (k : IntKind)
  | bool
def CK.is : CK → A → Prop
  | .f32, a => ∃ x : ieee.S, a = .f32 x
  | .f64, a => ∃ x : ieee.D, a = .f64 x
  | .int k, a => ∃ n, a = .int k n ∧ k.has n
  | .bool, a => ∃ b, a = .bool b
def CK.of (P : Program) (t : TypeId) : CK → Bool
  | .f32 => match P.underlying t with | some (.float .f32) => true | _ => false
  | .f64 => match P.underlying t with | some (.float .f64) => true | _ => false
  | .int k => match P.underlying t with | some (.int k') => kindEq k k' | _ => false
  | .bool => match P.underlying t with | some .bool => true | _ => false
def CK.desc : CK → TypeDesc
  | .f32 => .float .f32
  | .f64 => .float .f64
  | .int k => .int k
  | .bool => .bool
theorem CK.of_ty {P : Program} {t : TypeId} {k : CK} (h : k.of P t = true) : P.underlying t = some k.desc := by
  cases k <;> unfold CK.of at h <;> simp only at h <;> split at h <;> try cases h
  · assumption
  · assumption
  · rename_i e
    have := of_decide_eq_true h
    subst this
    exact e
  · assumption
def ckAll (P : Program) : List CK → List TypeId → Bool
  | [], [] => true
  | k :: ks, t :: ts => k.of P t && ckAll P ks ts
  | _, _ => false
def ckT (P : Program) (t : TypeId) (ks : List CK) : Bool := match P.cellTypes P.depth t with | some ts => ckAll P ks ts | none => false

theorem ck_cell {W : World} {r : Reach} {b : Nat} {t : TypeId} {k : CK} {v : Value} (hk : k.of P t = true) (h : Cell.okWide P W r b t v) : ∃ a, k.is a ∧ SRel [] a v := by
  cases k with
  | f32 =>
    obtain ⟨x, rfl, hx⟩ := cell_float (CK.of_ty hk) h
    exact ⟨.f32 (toW .f32 x), ⟨_, rfl⟩, ⟨x, rfl, (toW_val (can_lt hx)).symm⟩⟩
  | f64 =>
    obtain ⟨x, rfl, hx⟩ := cell_float (CK.of_ty hk) h
    exact ⟨.f64 (toW .f64 x), ⟨_, rfl⟩, ⟨x, rfl, (toW_val (can_lt hx)).symm⟩⟩
  | int k =>
    obtain ⟨x, rfl, hx⟩ := cell_int (CK.of_ty hk) h
    exact ⟨.int k x, ⟨x, rfl, hx⟩, rfl⟩
  | bool =>
    have ht := CK.of_ty hk
    simp only [CK.desc] at ht
    unfold Cell.okWide at h
    rw [ht] at h
    simp only at h
    unfold Cell.ok at h
    rw [ht] at h
    cases v <;> simp at h
    exact ⟨.bool _, ⟨_, rfl⟩, rfl⟩

/-- an aggregate of numbers -/
theorem okW_agg {W : World} {r : Reach} {b : Nat} {t : TypeId} {v : Value} (ks : List CK) (hagg : isAggT P t = true) (hts : ckT P t ks = true) (hn : P.cellsOf t = ks.length)
    (h : Value.okWide P W r b t v) : ∃ cs : List A, L2 CK.is ks cs ∧ ∀ γ, VRel γ (.agg cs) v := by
  unfold Value.okWide at h
  unfold isAggT at hagg
  have h' : ∃ cs, v = .agg cs ∧ cs.size = P.cellsOf t ∧ Row.okWide P W r b t cs := by
    split at hagg
    · rename_i e; rw [e] at h; exact h
    · rename_i e; rw [e] at h; exact h
    · cases hagg
  obtain ⟨cs, rfl, hsz, ts, h1, h2, h3⟩ := h'
  unfold ckT at hts
  rw [h1] at hts
  have key : ∀ (l : List Value) (ks : List CK) (ts : List TypeId), ckAll P ks ts = true → l.length = ks.length → (∀ (i : Nat) (u : Value), l[i]? = some u → ∃ t', ts[i]? = some t' ∧ Cell.okWide P W r b t' u) →
      ∃ xs : List A, L2 CK.is ks xs ∧ L2 (SRel []) xs l := by
    intro l
    induction l with
    | nil =>
      intro ks ts hk hl _
      cases ks with
      | nil => exact ⟨[], L2.nil _, L2.nil _⟩
      | cons _ _ => cases hl
    | cons u l ih =>
      intro ks ts hk hl hc
      cases ks with
      | nil => cases hl
      | cons k ks =>
        cases ts with
        | nil => cases hk
        | cons t ts =>
          have hk' : (k.of P t && ckAll P ks ts) = true := hk
          rw [Bool.and_eq_true] at hk'
          obtain ⟨xs, g1, g2⟩ := ih ks ts hk'.2 (Nat.succ.inj hl) (fun i v hv => hc (i + 1) v (by simpa using hv))
          obtain ⟨t', ht', hok⟩ := hc 0 u rfl
          cases ht'
          obtain ⟨a, ha, hs⟩ := ck_cell hk'.1 hok
          exact ⟨a :: xs, L2.cons ha g1, L2.cons hs g2⟩
  have hlen : ∀ (ks : List CK) (ts : List TypeId), ckAll P ks ts = true → ks.length = ts.length := by
    intro ks
    induction ks with
    | nil =>
      intro ts h
      cases ts with
      | nil => rfl
      | cons _ _ => cases h
    | cons k ks ih =>
      intro ts h
      cases ts with
      | nil => cases h
      | cons t ts =>
        have h' : (k.of P t && ckAll P ks ts) = true := h
        rw [Bool.and_eq_true] at h'
        exact congrArg (· + 1) (ih ts h'.2)
  have hl := hlen ks ts hts
  have hcl : cs.toList.length = ks.length := by rw [← hn, ← hsz]; simp
  obtain ⟨xs, g1, g2⟩ := key cs.toList ks ts hts hcl (fun i u hu => by
    have hi : i < ts.length := by
      obtain ⟨hlt, _⟩ := List.getElem?_eq_some_iff.1 hu
      omega
    have := h3 i u (by simpa using hu)
    rw [Nat.mod_eq_of_lt hi] at this
    exact this)
  exact ⟨xs, g1, fun γ => ⟨cs, rfl, g2⟩⟩
theorem ck_cons {k : CK} {ks : List CK} {cs : List A} (h : L2 CK.is (k :: ks) cs) : ∃ a cs', cs = a :: cs' ∧ k.is a ∧ L2 CK.is ks cs' := by
  cases cs with
  | nil => exact absurd h.1 (by simp)
  | cons a cs' =>
    obtain ⟨b, m, e, h1, h2⟩ := h.uncons
    cases e
    exact ⟨_, _, rfl, h1, h2⟩
theorem ck_nil {cs : List A} (h : L2 CK.is [] cs) : cs = [] := by
  exact h.nil_iff

theorem L2.one {α β : Type} {Q : α → β → Prop} {a : α} {b : β} (h : Q a b) : L2 Q [a] [b] := L2.cons h (L2.nil _)

theorem len2 {α : Type} {l : List α} (h : l.length = 2) : ∃ a b, l = [a, b] := by
  match l, h with
  | [a, b], _ => exact ⟨a, b, rfl⟩
theorem len3 {α : Type} {l : List α} (h : l.length = 3) : ∃ a b c, l = [a, b, c] := by
  match l, h with
  | [a, b, c], _ => exact ⟨a, b, c, rfl⟩

theorem len1 {α : Type} {l : List α} (h : l.length = 1) : ∃ a0, l = [a0] := by
  match l, h with
  | [a0], _ => exact ⟨a0, rfl⟩
theorem len4 {α : Type} {l : List α} (h : l.length = 4) : ∃ a0 a1 a2 a3, l = [a0, a1, a2, a3] := by
  match l, h with
  | [a0, a1, a2, a3], _ => exact ⟨a0, a1, a2, a3, rfl⟩
theorem len5 {α : Type} {l : List α} (h : l.length = 5) : ∃ a0 a1 a2 a3 a4, l = [a0, a1, a2, a3, a4] := by
  match l, h with
  | [a0, a1, a2, a3, a4], _ => exact ⟨a0, a1, a2, a3, a4, rfl⟩
theorem len6 {α : Type} {l : List α} (h : l.length = 6) : ∃ a0 a1 a2 a3 a4 a5, l = [a0, a1, a2, a3, a4, a5] := by
  match l, h with
  | [a0, a1, a2, a3, a4, a5], _ => exact ⟨a0, a1, a2, a3, a4, a5, rfl⟩
theorem len7 {α : Type} {l : List α} (h : l.length = 7) : ∃ a0 a1 a2 a3 a4 a5 a6, l = [a0, a1, a2, a3, a4, a5, a6] := by
  match l, h with
  | [a0, a1, a2, a3, a4, a5, a6], _ => exact ⟨a0, a1, a2, a3, a4, a5, a6, rfl⟩
theorem len20 {α : Type} {l : List α} (h : l.length = 20) : ∃ a0 a1 a2 a3 a4 a5 a6 a7 a8 a9 a10 a11 a12 a13 a14 a15 a16 a17 a18 a19, l = [a0, a1, a2, a3, a4, a5, a6, a7, a8, a9, a10, a11, a12, a13, a14, a15, a16, a17, a18, a19] := by
  match l, h with
  | [a0, a1, a2, a3, a4, a5, a6, a7, a8, a9, a10, a11, a12, a13, a14, a15, a16, a17, a18, a19], _ => exact ⟨a0, a1, a2, a3, a4, a5, a6, a7, a8, a9, a10, a11, a12, a13, a14, a15, a16, a17, a18, a19, rfl⟩
theorem len21 {α : Type} {l : List α} (h : l.length = 21) : ∃ a0 a1 a2 a3 a4 a5 a6 a7 a8 a9 a10 a11 a12 a13 a14 a15 a16 a17 a18 a19 a20, l = [a0, a1, a2, a3, a4, a5, a6, a7, a8, a9, a10, a11, a12, a13, a14, a15, a16, a17, a18, a19, a20] := by
  match l, h with
  | [a0, a1, a2, a3, a4, a5, a6, a7, a8, a9, a10, a11, a12, a13, a14, a15, a16, a17, a18, a19, a20], _ => exact ⟨a0, a1, a2, a3, a4, a5, a6, a7, a8, a9, a10, a11, a12, a13, a14, a15, a16, a17, a18, a19, a20, rfl⟩

/-- what came in reads as it did -/
theorem trodAll_stays {H : Type} {enc : TypeId × Value → H} (hl : laidOutB P = true) {W W' : World} (hb : Below W.heap.size W W') : ∀ {ts : List TypeId} {vs : List Value} {ds : List (DataW H)} {ps : List MemPlace},
    (ts.all fun t => P.readableRec t && decide (t < P.types.size)) = true → DataW.TrodAll enc P W 0 (fun _ => true) true ts vs ds ps →
    DataW.TrodAll enc P W' 0 (fun b => decide (b < W.heap.size)) true ts vs ds ps := by
  intro ts
  induction ts with
  | nil =>
    intro vs ds ps _ h
    obtain ⟨rfl, rfl, rfl⟩ := trodAll_nil h
    exact h
  | cons t ts ih =>
    intro vs ds ps ht h
    obtain ⟨v, vs', d, ds', p, q, rfl, rfl, rfl, h1, h2⟩ := trodAll_cons h
    simp only [List.all_cons, Bool.and_eq_true, decide_eq_true_eq] at ht
    refine trodAll_cons_mk (Below.trod hl ht.1.1 ht.1.2 h1 hb ?_) (ih ht.2 h2)
    obtain ⟨m, hm⟩ := h1
    exact DataW.trod_lt m _ _ _ hm
end
end Go.Ab
