/- Own work: a part of the library under the claims of this seat. -/
/-
How the abstract machine's values and memory stand to the model's.
-/
import Derived.Test.YtihmppdnglfjnaaAbReal
namespace Go.Ab
open Go.RowKit

abbrev A := AV ieee

/-- an abstract block: 'size' cells of a block, from 'base' on -/
structure Ref where
  block : Nat
  base : Nat
  size : Nat

abbrev Gam := List Ref

/-- two lists, element by element -/
def L2 {α β : Type} (Q : α → β → Prop) (l : List α) (m : List β) : Prop :=
  l.length = m.length ∧ ∀ (i : Nat) (a : α) (b : β), l[i]? = some a → m[i]? = some b → Q a b

theorem L2.nil {α β : Type} (Q : α → β → Prop) : L2 Q [] [] := ⟨rfl, by simp⟩
theorem L2.cons {α β : Type} {Q : α → β → Prop} {a : α} {b : β} {l : List α} {m : List β} (h : Q a b) (hl : L2 Q l m) : L2 Q (a :: l) (b :: m) := by
  refine ⟨by simp [hl.1], ?_⟩
  intro i x y hx hy
  cases i with
  | zero => simp at hx hy; subst hx; subst hy; exact h
  | succ i => exact hl.2 i x y (by simpa using hx) (by simpa using hy)
theorem L2.mono {α β : Type} {Q Q' : α → β → Prop} {l : List α} {m : List β} (h : L2 Q l m) (hq : ∀ a b, Q a b → Q' a b) : L2 Q' l m :=
  ⟨h.1, fun i a b ha hb => hq _ _ (h.2 i a b ha hb)⟩
theorem L2.uncons {α β : Type} {Q : α → β → Prop} {a : α} {l : List α} {m : List β} (h : L2 Q (a :: l) m) : ∃ b m', m = b :: m' ∧ Q a b ∧ L2 Q l m' := by
  cases m with
  | nil => have := h.1; simp at this
  | cons b m' =>
    refine ⟨b, m', rfl, h.2 0 a b rfl rfl, by have := h.1; simpa using this, ?_⟩
    intro i x y hx hy
    exact h.2 (i + 1) x y (by simpa using hx) (by simpa using hy)
theorem L2.nil_iff {α β : Type} {Q : α → β → Prop} {m : List β} (h : L2 Q [] m) : m = [] := by
  cases m with
  | nil => rfl
  | cons b m' => have := h.1; simp at this
theorem L2.append {α β : Type} {Q : α → β → Prop} {l l' : List α} {m m' : List β} (h : L2 Q l m) (h' : L2 Q l' m') : L2 Q (l ++ l') (m ++ m') := by
  refine ⟨by simp [h.1, h'.1], ?_⟩
  intro i a b ha hb
  by_cases hi : i < l.length
  · rw [List.getElem?_append_left hi] at ha
    rw [List.getElem?_append_left (by rw [← h.1]; exact hi)] at hb
    exact h.2 i a b ha hb
  · rw [List.getElem?_append_right (by omega)] at ha
    rw [List.getElem?_append_right (by rw [← h.1]; omega), ← h.1] at hb
    exact h'.2 _ a b ha hb
theorem L2.take {α β : Type} {Q : α → β → Prop} {l : List α} {m : List β} (h : L2 Q l m) (n : Nat) : L2 Q (l.take n) (m.take n) := by
  refine ⟨by simp [h.1], ?_⟩
  intro i a b ha hb
  rw [List.getElem?_take] at ha hb
  split at ha
  · rename_i hi; rw [if_pos hi] at hb; exact h.2 i a b ha hb
  · cases ha
theorem L2.drop {α β : Type} {Q : α → β → Prop} {l : List α} {m : List β} (h : L2 Q l m) (n : Nat) : L2 Q (l.drop n) (m.drop n) := by
  refine ⟨by simp [h.1], ?_⟩
  intro i a b ha hb
  rw [List.getElem?_drop] at ha hb
  exact h.2 _ a b ha hb
theorem L2.get {α β : Type} {Q : α → β → Prop} {l : List α} {m : List β} (h : L2 Q l m) {i : Nat} {a : α} (ha : l[i]? = some a) : ∃ b, m[i]? = some b ∧ Q a b := by
  have hi : i < l.length := (List.getElem?_eq_some_iff.1 ha).1
  have hm : i < m.length := by rw [← h.1]; exact hi
  exact ⟨m[i], List.getElem?_eq_getElem hm, h.2 i a _ ha (List.getElem?_eq_getElem hm)⟩
theorem L2.map {α β α' β' : Type} {Q : α → β → Prop} {Q' : α' → β' → Prop} {f : α → α'} {g : β → β'} {l : List α} {m : List β} (h : L2 Q l m) (hq : ∀ a b, Q a b → Q' (f a) (g b)) : L2 Q' (l.map f) (m.map g) := by
  refine ⟨by simp [h.1], ?_⟩
  intro i a b ha hb
  rw [List.getElem?_map] at ha hb
  cases hx : l[i]? with
  | none => rw [hx] at ha; cases ha
  | some x =>
    cases hy : m[i]? with
    | none => rw [hy] at hb; cases hb
    | some y =>
      rw [hx] at ha; rw [hy] at hb
      simp at ha hb; subst ha; subst hb
      exact hq _ _ (h.2 i x y hx hy)

/-- an address -/
def PRel (γ : Gam) (p : Nat × Nat) (v : Value) : Prop := ∃ r, γ[p.1]? = some r ∧ v = .pointer (some ⟨r.block, r.base + p.2, none⟩)

/-- a value of one cell -/
def SRel (γ : Gam) : A → Value → Prop
  | .bool b => fun v => v = .bool b
  | .int k n => fun v => v = .int k n
  | .f32 x => fun v => ∃ b, v = .float .f32 b ∧ can .f32 b = x.1
  | .f64 x => fun v => ∃ b, v = .float .f64 b ∧ can .f64 b = x.1
  | .c64 x y => fun v => ∃ a b, v = .complex .f32 a b ∧ can .f32 a = x.1 ∧ can .f32 b = y.1
  | .c128 x y => fun v => ∃ a b, v = .complex .f64 a b ∧ can .f64 a = x.1 ∧ can .f64 b = y.1
  | .str s => fun v => v = .string s
  | .ptr b i => fun v => PRel γ (b, i) v
  | .nilptr => fun v => v = .pointer none
  | .slice b i n es => fun v => ∃ r co cap, γ[b]? = some r ∧ v = .slice (some ⟨r.block, co, none⟩) n cap ∧ n ≤ cap ∧ cap ≤ maxLen ∧
      co + cap * es ≤ r.base + r.size ∧ r.base ≤ co ∧ (n = 0 ∨ co = r.base + i)
  | .nilslice => fun v => v = .slice none 0 0
  | .clo f cap => fun v => ∃ vs, v = .func (.func f) #[] vs ∧ L2 (PRel γ) cap vs.toList
  | .nilfunc => fun v => v = .nilFunc
  | .any => fun v => v.oneCell' = true
  | .agg _ => fun _ => False
  | .tup _ => fun _ => False
  | .undef => fun _ => False

/-- a value of a temporary that is no tuple -/
def WRel (γ : Gam) : A → Value → Prop
  | .agg cs => fun v => ∃ vs, v = .agg vs ∧ L2 (SRel []) cs vs.toList
  | .any => fun _ => True
  | .undef => fun v => v = undef
  | a => fun v => SRel γ a v

def VRel (γ : Gam) : A → Value → Prop
  | .tup as => fun v => ∃ vs, v = .tuple vs ∧ L2 (WRel γ) as vs.toList
  | a => fun v => WRel γ a v

theorem SRel.one {γ : Gam} {a : A} {v : Value} (h : SRel γ a v) : v.oneCell' = true := by
  cases a <;> simp only [SRel, PRel] at h
  all_goals first
    | (subst h; rfl)
    | exact h
    | exact h.elim
    | (obtain ⟨b, rfl, _⟩ := h; rfl)
    | (obtain ⟨a, b, rfl, _⟩ := h; rfl)
    | (obtain ⟨r, _, rfl⟩ := h; rfl)
    | (obtain ⟨r, co, cap, _, rfl, _⟩ := h; rfl)

/-- more blocks -/
def Sub (γ γ' : Gam) : Prop := ∀ (i : Nat) (r : Ref), γ[i]? = some r → γ'[i]? = some r
theorem Sub.refl (γ : Gam) : Sub γ γ := fun _ _ h => h
theorem Sub.trans {γ γ' γ'' : Gam} (h : Sub γ γ') (h' : Sub γ' γ'') : Sub γ γ'' := fun i r hr => h' i r (h i r hr)
theorem Sub.nil (γ : Gam) : Sub [] γ := fun i r h => by simp at h
theorem Sub.append (γ δ : Gam) : Sub γ (γ ++ δ) := fun i r h => by
  rw [List.getElem?_append_left (List.getElem?_eq_some_iff.1 h).1]; exact h

theorem PRel.mono {γ γ' : Gam} (hs : Sub γ γ') {p : Nat × Nat} {v : Value} (h : PRel γ p v) : PRel γ' p v := by
  obtain ⟨r, hr, hv⟩ := h; exact ⟨r, hs _ _ hr, hv⟩
theorem SRel.mono {γ γ' : Gam} (hs : Sub γ γ') {a : A} {v : Value} (h : SRel γ a v) : SRel γ' a v := by
  cases a with
  | ptr b i => exact PRel.mono hs h
  | slice b i n es => obtain ⟨r, co, cap, hr, rest⟩ := h; exact ⟨r, co, cap, hs _ _ hr, rest⟩
  | clo f cap => obtain ⟨vs, hv, hl⟩ := h; exact ⟨vs, hv, hl.mono fun _ _ => PRel.mono hs⟩
  | _ => exact h
theorem WRel.mono {γ γ' : Gam} (hs : Sub γ γ') {a : A} {v : Value} (h : WRel γ a v) : WRel γ' a v := by
  have m := @SRel.mono γ γ' hs a v
  cases a <;> first | exact m h | exact h
theorem VRel.mono {γ γ' : Gam} (hs : Sub γ γ') {a : A} {v : Value} (h : VRel γ a v) : VRel γ' a v := by
  have m := @WRel.mono γ γ' hs a v
  cases a with
  | tup as => obtain ⟨vs, hv, hl⟩ := h; exact ⟨vs, hv, hl.mono fun _ _ => WRel.mono hs⟩
  | _ => exact m h

/-- without addresses: the blocks do not count -/
theorem SRel.flat {γ γ' : Gam} {a : A} {v : Value} (hf : a.flat = true) (h : SRel γ a v) : SRel γ' a v := by
  cases a with
  | ptr b i => simp [AV.flat] at hf
  | slice b i n es => simp [AV.flat] at hf
  | clo f cap =>
    obtain ⟨vs, hv, hl⟩ := h
    have : cap = [] := by simpa [AV.flat] using hf
    subst this
    exact ⟨vs, hv, by rw [hl.nil_iff]; exact L2.nil _⟩
  | _ => exact h

theorem SRel.toW {γ : Gam} {a : A} {v : Value} (h : SRel γ a v) : WRel γ a v := by
  cases a <;> first | exact h | exact trivial | exact h.elim
theorem WRel.toV {γ : Gam} {a : A} {v : Value} (h : WRel γ a v) (hn : ∀ vs, a ≠ .tup vs) : VRel γ a v := by
  cases a with
  | tup vs => exact (hn vs rfl).elim
  | _ => exact h
theorem SRel.toV {γ : Gam} {a : A} {v : Value} (h : SRel γ a v) : VRel γ a v :=
  h.toW.toV fun vs e => by subst e; exact h
/-- a value that may stand in a cell, and does -/
theorem VRel.toS {γ : Gam} {a : A} {v : Value} (h : VRel γ a v) (h1 : a.one = true) (h2 : v.oneCell' = true) : SRel γ a v := by
  cases a with
  | agg cs => simp [AV.one] at h1
  | tup cs => simp [AV.one] at h1
  | undef => simp [AV.one] at h1
  | any => exact h2
  | _ => exact h

/-- a block -/
structure BRel (γ : Gam) (w : World) (r : Ref) (wr fl : Bool) (cs : List A) : Prop where
  ex : ∃ cur T fr, w.heap[r.block]? = some (.cells cur T fr) ∧ r.base + r.size ≤ cur.size ∧ cs.length ≤ r.size ∧
    (∀ (i : Nat) (c : A), cs[i]? = some c → ∃ v, cur[r.base + i]? = some v ∧ SRel (cond fl [] γ) c v) ∧ (wr = true → fr = (0, 0))

structure HRel (γ : Gam) (h : Heap ieee) (w : World) : Prop where
  len : γ.length = h.length
  blk : ∀ (k : Nat) (r : Ref) (wr fl : Bool) (cs : List A), γ[k]? = some r → h[k]? = some (.live wr fl cs) → BRel γ w r wr fl cs
  own : ∀ (k k' : Nat) (r r' : Ref) (fl : Bool) (cs : List A) (wr' fl' : Bool) (cs' : List A), k ≠ k' → γ[k]? = some r → γ[k']? = some r' → h[k]? = some (.live true fl cs) → h[k']? = some (.live wr' fl' cs') → r.block ≠ r'.block

/-- what a call has to do with memory: 'S': the blocks that were there and may be written -/
structure Inv (w0 : World) (S : Nat → Prop) (γ : Gam) (h : Heap ieee) (w : World) : Prop where
  hr : HRel γ h w
  os : w.os = w0.os
  tape : w.tape = w0.tape
  output : w.output = w0.output
  size : w0.heap.size ≤ w.heap.size
  keep : ∀ b : Nat, b < w0.heap.size → ¬ S b → w.heap[b]? = w0.heap[b]?
  mine : ∀ (k : Nat) (r : Ref) (fl : Bool) (cs : List A), γ[k]? = some r → h[k]? = some (.live true fl cs) → S r.block ∨ w0.heap.size ≤ r.block

theorem HRel.get {γ : Gam} {h : Heap ieee} {w : World} (hr : HRel γ h w) {k : Nat} {wr fl : Bool} {cs : List A} (hk : h[k]? = some (.live wr fl cs)) :
    ∃ r, γ[k]? = some r ∧ BRel γ w r wr fl cs := by
  have hlt : k < γ.length := by rw [hr.len]; exact (List.getElem?_eq_some_iff.1 hk).1
  exact ⟨γ[k], List.getElem?_eq_getElem hlt, hr.blk k _ wr fl cs (List.getElem?_eq_getElem hlt) hk⟩

/-- blocks are blocks of the world -/
theorem BRel.lt {γ : Gam} {w : World} {r : Ref} {wr fl : Bool} {cs : List A} (h : BRel γ w r wr fl cs) : r.block < w.heap.size := by
  obtain ⟨cur, T, fr, h1, _⟩ := h.ex
  exact (Array.getElem?_eq_some_iff.1 h1).1

theorem BRel.world {γ : Gam} {w w' : World} {r : Ref} {wr fl : Bool} {cs : List A} (h : BRel γ w r wr fl cs) (he : w'.heap[r.block]? = w.heap[r.block]?) : BRel γ w' r wr fl cs := by
  obtain ⟨cur, T, fr, h1, rest⟩ := h.ex
  exact ⟨cur, T, fr, he.trans h1, rest⟩
theorem BRel.gam {γ γ' : Gam} {w : World} {r : Ref} {wr fl : Bool} {cs : List A} (h : BRel γ w r wr fl cs) (hs : Sub γ γ') : BRel γ' w r wr fl cs := by
  obtain ⟨cur, T, fr, h1, h2, h3, h4, h5⟩ := h.ex
  refine ⟨cur, T, fr, h1, h2, h3, fun i c hc => ?_, h5⟩
  obtain ⟨v, hv, hs'⟩ := h4 i c hc
  refine ⟨v, hv, ?_⟩
  cases fl
  · exact hs'.mono hs
  · exact hs'

theorem HRel.world {γ : Gam} {h : Heap ieee} {w w' : World} (hr : HRel γ h w) (he : ∀ (k : Nat) (r : Ref) (wr fl : Bool) (cs : List A), γ[k]? = some r → h[k]? = some (.live wr fl cs) → w'.heap[r.block]? = w.heap[r.block]?) : HRel γ h w' :=
  ⟨hr.len, fun k r wr fl cs h1 h2 => (hr.blk k r wr fl cs h1 h2).world (he k r wr fl cs h1 h2), hr.own⟩

/-- blocks that were there are as they were -/
theorem HRel.ext {γ : Gam} {h : Heap ieee} {w w' : World} (hr : HRel γ h w) (he : ∀ b : Nat, b < w.heap.size → w'.heap[b]? = w.heap[b]?) : HRel γ h w' :=
  hr.world fun k r wr fl cs h1 h2 => he _ (hr.blk k r wr fl cs h1 h2).lt

theorem Inv.ext {w0 w w' : World} {S : Nat → Prop} {γ : Gam} {h : Heap ieee} (i : Inv w0 S γ h w) (hb : Below w.heap.size w w') : Inv w0 S γ h w' :=
  ⟨i.hr.ext hb.block, hb.os.trans i.os, hb.tape.trans i.tape, hb.output.trans i.output, Nat.le_trans i.size hb.size,
    fun b hlt hS => (hb.block b (Nat.lt_of_lt_of_le hlt i.size)).trans (i.keep b hlt hS), i.mine⟩

theorem Drawn.below {w w' : World} (h : Drawn w w') : Below w.heap.size w w' := by
  obtain ⟨n, rfl⟩ := h
  exact ⟨rfl, rfl, rfl, Nat.le_refl _, fun _ _ => rfl⟩
theorem Inv.drawn {w0 w w' : World} {S : Nat → Prop} {γ : Gam} {h : Heap ieee} (i : Inv w0 S γ h w) (hd : Drawn w w') : Inv w0 S γ h w' := i.ext hd.below

/-- a cell is read -/
theorem HRel.cell {γ : Gam} {h : Heap ieee} {w : World} (hr : HRel γ h w) {b i : Nat} {wr fl : Bool} {cs : List A} {c : A} (hb : h[b]? = some (.live wr fl cs)) (hc : cs[i]? = some c) :
    ∃ r v, γ[b]? = some r ∧ w.cell? ⟨r.block, r.base + i, none⟩ = some v ∧ SRel γ c v := by
  obtain ⟨r, hg, hb⟩ := hr.get hb
  obtain ⟨cur, T, fr, h1, h2, h3, h4, h5⟩ := hb.ex
  obtain ⟨v, hv, hs⟩ := h4 i c hc
  refine ⟨r, v, hg, ?_, ?_⟩
  · simp [World.cell?, h1, hv]
  · cases fl
    · exact hs
    · exact hs.mono (Sub.nil γ)

/-- a new block -/
theorem Inv.alloc {w0 w : World} {S : Nat → Prop} {γ : Gam} {h : Heap ieee} (i : Inv w0 S γ h w) (cs : List A) (vs : Array Value) (T : TypeId) (fl : Bool)
    (hl : L2 (SRel (cond fl [] γ)) cs vs.toList) :
    Inv w0 S (γ ++ [⟨w.heap.size, 0, vs.size⟩]) (h ++ [.live true fl cs]) (w.alloc (.cells vs T)) ∧ Sub γ (γ ++ [⟨w.heap.size, 0, vs.size⟩]) := by
  have hsub : Sub γ (γ ++ [⟨w.heap.size, 0, vs.size⟩]) := Sub.append _ _
  have hold : ∀ b, b < w.heap.size → (w.alloc (.cells vs T)).heap[b]? = w.heap[b]? := fun b hb => Below.heap_alloc w (.cells vs T) b hb
  have hnew : (w.alloc (.cells vs T)).heap[w.heap.size]? = some (.cells vs T) := heap_alloc_new w _
  -- where a pair stands
  have part : ∀ k r x, (γ ++ [⟨w.heap.size, 0, vs.size⟩])[k]? = some r → (h ++ [.live true fl cs])[k]? = some x →
      (γ[k]? = some r ∧ h[k]? = some x) ∨ (k = γ.length ∧ r = ⟨w.heap.size, 0, vs.size⟩ ∧ x = .live true fl cs) := by
    intro k r x h1 h2
    by_cases hk : k < γ.length
    · rw [List.getElem?_append_left hk] at h1
      rw [List.getElem?_append_left (by rw [← i.hr.len]; exact hk)] at h2
      exact .inl ⟨h1, h2⟩
    · rw [List.getElem?_append_right (by omega)] at h1
      rw [List.getElem?_append_right (by rw [← i.hr.len]; omega), ← i.hr.len] at h2
      have hk0 : k - γ.length = 0 := by
        have := (List.getElem?_eq_some_iff.1 h1).1
        simp at this; omega
      rw [hk0] at h1 h2
      simp at h1 h2
      exact .inr ⟨by omega, h1.symm, h2.symm⟩
  refine ⟨⟨⟨by simp [i.hr.len], ?_, ?_⟩, i.os, i.tape, i.output, ?_, ?_, ?_⟩, hsub⟩
  · intro k r wr fl' cs' h1 h2
    rcases part k r _ h1 h2 with ⟨h1, h2⟩ | ⟨_, rfl, h2⟩
    · have hb := i.hr.blk k r wr fl' cs' h1 h2
      exact (hb.world (hold _ hb.lt)).gam hsub
    · cases h2
      refine ⟨vs, T, (0, 0), hnew, by simp, by rw [hl.1]; simp, ?_, fun _ => rfl⟩
      intro j c hc
      obtain ⟨v, hv, hs⟩ := hl.get hc
      refine ⟨v, by simpa using hv, ?_⟩
      cases fl
      · exact SRel.mono hsub hs
      · exact hs
  · intro k k' r r' fl' cs' wr'' fl'' cs'' hne h1 h1' h2 h2'
    rcases part k r _ h1 h2 with ⟨h1, h2⟩ | ⟨hk, rfl, h2⟩ <;> rcases part k' r' _ h1' h2' with ⟨h1', h2'⟩ | ⟨hk', rfl, h2'⟩
    · exact i.hr.own k k' r r' _ _ _ _ _ hne h1 h1' h2 h2'
    · have := (i.hr.blk k r _ _ _ h1 h2).lt
      simp; omega
    · have := (i.hr.blk k' r' _ _ _ h1' h2').lt
      simp; omega
    · omega
  · have := i.size; simp; omega
  · intro b hb hS
    rw [hold b (Nat.lt_of_lt_of_le hb i.size)]
    exact i.keep b hb hS
  · intro k r fl' cs' h1 h2
    rcases part k r _ h1 h2 with ⟨h1, h2⟩ | ⟨_, rfl, _⟩
    · exact i.mine k r _ _ h1 h2
    · exact .inr i.size

/-- cells are written -/
theorem Inv.write {w0 w : World} {S : Nat → Prop} {γ : Gam} {h : Heap ieee} (i : Inv w0 S γ h w) {b : Nat} {fl : Bool} {cs cs' : List A} {r : Ref} {cur cur' : Array Value} {T : TypeId} {fr : Nat × Nat}
    (hb : h[b]? = some (.live true fl cs)) (hr : γ[b]? = some r) (hcur : w.heap[r.block]? = some (.cells cur T fr))
    (hsz : cur'.size = cur.size) (hlen : cs'.length ≤ r.size) (hcs : ∀ (i : Nat) (c : A), cs'[i]? = some c → ∃ v, cur'[r.base + i]? = some v ∧ SRel (cond fl [] γ) c v) :
    Inv w0 S γ (h.set b (.live true fl cs')) (w.setRow r.block cur') := by
  have hbl : b < h.length := (List.getElem?_eq_some_iff.1 hb).1
  have hother : ∀ k, k ≠ r.block → (w.setRow r.block cur').heap[k]? = w.heap[k]? := fun k hk => setRow_other w r.block k cur' hk
  have hthis : (w.setRow r.block cur').heap[r.block]? = some (.cells cur' T fr) := setRow_heap w r.block cur cur' T fr hcur
  have part : ∀ k x, (h.set b (.live true fl cs'))[k]? = some x → (k ≠ b ∧ h[k]? = some x) ∨ (k = b ∧ x = .live true fl cs') := by
    intro k x hx
    rw [List.getElem?_set] at hx
    split at hx
    · rename_i e; subst e
      first
        | (cases hx; exact .inr ⟨rfl, rfl⟩)
        | (rw [if_pos hbl] at hx; cases hx; exact .inr ⟨rfl, rfl⟩)
    · rename_i e; exact .inl ⟨fun h => e h.symm, hx⟩
  have hB := i.hr.blk b r true fl cs hr hb
  refine ⟨⟨by simp [i.hr.len], ?_, ?_⟩, i.os, i.tape, i.output, by rw [size_setRow]; exact i.size, ?_, ?_⟩
  · intro k r' wr' fl' cs'' h1 h2
    rcases part k _ h2 with ⟨hk, h3⟩ | ⟨hk, h3⟩
    · have hne := i.hr.own b k r r' fl cs wr' fl' cs'' (fun e => hk e.symm) hr h1 hb h3
      exact (i.hr.blk k r' wr' fl' cs'' h1 h3).world (hother _ fun e => hne e.symm)
    · cases h3
      subst hk
      rw [hr] at h1; cases h1
      obtain ⟨cur0, T0, fr0, e1, e2, e3, e4, e5⟩ := hB.ex
      rw [hcur] at e1; cases e1
      exact ⟨cur', T, fr, hthis, by rw [hsz]; exact e2, hlen, hcs, e5⟩
  · intro k k' r1 r2 fl1 cs1 wr2 fl2 cs2 hne h1 h1' h2 h2'
    rcases part k _ h2 with ⟨hk, h3⟩ | ⟨hk, h3⟩ <;> rcases part k' _ h2' with ⟨hk', h3'⟩ | ⟨hk', h3'⟩
    · exact i.hr.own k k' r1 r2 _ _ _ _ _ hne h1 h1' h3 h3'
    · subst hk'; exact i.hr.own k k' r1 r2 _ _ _ _ _ hne h1 h1' h3 hb
    · subst hk; exact i.hr.own k k' r1 r2 _ _ _ _ _ hne h1 h1' hb h3'
    · exact (hne (hk.trans hk'.symm)).elim
  · intro k hk hS
    have hm := i.mine b r fl cs hr hb
    rw [hother k (fun e => by
      subst e
      rcases hm with hm | hm
      · exact hS hm
      · omega)]
    exact i.keep k hk hS
  · intro k r' fl' cs'' h1 h2
    rcases part k _ h2 with ⟨hk, h3⟩ | ⟨hk, h3⟩
    · exact i.mine k r' _ _ h1 h3
    · subst hk; exact i.mine k r' _ _ h1 hb

end Go.Ab
