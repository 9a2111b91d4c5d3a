/- Own work: a part of the library under the claims of this seat. -/
/-
The soundness of the abstract machine's calls: the blocks that are handed on, and what comes back.
-/
import Derived.Test.YtihmppdnglfjnaaAbNum
namespace Go.Ab
open Go.RowKit

theorem any_beq {l : List Nat} {b : Nat} : l.any (Nat.beq b) = true ↔ b ∈ l := by
  rw [List.any_eq_true]
  constructor
  · rintro ⟨x, hx, h⟩
    have := Nat.eq_of_beq_eq_true h
    subst this; exact hx
  · intro h; exact ⟨b, h, Nat.beq_refl b⟩

theorem mem_ins {l : List Nat} {b x : Nat} : x ∈ ins l b ↔ x ∈ l ∨ x = b := by
  unfold ins
  cases h : l.any (Nat.beq b) with
  | true =>
    have := any_beq.1 h
    simp only [cond_true]
    constructor
    · exact .inl
    · rintro (h | rfl)
      · exact h
      · exact this
  | false => simp
theorem nodup_ins {l : List Nat} {b : Nat} (h : l.Nodup) : (ins l b).Nodup := by
  unfold ins
  cases hb : l.any (Nat.beq b) with
  | true => exact h
  | false =>
    have : b ∉ l := fun hm => by rw [any_beq.2 hm] at hb; cases hb
    simp only [cond_false]
    rw [List.nodup_append]
    refine ⟨h, by simp, ?_⟩
    intro x hx y hy
    simp at hy; subst hy
    intro e; subst e; exact this hx

/-- the blocks that a value names -/
def AV.names : A → List Nat
  | .ptr b _ => [b]
  | .slice b _ _ _ => [b]
  | .clo _ cap => cap.map (·.1)
  | _ => []

theorem mem_foldl_ins {cap : List (Nat × Nat)} : ∀ {l : List Nat} {x : Nat}, x ∈ cap.foldl (fun l p => ins l p.1) l ↔ x ∈ l ∨ x ∈ cap.map (·.1) := by
  induction cap with
  | nil => intro l x; simp
  | cons p cap ih =>
    intro l x
    simp only [List.foldl_cons, ih, mem_ins, List.map_cons, List.mem_cons]
    constructor
    · rintro ((h | h) | h)
      · exact .inl h
      · exact .inr (.inl h)
      · exact .inr (.inr h)
    · rintro (h | h | h)
      · exact .inl (.inl h)
      · exact .inl (.inr h)
      · exact .inr h
theorem nodup_foldl_ins {cap : List (Nat × Nat)} : ∀ {l : List Nat}, l.Nodup → (cap.foldl (fun l p => ins l p.1) l).Nodup := by
  induction cap with
  | nil => intro l h; exact h
  | cons p cap ih => intro l h; exact ih (nodup_ins h)

theorem mem_root1 {a : A} {l : List Nat} {x : Nat} : x ∈ AV.root1 l a ↔ x ∈ l ∨ x ∈ a.names := by
  cases a <;> simp [AV.root1, AV.names, mem_ins, mem_foldl_ins]
theorem nodup_root1 {a : A} {l : List Nat} (h : l.Nodup) : (AV.root1 l a).Nodup := by
  cases a <;> simp only [AV.root1] <;> first | exact h | exact nodup_ins h | exact nodup_foldl_ins h
theorem mem_roots1 {vs : List A} : ∀ {l : List Nat} {x : Nat}, x ∈ roots1 l vs ↔ x ∈ l ∨ ∃ a ∈ vs, x ∈ a.names := by
  induction vs with
  | nil => intro l x; simp [roots1]
  | cons a vs ih =>
    intro l x
    show x ∈ roots1 (AV.root1 l a) vs ↔ _
    rw [ih, mem_root1]
    simp only [List.mem_cons, exists_eq_or_imp]
    constructor
    · rintro ((h | h) | h)
      · exact .inl h
      · exact .inr (.inl h)
      · exact .inr (.inr h)
    · rintro (h | h | h)
      · exact .inl (.inl h)
      · exact .inl (.inr h)
      · exact .inr h
theorem nodup_roots1 {vs : List A} : ∀ {l : List Nat}, l.Nodup → (roots1 l vs).Nodup := by
  induction vs with
  | nil => intro l h; exact h
  | cons a vs ih => intro l h; exact ih (nodup_root1 h)

theorem pos_get {l : List Nat} {b : Nat} (h : b ∈ l) : l[pos l b]? = some b := by
  unfold pos
  have hlt := List.idxOf_lt_length_of_mem h
  rw [List.getElem?_eq_getElem hlt, List.getElem_idxOf hlt]
theorem pos_lt {l : List Nat} {b : Nat} (h : b ∈ l) : pos l b < l.length := List.idxOf_lt_length_of_mem h
theorem pos_of_get {l : List Nat} (hn : l.Nodup) {i b : Nat} (h : l[i]? = some b) : pos l b = i := by
  obtain ⟨hi, he⟩ := List.getElem?_eq_some_iff.1 h
  subst he
  exact hn.idxOf_getElem i hi

/-- a value whose blocks have other numbers -/
theorem SRel.ren {γ γ' : Gam} {f : Nat → Nat} {a : A} {v : Value} (h : SRel γ a v) (hf : ∀ b ∈ a.names, ∀ r, γ[b]? = some r → γ'[f b]? = some r) : SRel γ' (a.ren1 f) v := by
  cases a with
  | ptr b i => obtain ⟨r, hr, hv⟩ := h; exact ⟨r, hf b (by simp [AV.names]) r hr, hv⟩
  | slice b i n es => obtain ⟨r, co, cap, hr, rest⟩ := h; exact ⟨r, co, cap, hf b (by simp [AV.names]) r hr, rest⟩
  | clo g cap =>
    obtain ⟨vs, hv, hl⟩ := h
    refine ⟨vs, hv, by simp [hl.1], ?_⟩
    intro i p v hp hv'
    rw [List.getElem?_map] at hp
    cases hc : cap[i]? with
    | none => rw [hc] at hp; cases hp
    | some p0 =>
      rw [hc] at hp; cases hp
      obtain ⟨r, hr, he⟩ := hl.2 i p0 v hc hv'
      refine ⟨r, hf p0.1 ?_ r hr, he⟩
      simp only [AV.names, List.mem_map]
      exact ⟨p0, List.mem_of_getElem? hc, rfl⟩
  | _ => exact h
theorem WRel.ren {γ γ' : Gam} {f : Nat → Nat} {a : A} {v : Value} (h : WRel γ a v) (hf : ∀ b ∈ a.names, ∀ r, γ[b]? = some r → γ'[f b]? = some r) : WRel γ' (a.ren1 f) v := by
  have m := @SRel.ren γ γ' f a v
  cases a with
  | agg cs => exact h
  | any => exact h
  | undef => exact h
  | _ => exact m h hf
theorem VRel.ren1 {γ γ' : Gam} {f : Nat → Nat} {a : A} {v : Value} (hn : a.noTup = true) (h : VRel γ a v) (hf : ∀ b ∈ a.names, ∀ r, γ[b]? = some r → γ'[f b]? = some r) : VRel γ' (a.ren1 f) v := by
  have m := @WRel.ren γ γ' f a v
  cases a with
  | tup vs => simp [AV.noTup] at hn
  | _ => exact m h hf
theorem VRel.renOn {γ γ' : Gam} {f : Nat → Nat} {a : A} {v : Value} (h : VRel γ a v) (hf : ∀ b ∈ a.roots [], ∀ r, γ[b]? = some r → γ'[f b]? = some r) : VRel γ' (a.ren f) v := by
  have m := @WRel.ren γ γ' f a v
  have hn : (∀ vs, a ≠ .tup vs) → ∀ b ∈ a.names, b ∈ a.roots [] := by
    intro hnt b hb
    have : a.roots [] = a.root1 [] := by cases a <;> first | rfl | exact (hnt _ rfl).elim
    rw [this]
    exact mem_root1.2 (.inr hb)
  cases a with
  | tup vs =>
    obtain ⟨us, hv, hl⟩ := h
    refine ⟨us, hv, by simp [hl.1], ?_⟩
    intro i x u hx hu
    rw [List.getElem?_map] at hx
    cases hi : vs[i]? with
    | none => rw [hi] at hx; cases hx
    | some x0 =>
      rw [hi] at hx; cases hx
      exact WRel.ren (hl.2 i x0 u hi hu) (fun b hb r hr => hf b (mem_roots1.2 (.inr ⟨x0, List.mem_of_getElem? hi, hb⟩)) r hr)
  | _ => exact m h fun b hb r hr => hf b (hn (fun vs e => by cases e) b hb) r hr
theorem VRel.ren {γ γ' : Gam} {f : Nat → Nat} {a : A} {v : Value} (h : VRel γ a v) (hf : ∀ b r, γ[b]? = some r → γ'[f b]? = some r) : VRel γ' (a.ren f) v := h.renOn fun b _ r hr => hf b r hr

theorem subHeap_go {h : Heap ieee} {k : Heap ieee → R ieee} {r : A × Heap ieee} : ∀ (l : List Nat) (acc : Heap ieee),
    List.rec (motive := fun _ => Heap ieee → R ieee) k (fun (b : Nat) _ (ih : Heap ieee → R ieee) (acc : Heap ieee) => subStep h b ih acc) l acc = some r →
    ∃ hs, k (acc ++ hs) = some r ∧ hs.length = l.length ∧ ∀ (i b : Nat), l[i]? = some b → ∃ wr cs, h[b]? = some (.live wr true cs) ∧ hs[i]? = some (.live wr true cs)
  | [], acc, hh => ⟨[], by simpa using hh, rfl, by simp⟩
  | b :: l, acc, hh => by
    dsimp only at hh
    unfold subStep at hh
    split at hh
    · rename_i wr cs hb
      obtain ⟨hs, h1, h2, h3⟩ := subHeap_go l _ hh
      refine ⟨.live wr true cs :: hs, by simpa using h1, by simp [h2], ?_⟩
      intro i b' hi
      cases i with
      | zero => simp at hi; subst hi; exact ⟨wr, cs, hb, rfl⟩
      | succ i => exact h3 i b' (by simpa using hi)
    · cases hh
theorem subHeap_some {h : Heap ieee} {l : List Nat} {k : Heap ieee → R ieee} {r : A × Heap ieee} (hh : subHeap h l k = some r) :
    ∃ hs, k hs = some r ∧ hs.length = l.length ∧ ∀ (i b : Nat), l[i]? = some b → ∃ wr cs, h[b]? = some (.live wr true cs) ∧ hs[i]? = some (.live wr true cs) := by
  obtain ⟨hs, h1, h2, h3⟩ := subHeap_go (h := h) (k := k) (r := r) l [] hh
  exact ⟨hs, by simpa using h1, h2, h3⟩

/-- the handed blocks' places -/
def subGam (γ : Gam) (l : List Nat) : Gam := l.map fun b => (γ[b]?).getD ⟨0, 0, 0⟩

theorem subGam_get {γ : Gam} {l : List Nat} {i b : Nat} {r : Ref} (hi : l[i]? = some b) (hr : γ[b]? = some r) : (subGam γ l)[i]? = some r := by
  simp [subGam, List.getElem?_map, hi, hr]

theorem sub_hrel {γ : Gam} {h hs : Heap ieee} {w : World} {l : List Nat} (hr : HRel γ h w) (hn : l.Nodup) (hl : hs.length = l.length)
    (hb : ∀ (i b : Nat), l[i]? = some b → ∃ wr cs, h[b]? = some (.live wr true cs) ∧ hs[i]? = some (.live wr true cs)) : HRel (subGam γ l) hs w := by
  have look : ∀ (i : Nat) (x : Blk ieee) (r : Ref), (subGam γ l)[i]? = some r → hs[i]? = some x → ∃ b wr cs, l[i]? = some b ∧ γ[b]? = some r ∧ h[b]? = some x ∧ x = .live wr true cs := by
    intro i x r h1 h2
    have hi : i < l.length := by rw [← hl]; exact (List.getElem?_eq_some_iff.1 h2).1
    obtain ⟨wr, cs, h3, h4⟩ := hb i l[i] (List.getElem?_eq_getElem hi)
    obtain ⟨r', h5, _⟩ := hr.get h3
    have h6 := subGam_get (γ := γ) (List.getElem?_eq_getElem hi) h5
    rw [h1] at h6; cases h6
    rw [h2] at h4; cases h4
    exact ⟨l[i], wr, cs, List.getElem?_eq_getElem hi, h5, h3, rfl⟩
  refine ⟨by simp [subGam, hl], ?_, ?_⟩
  · intro k r wr fl cs h1 h2
    obtain ⟨b, wr', cs', e1, e2, e3, e4⟩ := look k _ r h1 h2
    cases e4
    have := hr.blk b r _ _ _ e2 e3
    obtain ⟨cur, T, fr, x1, x2, x3, x4, x5⟩ := this.ex
    exact ⟨cur, T, fr, x1, x2, x3, x4, x5⟩
  · intro k k' r r' fl cs wr' fl' cs' hne h1 h1' h2 h2'
    obtain ⟨b, _, _, e1, e2, e3, _⟩ := look k _ r h1 h2
    obtain ⟨b', _, _, e1', e2', e3', _⟩ := look k' _ r' h1' h2'
    refine hr.own b b' r r' fl cs wr' fl' cs' ?_ e2 e2' e3 e3'
    intro e; subst e
    have h1 := pos_of_get hn e1
    have h2 := pos_of_get hn e1'
    exact hne (h1.symm.trans h2)

/-- the arguments, told over the handed blocks -/
theorem args_ren {γ : Gam} {args : List A} {vs : List Value} (ha : L2 (VRel γ) args vs) (hn : args.all AV.noTup = true) :
    L2 (VRel (subGam γ (roots1 [] args))) (args.map (AV.ren1 (pos (roots1 [] args)))) vs := by
  refine ⟨by simp [ha.1], ?_⟩
  intro i a v h1 h2
  rw [List.getElem?_map] at h1
  cases hx : args[i]? with
  | none => rw [hx] at h1; cases h1
  | some a0 =>
    rw [hx] at h1; cases h1
    have hm := List.mem_of_getElem? hx
    refine VRel.ren1 (List.all_eq_true.1 hn _ hm) (ha.2 i a0 v hx h2) ?_
    intro b hb r hr'
    have hbl : b ∈ roots1 [] args := mem_roots1.2 (.inr ⟨a0, hm, hb⟩)
    exact subGam_get (pos_get hbl) hr'

theorem merge_live {x : Blk ieee} {y : Option (Blk ieee)} {wr fl : Bool} {cs : List A} (h : merge x y = .live wr fl cs) : ∃ cs0, x = .live wr true cs0 ∧ y = some (.live wr true cs) ∧ fl = true := by
  unfold merge at h
  split at h
  · rename_i w0 c0 w1 c1
    cases hw : (w0 == w1) with
    | true =>
      rw [hw] at h
      simp only [cond_true, Blk.live.injEq] at h
      obtain ⟨rfl, rfl, rfl⟩ := h
      have : w0 = w1 := by simpa using hw
      subst this
      exact ⟨_, rfl, rfl, rfl⟩
    | false => rw [hw] at h; simp at h
  · simp at h
theorem fresh_live {x : Blk ieee} {wr fl : Bool} {cs : List A} (h : fresh x = .live wr fl cs) : x = .live true true cs ∧ wr = true ∧ fl = true := by
  unfold fresh at h
  split at h
  · cases h; exact ⟨rfl, rfl, rfl⟩
  · cases h

/-- what comes back -/
theorem back_inv {w0 w w' : World} {S : Nat → Prop} {γ γ' : Gam} {h hs h' : Heap ieee} {l : List Nat} (i : Inv w0 S γ h w) (hl : hs.length = l.length)
    (hb : ∀ (i b : Nat), l[i]? = some b → ∃ wr cs, h[b]? = some (.live wr true cs) ∧ hs[i]? = some (.live wr true cs))
    (hsub : Sub (subGam γ l) γ') (j : Inv w (wset (subGam γ l) hs) γ' h' w') :
    Inv w0 S (γ ++ γ'.drop l.length) (backHeap h l h') w' ∧ Sub γ (γ ++ γ'.drop l.length) ∧ ∀ b r, γ'[b]? = some r → (γ ++ γ'.drop l.length)[backIdx h l b]? = some r := by
  have hlen := i.hr.len
  have hgl : l.length ≤ γ'.length := by
    rcases Nat.lt_or_ge γ'.length l.length with hlt | hge
    · have hx : l.length - 1 < (subGam γ l).length := by simp [subGam]; omega
      have h1 : (subGam γ l)[l.length - 1]? = some (subGam γ l)[l.length - 1] := List.getElem?_eq_getElem hx
      have h2 := (List.getElem?_eq_some_iff.1 (hsub _ _ h1)).1
      omega
    · exact hge
  -- where a block of the new heap comes from
  have look : ∀ (k : Nat) (r : Ref) (wr fl : Bool) (cs : List A), (γ ++ γ'.drop l.length)[k]? = some r → (backHeap h l h')[k]? = some (.live wr fl cs) →
      (k < γ.length ∧ γ[k]? = some r ∧ h[k]? = some (.live wr fl cs) ∧ k ∉ l) ∨
      (∃ (m : Nat) (cs0 : List A), k < γ.length ∧ γ[k]? = some r ∧ h[k]? = some (.live wr true cs0) ∧ l[m]? = some k ∧ γ'[m]? = some r ∧ h'[m]? = some (.live wr true cs) ∧ fl = true) ∨
      (∃ m : Nat, k = γ.length + (m - l.length) ∧ l.length ≤ m ∧ γ'[m]? = some r ∧ h'[m]? = some (.live true true cs) ∧ wr = true ∧ fl = true) := by
    intro k r wr fl cs h1 h2
    by_cases hk : k < γ.length
    · rw [List.getElem?_append_left hk] at h1
      unfold backHeap at h2
      rw [List.getElem?_append_left (by simp; omega), List.getElem?_map, List.getElem?_zipIdx] at h2
      cases hx : h[k]? with
      | none => rw [hx] at h2; simp at h2
      | some x =>
        rw [hx] at h2
        simp only [Option.map_some, Option.some.injEq, Nat.zero_add, back1] at h2
        cases hm : l.any (Nat.beq k) with
        | false =>
          rw [hm] at h2
          simp only [cond_false] at h2
          subst h2
          exact .inl ⟨hk, h1, rfl, fun hmem => by rw [any_beq.2 hmem] at hm; cases hm⟩
        | true =>
          rw [hm] at h2
          simp only [cond_true] at h2
          obtain ⟨cs0, e1, e2, e3⟩ := merge_live h2
          have hmem := any_beq.1 hm
          have hp := pos_get hmem
          refine .inr (.inl ⟨pos l k, cs0, hk, h1, by rw [e1], hp, hsub _ _ (subGam_get hp h1), e2, e3⟩)
    · rw [List.getElem?_append_right (by omega), List.getElem?_drop] at h1
      unfold backHeap at h2
      rw [List.getElem?_append_right (by simp; omega), List.getElem?_map, List.getElem?_drop] at h2
      simp only [List.length_map, List.length_zipIdx, ← hlen] at h2
      cases hx : h'[l.length + (k - γ.length)]? with
      | none => rw [hx] at h2; simp at h2
      | some x =>
        rw [hx] at h2
        simp only [Option.map_some, Option.some.injEq] at h2
        obtain ⟨e1, e2, e3⟩ := fresh_live h2
        refine .inr (.inr ⟨l.length + (k - γ.length), by omega, by omega, h1, by rw [hx, e1], e2, e3⟩)
  have ltw : ∀ (k : Nat) (r : Ref) (wr fl : Bool) (cs : List A), γ[k]? = some r → h[k]? = some (.live wr fl cs) → r.block < w.heap.size := fun k r wr fl cs h1 h2 => (i.hr.blk k r wr fl cs h1 h2).lt
  -- a writable block that was handed
  have handed : ∀ b, wset (subGam γ l) hs b → ∃ (k : Nat) (r : Ref) (cs : List A), k ∈ l ∧ γ[k]? = some r ∧ h[k]? = some (.live true true cs) ∧ r.block = b := by
    rintro b ⟨m, r, fl, cs, h1, h2, h3⟩
    have hm : m < l.length := by rw [← hl]; exact (List.getElem?_eq_some_iff.1 h2).1
    obtain ⟨wr, cs', e1, e2⟩ := hb m l[m] (List.getElem?_eq_getElem hm)
    rw [h2] at e2; cases e2
    obtain ⟨r', e3, _⟩ := i.hr.get e1
    have e4 := subGam_get (γ := γ) (List.getElem?_eq_getElem hm) e3
    rw [h1] at e4; cases e4
    exact ⟨l[m], r, cs, List.getElem_mem hm, e3, e1, h3⟩
  have hsubγ : Sub γ (γ ++ γ'.drop l.length) := Sub.append _ _
  -- a new block and one that the caller had
  have newold : ∀ (m k' : Nat) (r r' : Ref) (cs cs' : List A) (wr' fl' : Bool), l.length ≤ m → γ'[m]? = some r → h'[m]? = some (.live true true cs) →
      k' < γ.length → γ[k']? = some r' → h[k']? = some (.live wr' fl' cs') → (k' ∈ l → ∃ (m' : Nat) (wr2 fl2 : Bool) (cs2 : List A), l[m']? = some k' ∧ γ'[m']? = some r' ∧ h'[m']? = some (.live wr2 fl2 cs2)) → r.block ≠ r'.block := by
    intro m k' r r' cs cs' wr' fl' hm h1 h2 hk' h3 h4 h5
    rcases j.mine m r true cs h1 h2 with hS | hge
    · obtain ⟨k, rk, ck, e1, e2, e3, e4⟩ := handed _ hS
      rw [← e4]
      by_cases hkk : k = k'
      · subst hkk
        obtain ⟨m', wr2, fl2, cs2, f1, f2, f3⟩ := h5 e1
        rw [h3] at e2; cases e2
        have hne : m ≠ m' := by
          have := (List.getElem?_eq_some_iff.1 f1).1
          omega
        have := j.hr.own m m' r r' true cs wr2 fl2 cs2 hne h1 f2 h2 f3
        exact fun _ => this (by rw [← e4])
      · exact i.hr.own k k' rk r' true ck wr' fl' cs' hkk e2 h3 e3 h4
    · have := ltw k' r' wr' fl' cs' h3 h4
      omega
  refine ⟨⟨⟨?_, ?_, ?_⟩, j.os.trans i.os, j.tape.trans i.tape, j.output.trans i.output, Nat.le_trans i.size j.size, ?_, ?_⟩, hsubγ, ?_⟩
  · simp only [backHeap, List.length_append, List.length_map, List.length_zipIdx, List.length_drop, hlen, j.hr.len]
  · intro k r wr fl cs h1 h2
    rcases look k r wr fl cs h1 h2 with ⟨_, e1, e2, e3⟩ | ⟨m, cs0, _, e1, e2, e3, e4, e5, rfl⟩ | ⟨m, _, _, e1, e2, rfl, rfl⟩
    · have hB := i.hr.blk k r wr fl cs e1 e2
      refine (hB.world ?_).gam hsubγ
      refine j.keep _ hB.lt ?_
      intro hS
      obtain ⟨k', r', cs', f1, f2, f3, f4⟩ := handed _ hS
      have hne : k' ≠ k := fun e => e3 (e ▸ f1)
      exact i.hr.own k' k r' r true cs' wr fl cs hne f2 e1 f3 e2 f4
    · obtain ⟨cur, T, fr, x1, x2, x3, x4, x5⟩ := (j.hr.blk m r wr true cs e4 e5).ex
      exact ⟨cur, T, fr, x1, x2, x3, x4, x5⟩
    · obtain ⟨cur, T, fr, x1, x2, x3, x4, x5⟩ := (j.hr.blk m r true true cs e1 e2).ex
      exact ⟨cur, T, fr, x1, x2, x3, x4, x5⟩
  · intro k k' r r' fl cs wr' fl' cs' hne h1 h1' h2 h2'
    rcases look k r _ _ _ h1 h2 with ⟨ek, e1, e2, e3⟩ | ⟨m, cs0, ek, e1, e2, e3, e4, e5, _⟩ | ⟨m, em, ek, e1, e2, _, _⟩ <;>
      rcases look k' r' _ _ _ h1' h2' with ⟨ek', e1', e2', e3'⟩ | ⟨m', cs0', ek', e1', e2', e3', e4', e5', _⟩ | ⟨m', em', ek', e1', e2', _, _⟩
    · exact i.hr.own k k' r r' _ _ _ _ _ hne e1 e1' e2 e2'
    · exact i.hr.own k k' r r' _ _ _ _ _ hne e1 e1' e2 e2'
    · exact (newold m' k r' r _ _ _ _ ek' e1' e2' ek e1 e2 (fun hm => (e3 hm).elim)).symm
    · exact i.hr.own k k' r r' _ _ _ _ _ hne e1 e1' e2 e2'
    · exact i.hr.own k k' r r' _ _ _ _ _ hne e1 e1' e2 e2'
    · exact (newold m' k r' r _ _ _ _ ek' e1' e2' ek e1 e2 (fun _ => ⟨m, _, _, _, e3, e4, e5⟩)).symm
    · exact newold m k' r r' _ _ _ _ ek e1 e2 ek' e1' e2' (fun hm => (e3' hm).elim)
    · exact newold m k' r r' _ _ _ _ ek e1 e2 ek' e1' e2' (fun _ => ⟨m', _, _, _, e3', e4', e5'⟩)
    · have hmm : m ≠ m' := fun e => hne (by rw [em, em', e])
      exact j.hr.own m m' r r' _ _ _ _ _ hmm e1 e1' e2 e2'
  · intro b hlt hS
    rw [j.keep b (Nat.lt_of_lt_of_le hlt i.size) ?_]
    · exact i.keep b hlt hS
    · intro hw
      obtain ⟨k, r, cs, _, e2, e3, e4⟩ := handed _ hw
      subst e4
      rcases i.mine k r true cs e2 e3 with h1 | h1
      · exact hS h1
      · omega
  · intro k r fl cs h1 h2
    rcases look k r _ _ _ h1 h2 with ⟨_, e1, e2, _⟩ | ⟨m, cs0, _, e1, e2, _⟩ | ⟨m, _, _, e1, e2, _, _⟩
    · exact i.mine k r _ _ e1 e2
    · exact i.mine k r _ _ e1 e2
    · rcases j.mine m r true cs e1 e2 with hS | hge
      · obtain ⟨k', r', cs', _, f2, f3, f4⟩ := handed _ hS
        rw [← f4]
        exact i.mine k' r' true cs' f2 f3
      · exact .inr (Nat.le_trans i.size hge)
  · intro b r hr
    unfold backIdx
    cases hx : l[b]? with
    | some k =>
      have hblt := (List.getElem?_eq_some_iff.1 hx).1
      obtain ⟨wr, cs, e1, _⟩ := hb b k hx
      obtain ⟨r', e2, _⟩ := i.hr.get e1
      have e3 := hsub _ _ (subGam_get hx e2)
      rw [hr] at e3; cases e3
      exact hsubγ _ _ e2
    | none =>
      have hge : l.length ≤ b := by
        rcases Nat.lt_or_ge b l.length with h1 | h1
        · rw [List.getElem?_eq_getElem h1] at hx; cases hx
        · exact h1
      rw [List.getElem?_append_right (by simp [hlen]), List.getElem?_drop, ← hlen]
      have : l.length + (γ.length + (b - l.length) - γ.length) = b := by omega
      rw [this]; exact hr

end Go.Ab
