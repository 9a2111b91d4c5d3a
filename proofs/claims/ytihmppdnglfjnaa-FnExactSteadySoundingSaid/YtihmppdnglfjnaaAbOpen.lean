/- Own work: a part of the library under the claims of this seat. -/
/-
A law's argument that is a slice: from what the statement's frame says of it to the abstract machine's block.
-/
import Derived.Test.YtihmppdnglfjnaaAbTyped
import Derived.Deep.Slices
namespace Go.Ab
open Go.RowKit Go.ChangeShapes Go.WideShapes Go.ChangeAt

section
variable {P : Program}
/-- the kinds of a type's cells, if they are numbers all -/
def goF (P : Program) (rec : TypeId → Option (List CK)) : Nat → List Field → Option (List CK)
  | _, [] => some []
  | acc, f :: fs => match rec f.type with
    | some ks => cond (Nat.beq f.offset acc && Nat.beq (P.cellsOf f.type) ks.length) ((goF P rec (acc + ks.length) fs).map (ks ++ ·)) none
    | none => none
def kindsOf (P : Program) : Nat → TypeId → Option (List CK)
  | 0, _ => none
  | n + 1, t => match P.underlying t with
    | some (.float .f32) => some [.f32]
    | some (.float .f64) => some [.f64]
    | some (.int k) => some [.int k]
    | some .bool => some [.bool]
    | some (.struct fs) => match goF P (kindsOf P n) 0 fs.toList with
      | some ks => cond (Nat.beq ks.length (P.cellsOf t)) (some ks) none
      | none => none
    | _ => none

section
variable {H : Type} {enc : TypeId × Value → H} {w : World} {base : Nat} {spare : Nat → Bool} {held : Bool}

def Typed (ks : List CK) (cs : List Value) : Prop := ∃ as : List A, L2 CK.is ks as ∧ L2 (SRel []) as cs

theorem typed_one {k : CK} {a : A} {v : Value} (h1 : k.is a) (h2 : SRel [] a v) : Typed [k] [v] := ⟨[a], L2.one h1, L2.one h2⟩
theorem typed_append {ks ks' : List CK} {cs cs' : List Value} (h : Typed ks cs) (h' : Typed ks' cs') : Typed (ks ++ ks') (cs ++ cs') := by
  obtain ⟨as, h1, h2⟩ := h
  obtain ⟨bs, h3, h4⟩ := h'
  exact ⟨as ++ bs, h1.append h3, h2.append h4⟩

theorem trod_float {k : FloatKind} {fuel : Nat} {t : TypeId} {cs : List Value} {x : DataW H × List MemPlace} (ht : P.underlying t = some (.float k)) (h : DataW.trod enc P w base spare held fuel t cs = some x) :
    ∃ b, cs = [.float k b] ∧ (Lit.float k b).wf = true := by
  cases fuel with
  | zero => cases h
  | succ n =>
    unfold DataW.trod at h
    rw [ht] at h
    split at h <;> simp_all
theorem goF_typed {rec : TypeId → Option (List CK)} {m : Nat} {cs : List Value}
    (ih : ∀ t ks cs' x, rec t = some ks → DataW.trod enc P w base spare held m t cs' = some x → Typed ks cs') : ∀ (fs : List Field) (acc : Nat) (ks : List CK) (xs : List (DataW H × List MemPlace)),
    goF P rec acc fs = some ks → (∀ (i : Nat) (f : Field), fs[i]? = some f → DataW.trod enc P w base spare held m f.type ((cs.drop f.offset).take (P.cellsOf f.type)) = xs[i]?) → fs.length = xs.length →
    Typed ks ((cs.drop acc).take ks.length) := by
  intro fs
  induction fs with
  | nil =>
    intro acc ks xs h _ _
    cases h
    exact ⟨[], L2.nil _, by simp; exact L2.nil _⟩
  | cons f fs ih2 =>
    intro acc ks xs h hm hl
    unfold goF at h
    split at h
    · rename_i k1 hk1
      cases hb : (Nat.beq f.offset acc && Nat.beq (P.cellsOf f.type) k1.length) with
      | false => rw [hb] at h; cases h
      | true =>
        rw [hb, cond_true, Option.map_eq_some_iff] at h
        obtain ⟨k2, hk2, rfl⟩ := h
        rw [Bool.and_eq_true] at hb
        have e1 := Nat.eq_of_beq_eq_true hb.1
        have e2 := Nat.eq_of_beq_eq_true hb.2
        cases xs with
        | nil => cases hl
        | cons x xs =>
          have t1 := ih _ _ _ _ hk1 (hm 0 f rfl)
          have t2 := ih2 _ _ xs hk2 (fun i g hg => by simpa using hm (i + 1) g (by simpa using hg)) (Nat.succ.inj hl)
          rw [e1, e2] at t1
          have : (cs.drop acc).take (k1 ++ k2).length = (cs.drop acc).take k1.length ++ (cs.drop (acc + k1.length)).take k2.length := by
            rw [List.length_append, List.take_add, List.drop_drop]
          show Typed (k1 ++ k2) _
          rw [this]
          exact typed_append t1 t2
    · cases h

theorem trod_typed : ∀ (n m : Nat) (t : TypeId) (ks : List CK) (cs : List Value) (x : DataW H × List MemPlace), kindsOf P n t = some ks → DataW.trod enc P w base spare held m t cs = some x → Typed ks cs := by
  intro n
  induction n with
  | zero => intro m t ks cs x h; cases h
  | succ n ih =>
    intro m t ks cs x h hx
    unfold kindsOf at h
    split at h
    · rename_i e
      cases h
      obtain ⟨b, rfl, hw⟩ := trod_float e hx
      exact typed_one (k := .f32) (a := .f32 (toW .f32 b)) ⟨_, rfl⟩ ⟨b, rfl, (toW_val (can_lt (by have h2 := of_decide_eq_true (p := b < 2 ^ 32) hw; exact h2))).symm⟩
    · rename_i e
      cases h
      obtain ⟨b, rfl, hw⟩ := trod_float e hx
      exact typed_one (k := .f64) (a := .f64 (toW .f64 b)) ⟨_, rfl⟩ ⟨b, rfl, (toW_val (can_lt (by have h2 := of_decide_eq_true (p := b < 2 ^ 64) hw; exact h2))).symm⟩
    · rename_i k e
      cases h
      obtain ⟨b, rfl, _, hw⟩ := DataW.trod_int e hx
      exact typed_one (k := .int k) (a := .int k b) ⟨_, rfl, (by simpa [Lit.wf] using hw : k.min ≤ b ∧ b ≤ k.max)⟩ rfl
    · rename_i e
      cases h
      obtain ⟨b, rfl, _⟩ := DataW.trod_bool e hx
      exact typed_one (k := .bool) (a := .bool b) ⟨_, rfl⟩ rfl
    · rename_i fs e
      split at h
      · rename_i ks' hk
        cases hb : Nat.beq ks'.length (P.cellsOf t) with
        | false => rw [hb] at h; cases h
        | true =>
          rw [hb] at h
          cases h
          obtain ⟨xs, m', rfl, _, hl, hx1, hx2⟩ := DataW.trod_struct e hx
          have := goF_typed (fun t ks cs' x => ih _ t ks cs' x) fs.toList 0 ks xs hk (fun i f hf => hx2 i f (by simpa using hf)) (by simpa using hx1.symm)
          rw [List.drop_zero, List.take_of_length_le (by rw [hl, Nat.eq_of_beq_eq_true hb]; exact Nat.le_refl _)] at this
          exact this
      · cases h
    · cases h

theorem rowAt_le {fits : TypeId → Bool} : ∀ (d : Nat) (e : TypeId) (count off n : Nat), rowAt P fits d e count off n = true → off ≤ count * P.cellsOf e := by
  intro d
  cases d with
  | zero => intro e count off n h; cases h
  | succ d =>
    intro e count off n h
    unfold rowAt at h
    simp only at h
    split at h
    · cases h
    · rename_i hs
      have hdm := Nat.div_add_mod off (P.cellsOf e)
      have hml := Nat.mod_lt off (Nat.pos_of_ne_zero hs)
      rw [Bool.or_eq_true] at h
      rcases h with h | h
      · simp only [Bool.and_eq_true, beq_iff_eq, decide_eq_true_eq] at h
        have : off / P.cellsOf e ≤ count := by omega
        have h2 : P.cellsOf e * (off / P.cellsOf e) ≤ P.cellsOf e * count := Nat.mul_le_mul_left _ this
        rw [Nat.mul_comm count]
        omega
      · rw [Bool.and_eq_true, decide_eq_true_eq] at h
        have h2 : P.cellsOf e * (off / P.cellsOf e + 1) ≤ P.cellsOf e * count := Nat.mul_le_mul_left _ h.1
        rw [Nat.mul_add] at h2
        rw [Nat.mul_comm count]
        omega
theorem liesAt_le : ∀ (d : Nat) (e : TypeId) (count off : Nat) (u : TypeId) (n : Nat), liesAt P d e count off u n = true → off ≤ count * P.cellsOf e := by
  intro d
  induction d with
  | zero => intro e count off u n h; cases h
  | succ d ih =>
    intro e count off u n h
    unfold liesAt at h
    rw [Bool.or_eq_true] at h
    rcases h with h | h
    · exact rowAt_le _ _ _ _ _ h
    · split at h
      · exact ih _ _ _ _ _ h
      · cases h

theorem add_none {a : Addr} (h : a.spot = none) (n : Nat) : a.add n = ⟨a.block, a.off + n, none⟩ := by
  unfold Addr.add
  split
  · rename_i h0
    subst h0
    cases a
    simp at h
    subst h
    rfl
  · rfl
theorem cell_at {w : World} {b off : Nat} {cur : Array Value} {T : TypeId} {fr : Nat × Nat} {v : Value} (hb : w.heap[b]? = some (.cells cur T fr)) (h : w.cell? ⟨b, off, none⟩ = some v) : cur[off]? = some v := by
  unfold World.cell? at h
  simp only [hb] at h
  simpa using h

/-- a slice whose elements are numbers of one kind -/
theorem open_blk {t e : TypeId} {es n0 : Nat} {k0 : CK} {v : Value} {d : DataW H} {p : List MemPlace} {base2 : Nat} (ht : P.underlying t = some (.slice e)) (hk : kindsOf P n0 e = some (List.replicate es k0)) (hes : P.cellsOf e = es) (hes0 : 0 < es)
    (h : DataW.Trod enc P w 0 (fun _ => true) held t v d p) (hv : Value.okWide P w .any base2 t v) :
    v = .slice none 0 0 ∨ ∃ (r : Ref) (n : Nat) (cs : List A), BRel [] w r false true cs ∧ L2 CK.is (List.replicate (n * es) k0) cs ∧ n ≤ maxLen ∧ ∀ (γ : Gam) (b : Nat), γ[b]? = some r → VRel γ (.slice b 0 n es) v := by
  obtain ⟨a0, len0, cap0, hv0⟩ := okWide_slice ht hv
  subst hv0
  obtain ⟨fuel, h⟩ := h
  have h' : DataW.trod enc P w 0 (fun _ => true) held fuel t [.slice a0 len0 cap0] = some (d, p) := h
  rcases Deep.open_slice ht h' with ⟨h0, _⟩ | ⟨a, len, cap, m, n, D, Pl, hcs, _, hl, hm, hmm, _, hx⟩
  · left
    simpa using h0
  right
  simp only [List.cons.injEq, Value.slice.injEq, and_true] at hcs
  obtain ⟨rfl, rfl, rfl⟩ := hcs
  simp only [if_true] at hmm
  subst hmm
  unfold Value.okWide Cell.okWide Cell.ok at hv
  simp only [ht] at hv
  obtain ⟨_, _, _, hsp, row, cells, hsh, hla⟩ := hv
  obtain ⟨cur, fr, hcur⟩ : ∃ cur fr, w.heap[a.block]? = some (.cells cur row fr) ∧ cells = cur.size := by
    unfold World.shape? at hsh
    split at hsh
    · rename_i c el fr0 hc
      simp at hsh
      exact ⟨c, fr0, by rw [hc, hsh.1], hsh.2.symm⟩
    · cases hsh
  obtain ⟨hcur, hsz⟩ := hcur
  have hoff : a.off ≤ cur.size := by
    have := liesAt_le _ _ _ _ _ _ hla
    have h2 := Nat.div_mul_le_self cells (P.cellsOf row)
    omega
  have each : ∀ i, i < m → ∃ as : List A, L2 CK.is (List.replicate es k0) as ∧ ∀ j, j < es → ∃ c u, as[j]? = some c ∧ cur[a.off + i * es + j]? = some u ∧ SRel [] c u := by
    intro i hi
    obtain ⟨cs', h1, h2⟩ := hx i hi
    obtain ⟨as, g1, g2⟩ := trod_typed _ _ _ _ _ _ hk h2
    refine ⟨as, g1, fun j hj => ?_⟩
    obtain ⟨_, hlen, hc⟩ := World.cells?_some h1
    have hla : as.length = es := by rw [← g1.1]; simp
    have hj1 : as[j]? = some as[j] := List.getElem?_eq_getElem (by omega)
    obtain ⟨u, hu, hs⟩ := g2.get hj1
    refine ⟨_, u, hj1, ?_, hs⟩
    have := hc j (by rw [hes]; exact hj)
    rw [add_none hsp, add_none rfl, hes, hu] at this
    exact cell_at hcur this
  have hbound : a.off + m * es ≤ cur.size := by
    cases m with
    | zero => simpa using hoff
    | succ m =>
      obtain ⟨as, _, g⟩ := each m (by omega)
      obtain ⟨c, u, _, hu, _⟩ := g (es - 1) (by omega)
      obtain ⟨hlt, _⟩ := Array.getElem?_eq_some_iff.1 hu
      rw [Nat.succ_mul]
      omega
  have key : ∀ n, n ≤ m → ∃ cs : List A, L2 CK.is (List.replicate (n * es) k0) cs ∧ ∀ (i : Nat) (c : A), cs[i]? = some c → ∃ u, cur[a.off + i]? = some u ∧ SRel [] c u := by
    intro n
    induction n with
    | zero => intro _; exact ⟨[], by rw [Nat.zero_mul]; exact L2.nil _, fun i c hc => by simp at hc⟩
    | succ n ih =>
      intro hn
      obtain ⟨cs, g1, g2⟩ := ih (by omega)
      obtain ⟨as, f1, f2⟩ := each n (by omega)
      have hcl : cs.length = n * es := by rw [← g1.1]; simp
      refine ⟨cs ++ as, ?_, ?_⟩
      · rw [Nat.succ_mul, ← List.replicate_append_replicate]
        exact g1.append f1
      · intro i c hc
        by_cases hi : i < cs.length
        · rw [List.getElem?_append_left hi] at hc
          exact g2 i c hc
        · rw [List.getElem?_append_right (by omega)] at hc
          have hlas : as.length = es := by rw [← f1.1]; simp
          have hlt := (List.getElem?_eq_some_iff.1 hc).1
          obtain ⟨c', u, hc', hu, hs⟩ := f2 (i - cs.length) (by omega)
          rw [hc] at hc'
          cases hc'
          refine ⟨u, ?_, hs⟩
          rw [show a.off + i = a.off + n * es + (i - cs.length) by omega]
          exact hu
  obtain ⟨cs, g1, g2⟩ := key len0 hl
  have hcl : cs.length = len0 * es := by rw [← g1.1]; simp
  have hle : len0 * es ≤ m * es := Nat.mul_le_mul_right _ hl
  refine ⟨⟨a.block, a.off, m * es⟩, len0, cs, ⟨cur, row, fr, hcur, hbound, by rw [hcl]; exact hle, fun i c hc => g2 i c hc, fun h => by cases h⟩, g1, Nat.le_trans hl hm, ?_⟩
  intro γ b hb
  refine ⟨_, a.off, m, hb, ?_, hl, hm, Nat.le_refl _, Nat.le_refl _, Or.inr rfl⟩
  rw [show (⟨a.block, a.off, none⟩ : Addr) = a by cases a; simp at hsp; subst hsp; rfl]

/-- one block of the call -/
theorem hrel_one {w : World} {r : Ref} {cs : List A} (h : BRel [] w r false true cs) : HRel [r] [.live false true cs] w := by
  refine ⟨rfl, ?_, ?_⟩
  · intro k r' wr fl cs' hr hb
    cases k with
    | zero =>
      simp at hr hb
      obtain ⟨rfl, rfl, rfl⟩ := hb
      subst hr
      exact h.gam (Sub.nil _)
    | succ k => simp at hb
  · intro k k' r1 r2 fl cs1 wr' fl' cs2 hne h1 h2 h3 h4
    cases k with
    | zero => simp at h3
    | succ k => simp at h3
theorem hrel_two {w : World} {r r' : Ref} {cs cs' : List A} (h : BRel [] w r false true cs) (h' : BRel [] w r' false true cs') : HRel [r, r'] [.live false true cs, .live false true cs'] w := by
  refine ⟨rfl, ?_, ?_⟩
  · intro k q wr fl c hr hb
    match k with
    | 0 =>
      simp at hr hb
      obtain ⟨rfl, rfl, rfl⟩ := hb
      subst hr
      exact h.gam (Sub.nil _)
    | 1 =>
      simp at hr hb
      obtain ⟨rfl, rfl, rfl⟩ := hb
      subst hr
      exact h'.gam (Sub.nil _)
    | k + 2 => simp at hb
  · intro k k' r1 r2 fl cs1 wr' fl' cs2 hne h1 h2 h3 h4
    match k with
    | 0 => simp at h3
    | 1 => simp at h3
    | k + 2 => simp at h3
end
end
end Go.Ab
