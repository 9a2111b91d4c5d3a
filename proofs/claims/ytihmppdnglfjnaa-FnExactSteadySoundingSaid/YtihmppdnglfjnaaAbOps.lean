/- Own work: a part of the library under the claims of this seat. -/
/-
The soundness of the abstract machine's operations: what an operation of the model does, where the abstract machine has an answer.
-/
import Derived.Test.YtihmppdnglfjnaaAbRel
namespace Go.Ab
open Go.RowKit

/-- the machine's word on a type is the program's -/
def KOk (P : Program) (t : TypeId) : TK → Prop
  | .bool => P.underlying t = some .bool
  | .int k => P.underlying t = some (.int k)
  | .f32 => P.underlying t = some (.float .f32)
  | .f64 => P.underlying t = some (.float .f64)
  | .c64 => P.underlying t = some (.complex .f32)
  | .c128 => P.underlying t = some (.complex .f64)
  | .str => P.underlying t = some .string
  | .ptr => ∃ e, P.underlying t = some (.pointer e)
  | .slice e => P.underlying t = some (.slice e)
  | .func => ∃ ps rs v, P.underlying t = some (.func ps rs v)
  | .struct fs => ∃ fields, P.underlying t = some (.struct fields) ∧ fields.toList.map (fun f => (f.offset, f.type)) = fs
  | .array n e => P.underlying t = some (.array n e)

structure TyOk (P : Program) (t : TypeId) (i : TI ieee) : Prop where
  info : ∃ inf z, P.info? t = some inf ∧ inf.size = i.size ∧ inf.bytes = i.bytes ∧ inf.zero = some z ∧ L2 (SRel []) i.zero z.cells.toList
  kind : KOk P t i.kind

/-- what a decision tree comes to -/
noncomputable def Tr.get {α : Type} (t : Tr α) : Option α := t.run some
theorem Tr.run_eq {α β : Type} (t : Tr α) (k : α → Option β) : t.run k = t.get.bind k := by
  induction t with
  | fail => rfl
  | leaf a => rfl
  | br c x y ihx ihy =>
    cases c
    · exact ihy
    · exact ihx

/-- a call of a function of the program: one that is entered, or one that has no body and answers at once -/
def Invoke (P : Program) (f : FuncId) (vargs : Array Value) (w : World) (Q : Value → World → Prop) : Prop :=
  ((callFunc f vargs).run P w = .ok (.enter f vargs) w ∧ Calls P f vargs w fun e w' => ∃ v, e = .returned v ∧ Q v w') ∨
  ∃ v w', (callFunc f vargs).run P w = .ok (.value v) w' ∧ Q v w'

def wset (γ : Gam) (h : Heap ieee) (b : Nat) : Prop := ∃ (k : Nat) (r : Ref) (fl : Bool) (cs : List A), γ[k]? = some r ∧ h[k]? = some (.live true fl cs) ∧ r.block = b

def CalOk (P : Program) (f : FuncId) : Callee ieee → Prop
  | .pure m => ∀ args av, (m args).get = some av → ∀ (γ : Gam) (vargs : Array Value) (w : World), L2 (VRel γ) args vargs.toList →
      Invoke P f vargs w fun v w' => VRel [] av v ∧ Below w.heap.size w w'
  | .ro m => ∀ args h av, (m args h).get = some av → ∀ (γ : Gam) (vargs : Array Value) (w : World), HRel γ h w → L2 (VRel γ) args vargs.toList →
      Invoke P f vargs w fun v w' => VRel [] av v ∧ Below w.heap.size w w'
  | .rw m => ∀ args h av h', (m args h).get = some (av, h') → ∀ (γ : Gam) (vargs : Array Value) (w : World), HRel γ h w → L2 (VRel γ) args vargs.toList →
      Invoke P f vargs w fun v w' => ∃ γ', Sub γ γ' ∧ VRel γ' av v ∧ Inv w (wset γ h) γ' h' w'

/-- a way of telling a loop's rounds gives nothing that the rounds do not -/
def Mono (F : (List A → Heap ieee → R ieee) → List A → Heap ieee → R ieee) : Prop :=
  ∀ s s' : List A → Heap ieee → R ieee, (∀ v h r, s v h = some r → s' v h = some r) → ∀ v h r, F s v h = some r → F s' v h = some r
def iter2 (F : (List A → Heap ieee → R ieee) → List A → Heap ieee → R ieee) : Nat → List A → Heap ieee → R ieee
  | 0 => fun _ _ => none
  | n + 1 => F (iter2 F n)
structure ItOk (d : LoopD ieee) : Prop where
  sound : ∀ N F, Mono F → ∀ v h r, d.it N F v h = some r → ∃ n, iter2 F n v h = some r
  mono : ∀ N F F', Mono F → Mono F' → (∀ s v h r, F s v h = some r → F' s v h = some r) → ∀ v h r, d.it N F v h = some r → d.it N F' v h = some r

structure CtxOk (P : Program) (c : Cx ieee) : Prop where
  ty : ∀ t i, c.ty t = some i → TyOk P t i
  fn : ∀ f cal, c.fn f = some cal → CalOk P f cal
  mixed : P.follows .mixedOrders = true
  loops : ∀ (j : Nat) (d : LoopD ieee), c.loops[j]? = some d → ItOk d

structure ERel (γ : Gam) (nt : Nat) (e : Env ieee) (a : Act) : Prop where
  dfr : a.defers = []
  size : a.tmps.size = nt
  val : ∀ t, VRel γ (e t) (a.tmps.getD t undef)

theorem ofConst_rel (γ : Gam) (v : Value) : VRel γ (ofConst v) v := by
  have f32 : ∀ {b : Nat}, Nat.blt b 4294967296 = true → can .f32 b = (toW .f32 b).1 := fun h => (toW_val (can_lt (show _ < 4294967296 from Nat.le_of_ble_eq_true h))).symm
  have f64 : ∀ {b : Nat}, Nat.blt b 18446744073709551616 = true → can .f64 b = (toW .f64 b).1 := fun h => (toW_val (can_lt (show _ < 18446744073709551616 from Nat.le_of_ble_eq_true h))).symm
  unfold ofConst
  split
  · exact rfl
  · exact rfl
  · rename_i b
    cases h : Nat.blt b 4294967296 with
    | true => exact ⟨_, rfl, f32 h⟩
    | false => exact trivial
  · rename_i b
    cases h : Nat.blt b 18446744073709551616 with
    | true => exact ⟨_, rfl, f64 h⟩
    | false => exact trivial
  · rename_i a b
    cases h : (Nat.blt a 4294967296 && Nat.blt b 4294967296) with
    | true => have h := (Bool.and_eq_true _ _).mp h; exact ⟨_, _, rfl, f32 h.1, f32 h.2⟩
    | false => exact trivial
  · rename_i a b
    cases h : (Nat.blt a 18446744073709551616 && Nat.blt b 18446744073709551616) with
    | true => have h := (Bool.and_eq_true _ _).mp h; exact ⟨_, _, rfl, f64 h.1, f64 h.2⟩
    | false => exact trivial
  · exact rfl
  · exact rfl
  · exact rfl
  · exact rfl
  · exact trivial

theorem ev_rel {γ : Gam} {nt : Nat} {e : Env ieee} {a : Act} (h : ERel γ nt e a) (x : Operand) : VRel γ (ev e x) (a.eval x) := by
  cases x with
  | tmp t => exact h.val t
  | const v => exact ofConst_rel γ v
  | global g => exact trivial
  | func f => exact ⟨#[], rfl, L2.nil _⟩

/-! what an answer of a combinator means -/
theorem gd_some {α : Type} {b : Bool} {k : Option α} {r : α} (h : gd b k = some r) : b = true ∧ k = some r := by
  cases b
  · cases h
  · exact ⟨rfl, h⟩
theorem withTy_some {c : Cx ieee} {t : TypeId} {k : TI ieee → R ieee} {r : A × Heap ieee} (h : withTy c t k = some r) : ∃ i, c.ty t = some i ∧ k i = some r := by
  unfold withTy at h
  split at h
  · rename_i i hi; exact ⟨i, hi, h⟩
  · cases h
theorem rdK_some {q : TK} {cs : List A} {i : Nat} {k : A → R ieee} {r : A × Heap ieee} (h : rdK q cs i k = some r) : ∃ v, cs[i]? = some v ∧ k v = some r := by
  unfold rdK at h
  split at h <;> (first | unfold rdS at h | unfold rdD at h | unfold rdI at h | unfold rdB at h | unfold rdC at h | unfold rdV at h) <;> split at h
  all_goals first
    | (cases h; done)
    | (rename_i hc; exact ⟨_, hc, h⟩)
    | (rename_i hc
       obtain ⟨h1, h2⟩ := gd_some h
       have := of_decide_eq_true h1
       subst this
       exact ⟨_, hc, h2⟩)
theorem seg_cons {α : Type} {cs : List α} {i n : Nat} {v : α} (hv : cs[i]? = some v) : (cs.drop i).take (n + 1) = v :: (cs.drop (i + 1)).take n := by
  obtain ⟨hi, he⟩ := List.getElem?_eq_some_iff.1 hv
  rw [List.drop_eq_getElem_cons hi, he]
  rfl
theorem rdL_some : ∀ {l : List TK} {cs : List A} {i : Nat} {k : List A → R ieee} {r : A × Heap ieee}, rdL l cs i k = some r →
    (∀ j, j < l.length → i + j < cs.length) ∧ k ((cs.drop i).take l.length) = some r
  | [], cs, i, k, r, h => ⟨fun j hj => by simp at hj, by rw [List.length_nil, List.take_zero]; exact h⟩
  | q :: l, cs, i, k, r, h => by
    have h0 : rdK q cs i (fun v => rdL l cs (i + 1) fun vs => k (v :: vs)) = some r := h
    obtain ⟨v, hv, h1⟩ := rdK_some h0
    obtain ⟨h2, h3⟩ := rdL_some h1
    have hi := (List.getElem?_eq_some_iff.1 hv).1
    refine ⟨fun j hj => ?_, ?_⟩
    · cases j with
      | zero => exact hi
      | succ j => have := h2 j (by simpa using hj); omega
    · rw [List.length_cons, seg_cons hv]; exact h3
theorem rdA_some {cs : List A} {i n : Nat} {k : List A → R ieee} {r : A × Heap ieee} (h : rdA cs i n k = some r) : i + n ≤ cs.length ∧ k ((cs.drop i).take n) = some r := by
  obtain ⟨h1, h2⟩ := gd_some h
  exact ⟨Nat.le_of_ble_eq_true h1, h2⟩
theorem part_some {t : TI ieee} {cs : List A} {off : Nat} {k : A → R ieee} {r : A × Heap ieee} (h : part t cs off k = some r) :
    (isAggK t.kind = true ∧ (∀ j, j < t.size → off + j < cs.length) ∧ k (.agg ((cs.drop off).take t.size)) = some r) ∨
    (isAggK t.kind = false ∧ ∃ v, cs[off]? = some v ∧ k v = some r) := by
  unfold part at h
  split at h
  · rename_i hk
    refine .inl ⟨hk, ?_⟩
    split at h
    · obtain ⟨h1, h2⟩ := gd_some h
      have h1' := Nat.eq_of_beq_eq_true h1
      obtain ⟨h3, h4⟩ := rdL_some h2
      rw [h1'] at h3 h4
      exact ⟨h3, h4⟩
    · obtain ⟨h1, h2⟩ := rdA_some h
      exact ⟨fun j hj => by omega, h2⟩
  · rename_i hk
    exact .inr ⟨hk, rdK_some h⟩
theorem wr1_some {cs : List A} {i : Nat} {v : A} {k : List A → R ieee} {r : A × Heap ieee} (h : wr1 cs i v k = some r) : i < cs.length ∧ k (cs.set i v) = some r := by
  obtain ⟨h1, h2⟩ := gd_some h
  exact ⟨Nat.le_of_ble_eq_true h1, h2⟩
theorem wrA_some {cs : List A} {i n : Nat} {vs : List A} {k : List A → R ieee} {r : A × Heap ieee} (h : wrA cs i n vs k = some r) :
    vs.length = n ∧ i + n ≤ cs.length ∧ k (cs.take i ++ (vs ++ cs.drop (i + n))) = some r := by
  obtain ⟨h1, h2⟩ := gd_some h
  rw [Bool.and_eq_true] at h1
  exact ⟨Nat.eq_of_beq_eq_true h1.1, Nat.le_of_ble_eq_true h1.2, h2⟩
theorem ldv_some {t : TI ieee} {h : Heap ieee} {b i : Nat} {k : A → R ieee} {r : A × Heap ieee} (hh : ldv t h b i k = some r) :
    ∃ wr fl cs, h[b]? = some (.live wr fl cs) ∧ part t cs i (fun v => gd (fl || !isAggK t.kind || v.cells.all AV.flat) (k v)) = some r := by
  unfold ldv hget at hh
  split at hh
  · rename_i wr fl cs hb; exact ⟨wr, fl, cs, hb, hh⟩
  · cases hh

/-! types -/
theorem TyOk.run_isAgg {P : Program} {t : TypeId} {i : TI ieee} (h : TyOk P t i) (w : World) : (isAgg t).run P w = .ok (isAggK i.kind) w := by
  have hk := h.kind
  unfold isAgg
  cases hi : i.kind <;> rw [hi] at hk <;> simp only [KOk] at hk
  all_goals first
    | (simp [run_underlying hk, isAggK]; done)
    | (obtain ⟨e, hk⟩ := hk; simp [run_underlying hk, isAggK]; done)
    | (obtain ⟨e, hk, _⟩ := hk; simp [run_underlying hk, isAggK]; done)
    | (obtain ⟨e, f, g, hk⟩ := hk; simp [run_underlying hk, isAggK]; done)
theorem TyOk.run_sizeOf {P : Program} {t : TypeId} {i : TI ieee} (h : TyOk P t i) (w : World) : (sizeOf t).run P w = .ok i.size w := by
  obtain ⟨inf, z, h1, h2, h3, h4, h5⟩ := h.info
  simp [sizeOf, typeInfo, h1, h2]
theorem TyOk.run_zero {P : Program} {t : TypeId} {i : TI ieee} (h : TyOk P t i) (w : World) : ∃ z, (zeroValue t).run P w = .ok z w ∧ L2 (SRel []) i.zero z.cells.toList := by
  obtain ⟨inf, z, h1, h2, h3, h4, h5⟩ := h.info
  exact ⟨z, by simp [zeroValue, typeInfo, h1, h4], h5⟩

theorem addr_add (b o n : Nat) : Addr.add ⟨b, o, none⟩ n = ⟨b, o + n, none⟩ := by
  unfold Addr.add; split <;> simp_all

/-- a variable is read -/
theorem load_sound {P : Program} {t : TypeId} {i : TI ieee} (ht : TyOk P t i) {w : World} {γ : Gam} {h : Heap ieee} (hr : HRel γ h w) {b off : Nat} {wr fl : Bool} {cs : List A} {rf : Ref}
    (hb : h[b]? = some (.live wr fl cs)) (hg : γ[b]? = some rf) {k : A → R ieee} {r : A × Heap ieee} (hp : part i cs off (fun v => gd (fl || !isAggK i.kind || v.cells.all AV.flat) (k v)) = some r) :
    ∃ av v, k av = some r ∧ (loadVar t ⟨rf.block, rf.base + off, none⟩).run P w = .ok v w ∧ VRel γ av v := by
  have cell : ∀ (j : Nat) (c : A), cs[j]? = some c → ∃ v, w.cell? ⟨rf.block, rf.base + j, none⟩ = some v ∧ SRel (cond fl [] γ) c v := by
    intro j c hc
    obtain ⟨cur, T, fr, h1, h2, h3, h4, h5⟩ := (hr.blk b rf wr fl cs hg hb).ex
    obtain ⟨v, hv, hs⟩ := h4 j c hc
    exact ⟨v, by simp [World.cell?, h1, hv], hs⟩
  rcases part_some hp with ⟨hk, hlen, hkk⟩ | ⟨hk, v0, hv0, hkk⟩
  · -- an aggregate
    obtain ⟨hg1, hkk⟩ := gd_some hkk
    have hfl : fl = true ∨ ((cs.drop off).take i.size).all AV.flat = true := by
      rw [hk] at hg1
      simpa [AV.cells] using hg1
    have hseg : ∀ (j : Nat), j < i.size → ∃ v, w.cell? ⟨rf.block, rf.base + (off + j), none⟩ = some v ∧ ∃ c, ((cs.drop off).take i.size)[j]? = some c ∧ SRel [] c v := by
      intro j hj
      have hlt := hlen j hj
      obtain ⟨v, hv, hs⟩ := cell (off + j) cs[off + j] (List.getElem?_eq_getElem hlt)
      have hc : ((cs.drop off).take i.size)[j]? = some cs[off + j] := by
        rw [List.getElem?_take, if_pos hj, List.getElem?_drop, List.getElem?_eq_getElem hlt]
      refine ⟨v, hv, _, hc, ?_⟩
      rcases hfl with rfl | hall
      · exact hs
      · have := List.all_eq_true.1 hall _ (List.mem_of_getElem? hc)
        exact hs.flat this
    -- the values, as a list
    have hvals : ∃ vs : List Value, vs.length = i.size ∧ (∀ j v, vs[j]? = some v → w.cell? ⟨rf.block, rf.base + (off + j), none⟩ = some v) := by
      refine ⟨(List.range i.size).map (fun j => (w.cell? ⟨rf.block, rf.base + (off + j), none⟩).getD undef), by simp, ?_⟩
      intro j v hv
      rw [List.getElem?_map] at hv
      by_cases hj : j < i.size
      · obtain ⟨u, hu, _⟩ := hseg j hj
        rw [List.getElem?_range hj] at hv
        simp [hu] at hv
        rw [hu, hv]
      · rw [List.getElem?_eq_none (by simp; omega)] at hv
        cases hv
    obtain ⟨vs, hvl, hvs⟩ := hvals
    refine ⟨_, .agg vs.toArray, hkk, ?_, vs.toArray, rfl, ?_⟩
    · have hl := run_loadCells_list (P := P) (w := w) ⟨rf.block, rf.base + off, none⟩ vs (fun j v hv => by rw [addr_add, Nat.add_assoc]; exact hvs j v hv)
      rw [hvl] at hl
      simp only [loadVar, Sem.run_bind, ht.run_isAgg, hk, Result.andThen_ok, if_true, ht.run_sizeOf, hl, Sem.run_pure]
    · refine ⟨?_, ?_⟩
      · have : off + i.size ≤ cs.length ∨ i.size = 0 := by
          cases hs : i.size with
          | zero => exact .inr rfl
          | succ n => have := hlen n (by omega); exact .inl (by omega)
        simp only [List.length_take, List.length_drop, hvl]
        omega
      · intro j c v hc hv
        have hj : j < i.size := by
          have := (List.getElem?_eq_some_iff.1 hv).1
          simpa [hvl] using this
        obtain ⟨u, hu, c', hc', hs⟩ := hseg j hj
        rw [hc] at hc'; cases hc'
        have := hvs j v (by simpa using hv)
        rw [hu] at this; cases this
        exact hs
  · obtain ⟨_, hkk⟩ := gd_some hkk
    obtain ⟨v, hv, hs⟩ := cell off v0 hv0
    refine ⟨v0, v, hkk, ?_, ?_⟩
    · simp only [loadVar, Sem.run_bind, ht.run_isAgg, hk, Result.andThen_ok, run_load, hv, Bool.false_eq_true, if_false]
    · cases fl
      · exact hs.toV
      · exact SRel.toV (hs.mono (Sub.nil γ))

/-- a part of a value is taken -/
theorem part_sound {P : Program} {t : TypeId} {i : TI ieee} (ht : TyOk P t i) (w : World) {γ : Gam} {cs : List A} {vs : Array Value} (hl : L2 (SRel []) cs vs.toList) {off : Nat}
    {k : A → R ieee} {r : A × Heap ieee} (hp : part i cs off k = some r) : ∃ av v, k av = some r ∧ (Go.part t vs off).run P w = .ok v w ∧ VRel γ av v := by
  rcases part_some hp with ⟨hk, hlen, hkk⟩ | ⟨hk, v0, hv0, hkk⟩
  · refine ⟨_, .agg (vs.extract off (off + i.size)), hkk, ?_, _, rfl, ?_⟩
    · simp only [Go.part, Sem.run_bind, ht.run_isAgg, hk, Result.andThen_ok, if_true, ht.run_sizeOf, Sem.run_pure]
    · have := (hl.drop off).take i.size
      simpa [Array.toList_extract, List.extract] using this
  · obtain ⟨v, hv, hs⟩ := hl.get hv0
    refine ⟨v0, v, hkk, ?_, SRel.toV (hs.mono (Sub.nil γ))⟩
    have hv' : vs[off]? = some v := by simpa using hv
    simp only [Go.part, Sem.run_bind, ht.run_isAgg, hk, Result.andThen_ok, Bool.false_eq_true, if_false, hv', Sem.run_pure]

end Go.Ab
