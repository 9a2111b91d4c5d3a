/- Own work: a part of the library under the claims of this seat. -/
/-
The soundness of the abstract machine's single operations, put together.
-/
import Derived.Test.YtihmppdnglfjnaaAbSlice
namespace Go.Ab
open Go.RowKit

section
variable {P : Program} {c : Cx ieee}

/-- what is known of one operation that calls no function -/
structure Out (P : Program) (w0 : World) (S : Nat → Prop) (γ : Gam) (a : Act) (op : Op) (w : World) (k : A → Heap ieee → R ieee) (r : A × Heap ieee) : Prop where
  ex : ∃ av h' γ' v w', k av h' = some r ∧ Sub γ γ' ∧ VRel γ' av v ∧ Inv w0 S γ' h' w' ∧ Gives P a op v w w'

theorem Out.still {w0 w : World} {S : Nat → Prop} {γ : Gam} {h : Heap ieee} {a : Act} {op : Op} {k : A → Heap ieee → R ieee} {r : A × Heap ieee} (hi : Inv w0 S γ h w)
    {av : A} {v : Value} {w' : World} (hk : k av h = some r) (hv : VRel γ av v) (hd : Drawn w w') (hg : Gives P a op v w w') : Out P w0 S γ a op w k r :=
  ⟨av, h, γ, v, w', hk, Sub.refl γ, hv, hi.drawn hd, hg⟩

/-- a value out of a piece of the model -/
theorem gives_of {a : Act} {op : Op} {s : Sem Value} (hs : ∀ dst type pos after guard, execOp a.eval ⟨dst, op, type, pos, after, guard⟩ = (do pure (.value (← s)))) {v : Value} {w w' : World} (h : s.run P w = .ok v w') :
    Gives P a op v w w' := by
  intro dst type pos after guard
  refine .inl ?_
  rw [hs]
  simp only [Sem.run_bind, h, Result.andThen_ok, Sem.run_pure]

theorem capsOf_some {γ : Gam} : ∀ (vs : List A) (us : List Value) (acc : List (Nat × Nat)) (k : List (Nat × Nat) → R ieee) (r : A × Heap ieee), L2 (VRel γ) vs us →
    List.rec (motive := fun _ => List (Nat × Nat) → R ieee) k (fun (v : A) _ (ih : List (Nat × Nat) → R ieee) acc => capStep v ih acc) vs acc = some r →
    ∃ l, k (acc ++ l) = some r ∧ L2 (PRel γ) l us
  | [], us, acc, k, r, hl, h => ⟨[], by simpa using h, by rw [hl.nil_iff]; exact L2.nil _⟩
  | v :: vs, us, acc, k, r, hl, h => by
    obtain ⟨u, us', rfl, hu, hl'⟩ := hl.uncons
    dsimp only at h
    unfold capStep at h
    split at h
    · obtain ⟨l, h1, h2⟩ := capsOf_some vs us' _ k r hl' h
      exact ⟨_ :: l, by simpa using h1, L2.cons hu h2⟩
    · cases h

theorem hmod_some {h : Heap ieee} {b : Nat} {f : Bool} {g : List A → (List A → R ieee) → R ieee} {k : Heap ieee → R ieee} {r : A × Heap ieee} (hh : hmod h b f g k = some r) :
    ∃ fl cs, h[b]? = some (.live true fl cs) ∧ (fl = false ∨ f = true) ∧ g cs (fun cs' => k (h.set b (.live true fl cs'))) = some r := by
  unfold hmod at hh
  split at hh
  · rename_i wr fl cs hb
    obtain ⟨h1, h2⟩ := gd_some hh
    rw [Bool.and_eq_true] at h1
    obtain ⟨rfl, h3⟩ := h1
    refine ⟨fl, cs, hb, ?_, h2⟩
    cases fl
    · exact .inl rfl
    · exact .inr (by simpa using h3)
  · cases hh

theorem inb_some {i : Int} {n : Nat} {k : Nat → R ieee} {r : A × Heap ieee} (h : inb i n k = some r) : 0 ≤ i ∧ i < (n : Int) ∧ k i.toNat = some r := by
  obtain ⟨h1, h2⟩ := gd_some h
  rw [Bool.and_eq_true] at h1
  exact ⟨of_decide_eq_true h1.1, of_decide_eq_true h1.2, h2⟩

theorem fieldOf_some {t : TI ieee} {f : Nat} {k : Nat → TypeId → R ieee} {r : A × Heap ieee} (h : fieldOf t f k = some r) : ∃ fs p, t.kind = .struct fs ∧ fs[f]? = some p ∧ k p.1 p.2 = some r := by
  unfold fieldOf at h
  split at h
  · rename_i fs hk
    split at h
    · rename_i p hp; exact ⟨fs, p, hk, hp, h⟩
    · cases h
  · cases h

theorem field_of {t : TypeId} {ti : TI ieee} (ht : TyOk P t ti) {fs : List (Nat × TypeId)} (hk : ti.kind = .struct fs) {f : Nat} {p : Nat × TypeId} (hp : fs[f]? = some p) :
    ∃ fields fd, P.underlying t = some (.struct fields) ∧ fields[f]? = some fd ∧ fd.offset = p.1 ∧ fd.type = p.2 := by
  have h := ht.kind
  rw [hk] at h
  obtain ⟨fields, hu, hfs⟩ := h
  rw [← hfs, List.getElem?_map] at hp
  cases hfn : fields.toList[f]? with
  | none => rw [hfn] at hp; cases hp
  | some fd =>
    rw [hfn] at hp; cases hp
    exact ⟨fields, fd, hu, by simpa using hfn, rfl, rfl⟩

set_option maxHeartbeats 2000000 in
theorem exec_buildSlice (hc : CtxOk P c) {t : TypeId} {n : Nat} {ps : Array (Nat × Operand)} {e : Env ieee} {h : Heap ieee} {k : A → Heap ieee → R ieee} {r : A × Heap ieee} (hx : exec c (.buildSlice t n ps) e h k = some r)
    {γ : Gam} {a : Act} {w w0 : World} {S : Nat → Prop} (he : ERel γ c.nt e a) (hi : Inv w0 S γ h w) : Out P w0 S γ a (.buildSlice t n ps) w k r := by
  simp only [exec] at hx
  obtain ⟨ti, hti, h1⟩ := withTy_some hx
  split at h1
  · rename_i el hk
    have ht := hc.ty t ti hti
    have hkd := ht.kind
    rw [hk] at hkd
    have hu : P.underlying t = some (.slice el) := hkd
    obtain ⟨et, het, h2⟩ := withTy_some h1
    obtain ⟨h3, h4⟩ := gd_some h2
    obtain ⟨h5, h6⟩ := (Bool.and_eq_true _ _).mp h3
    have h5 := Nat.eq_of_beq_eq_true h5
    obtain ⟨h6, h7⟩ := (Bool.and_eq_true _ _).mp h6
    have h6 := Nat.le_of_ble_eq_true h6
    have h7 := Nat.le_of_ble_eq_true h7
    obtain ⟨inf, z, i1, i2, i3, i4, i5⟩ := (hc.ty el et het).info
    have hzs : z.cells.size = et.size := by have := i5.1; simp at this; omega
    have hpl : ∀ m k r, fillAt c ti m k = some r → ∃ off s, (some (m * et.size, et.size) : Option (Nat × Nat)) = some (off, s) ∧ k off s = some r := by
      intro m k r hm
      unfold fillAt at hm
      rw [hk] at hm
      dsimp only at hm
      obtain ⟨et', het', hm'⟩ := withTy_some hm
      rw [het] at het'; cases het'
      exact ⟨_, _, rfl, hm'⟩
    obtain ⟨cs', vs', e1, e2, e3⟩ := fill_sound (place := fun m => some (m * et.size, et.size)) he hpl ps.toList (zeros et.zero n) (madeCells z.cells (n * z.cells.size)) _ _ (zeros_rel i5 n) h4
    obtain ⟨e4, e5⟩ := gd_some e1
    have e4 := Nat.eq_of_beq_eq_true e4
    have hvs : vs'.size = n * et.size := by have := e3.1; simp at this; omega
    have hmap : (ps.map fun (i, x) => (i, a.eval x)).toList = ps.toList.map fun p => (p.1, a.eval p.2) := by simp
    have hrun : (Instr.buildSlice t n (ps.map fun (i, x) => (i, a.eval x))).run P w = .ok (.slice (some ⟨w.heap.size, 0, none⟩) n n) (w.alloc (.cells vs' el)) := by
      have hle : ¬ (n * et.size > 2 ^ 24) := by omega
      have hzv : (zeroValue el).run P w = .ok z w := by simp [zeroValue, typeInfo, i1, i4]
      by_cases h0 : n * et.size = 0
      · have hmc : (Array.range (n * et.size)).map (fun x => (#[] : Array Value)[x % (#[] : Array Value).size]!) = madeCells z.cells (n * z.cells.size) := by
          rw [hzs, h0]; simp [madeCells]
        simp only [Instr.buildSlice, Sem.run_bind, run_underlying hu, Result.andThen_ok, (hc.ty el et het).run_sizeOf, hle, if_false, if_pos h0, Sem.run_pure, hmc, hmap, e2, newRow]
        rfl
      · have hmc : (Array.range (n * et.size)).map (fun x => z.cells[x % z.cells.size]!) = madeCells z.cells (n * z.cells.size) := by
          rw [show n * z.cells.size = n * et.size by rw [hzs]]; rfl
        simp only [Instr.buildSlice, Sem.run_bind, run_underlying hu, Result.andThen_ok, (hc.ty el et het).run_sizeOf, hle, if_false, if_neg h0, Sem.run_pure, hzv, hmc, hmap, e2, newRow]
        rfl
    obtain ⟨γ', g1, g2, g3⟩ := hi.mkSlice cs' vs' el e3 (Nat.le_refl n) (by simp only [maxLen]; omega) (es := et.size) (by omega)
    have hg : Gives P a (.buildSlice t n ps) (.slice (some ⟨w.heap.size, 0, none⟩) n n) w (w.alloc (.cells vs' el)) := by
      exact gives_of (s := Instr.buildSlice t n (ps.map fun (i, x) => (i, a.eval x))) (fun _ _ _ _ _ => rfl) hrun
    exact ⟨_, _, γ', _, _, e5, g1, g2, g3, hg⟩
  · cases h1

theorem exec_makeSlice (hc : CtxOk P c) {t : TypeId} {x y : Operand} {e : Env ieee} {h : Heap ieee} {k : A → Heap ieee → R ieee} {r : A × Heap ieee} (hx : exec c (.makeSlice t x y) e h k = some r)
    {γ : Gam} {a : Act} {w w0 : World} {S : Nat → Prop} (he : ERel γ c.nt e a) (hi : Inv w0 S γ h w) : Out P w0 S γ a (.makeSlice t x y) w k r := by
  simp only [exec] at hx
  obtain ⟨ti, hti, h1⟩ := withTy_some hx
  have hxr := ev_rel he x
  have hyr := ev_rel he y
  split at h1
  · rename_i el q n q' m hk hq1 hq2
    rw [hq1] at hxr
    rw [hq2] at hyr
    have hxv : a.eval x = .int q n := hxr
    have hyv : a.eval y = .int q' m := hyr
    have hkd := (hc.ty t ti hti).kind
    rw [hk] at hkd
    have hu : P.underlying t = some (.slice el) := hkd
    obtain ⟨et, het, h2⟩ := withTy_some h1
    obtain ⟨h3, h4⟩ := gd_some h2
    simp only [Bool.and_eq_true, decide_eq_true_eq] at h3
    obtain ⟨c1, c2, c3, c4, c5, c6⟩ := h3
    subst c3
    have c1 := Nat.eq_of_beq_eq_true c1
    obtain ⟨inf, z, i1, i2, i3, i4, i5⟩ := (hc.ty el et het).info
    have hzs : z.cells.size = et.size := by have := i5.1; simp at this; omega
    have hnn : (n.toNat : Int) = n := Int.toNat_of_nonneg c2
    have hcells : n.toNat * inf.size ≤ 16777216 := by
      rw [i2]
      have : ((n.toNat * et.size : Nat) : Int) ≤ 16777216 := by rw [Int.natCast_mul, hnn]; exact c4
      omega
    have hrun := run_makeSlice (P := P) w t el inf z hu i1 i4 q q' n n c2 (Int.le_refl _) hcells (by rw [i3]; exact c5) c6
    obtain ⟨γ', g1, g2, g3⟩ := hi.mkSlice (zeros et.zero n.toNat) (madeCells z.cells (n.toNat * inf.size)) el (by rw [i2, ← hzs]; exact zeros_rel i5 n.toNat) (Nat.le_refl n.toNat) (by simp only [maxLen]; omega) (es := et.size) (by rw [size_madeCells, i2]; exact Nat.le_refl _)
    refine ⟨_, _, γ', _, _, h4, g1, g2, g3, gives_of (s := Instr.makeSlice t (a.eval x) (a.eval y)) (fun _ _ _ _ _ => rfl) ?_⟩
    rw [hxv, hyv]
    exact hrun
  · cases h1

theorem exec_slice (hc : CtxOk P c) {t : TypeId} {x : Operand} {lo hi' mx : Option Operand} {e : Env ieee} {h : Heap ieee} {k : A → Heap ieee → R ieee} {r : A × Heap ieee} (hx : exec c (Op.slice t x lo hi' mx) e h k = some r)
    {γ : Gam} {a : Act} {w w0 : World} {S : Nat → Prop} (he : ERel γ c.nt e a) (hi : Inv w0 S γ h w) : Out P w0 S γ a (Op.slice t x lo hi' mx) w k r := by
  simp only [exec, sliceV] at hx
  obtain ⟨hmx, hx⟩ := gd_some hx
  have hmx : mx = none := by simpa using hmx
  subst hmx
  obtain ⟨ti, hti, h1⟩ := withTy_some hx
  have hxr := ev_rel he x
  have hkd := (hc.ty t ti hti).kind
  split at h1
  · rename_i n el b i hk hq
    rw [hk] at hkd
    rw [hq] at hxr
    have hu : P.underlying t = some (.array n el) := hkd
    obtain ⟨rf, hg, hv⟩ := hxr
    obtain ⟨et, het, h2⟩ := withTy_some h1
    obtain ⟨l, h3, hl⟩ := opt_some he h2
    obtain ⟨u, h4, hu'⟩ := opt_some he h3
    obtain ⟨h5, h6⟩ := gd_some h4
    obtain ⟨h7, h8⟩ := (Bool.and_eq_true _ _).mp h5
    have h7 := Nat.le_of_ble_eq_true h7
    have h8 := Nat.le_of_ble_eq_true h8
    obtain ⟨wr, fl, cs, hb, h9⟩ := hget_some h6
    obtain ⟨h10, h11⟩ := gd_some h9
    obtain ⟨h12, h13⟩ := (Bool.and_eq_true _ _).mp h10
    have h12 := Nat.le_of_ble_eq_true h12
    have h13 := Nat.le_of_ble_eq_true h13
    obtain ⟨cur, T, fr, e1, e2, e3, e4, _⟩ := (hi.hr.blk b rf wr fl cs hg hb).ex
    have hbr := bounds_run (P := P) (isS := false) (w := w) hl hu' h7 h8
    have hmul : (n - l) * et.size + l * et.size = n * et.size := by rw [← Nat.add_mul]; congr 1; omega
    refine .still hi h11 (v := .slice (some (if n = l then ⟨rf.block, rf.base + i, none⟩ else ⟨rf.block, rf.base + i + l * et.size, none⟩)) (u - l) (n - l)) ?_ (Drawn.refl w)
      (gives_of (s := Instr.sliceAt t (a.eval x) (lo.map a.eval) (hi'.map a.eval) none) (fun _ _ _ _ _ => rfl) ?_)
    · by_cases hnl : n = l
      · rw [if_pos hnl]
        exact ⟨rf, rf.base + i, n - l, hg, rfl, by omega, by simp only [maxLen]; omega, by omega, by omega, .inl (by omega)⟩
      · rw [if_neg hnl]
        exact ⟨rf, rf.base + i + l * et.size, n - l, hg, rfl, by omega, by simp only [maxLen]; omega, by omega, by omega, .inr (by omega)⟩
    · rw [hv]
      simp only [Instr.sliceAt, Sem.run_bind, run_underlying hu, Result.andThen_ok, Instr.sureAddr, Sem.run_pure, hbr, (hc.ty el et het).run_sizeOf, Addr.add_lit, Nat.add_assoc]
  · rename_i el b i n es hk hq
    rw [hk] at hkd
    rw [hq] at hxr
    have hu : P.underlying t = some (.slice el) := hkd
    obtain ⟨rf, co, cap, hg, hv, hnc, hcm, hfit, hbase, hco⟩ := hxr
    obtain ⟨et, het, h2⟩ := withTy_some h1
    obtain ⟨l, h3, hl⟩ := opt_some he h2
    obtain ⟨u, h4, hu'⟩ := opt_some he h3
    obtain ⟨h5, h6⟩ := gd_some h4
    obtain ⟨h50, h51⟩ := (Bool.and_eq_true _ _).mp h5
    have h50 := Nat.eq_of_beq_eq_true h50
    obtain ⟨h7, h8⟩ := (Bool.and_eq_true _ _).mp h51
    subst h50
    have h7 := Nat.le_of_ble_eq_true h7
    have h8 := Nat.le_of_ble_eq_true h8
    have hbr := bounds_run (P := P) (isS := true) (cap := cap) (w := w) hl hu' h7 (by omega)
    have hmul : (cap - l) * et.size + l * et.size = cap * et.size := by rw [← Nat.add_mul]; congr 1; omega
    refine .still hi h6 (v := .slice (some (if cap = l then ⟨rf.block, co, none⟩ else ⟨rf.block, co + l * et.size, none⟩)) (u - l) (cap - l)) ?_ (Drawn.refl w)
      (gives_of (s := Instr.sliceAt t (a.eval x) (lo.map a.eval) (hi'.map a.eval) none) (fun _ _ _ _ _ => rfl) ?_)
    · by_cases hnl : cap = l
      · rw [if_pos hnl]
        exact ⟨rf, co, cap - l, hg, rfl, by omega, by simp only [maxLen] at hcm ⊢; omega, by omega, hbase, .inl (by omega)⟩
      · rw [if_neg hnl]
        exact ⟨rf, co + l * et.size, cap - l, hg, rfl, by omega, by simp only [maxLen] at hcm ⊢; omega, by omega, by omega, by
          rcases hco with h0 | h0
          · exact .inl (by omega)
          · exact .inr (by omega)⟩
    · rw [hv]
      have hif : (if cap = l then some (⟨rf.block, co, none⟩ : Addr) else (some (⟨rf.block, co, none⟩ : Addr)).map (·.add (l * et.size))) = some (if cap = l then ⟨rf.block, co, none⟩ else ⟨rf.block, co + l * et.size, none⟩) := by
        split
        · rfl
        · simp only [Option.map_some, Addr.add_lit]
      simp only [Instr.sliceAt, Instr.slice, Sem.run_bind, run_underlying hu, Result.andThen_ok, Sem.run_pure, hbr, (hc.ty el et het).run_sizeOf, hif]
  · cases h1

theorem exec_value (hc : CtxOk P c) {op : Op} {e : Env ieee} {h : Heap ieee} {k : A → Heap ieee → R ieee} {r : A × Heap ieee} (hx : exec c op e h k = some r) (hne : ∀ q, op ≠ .call q)
    {γ : Gam} {a : Act} {w w0 : World} {S : Nat → Prop} (he : ERel γ c.nt e a) (hi : Inv w0 S γ h w) : Out P w0 S γ a op w k r := by
  cases op with
  | move x => exact .still hi hx (ev_rel he x) (Drawn.refl w) (fun _ _ _ _ _ => .inl rfl)
  | assign x => exact .still hi hx (ev_rel he x) (Drawn.refl w) (fun _ _ _ _ _ => .inl rfl)
  | pick q x y =>
    have hq := ev_rel he q
    simp only [exec] at hx
    split at hx
    · rename_i t heq
      rw [heq] at hq
      have e1 : a.eval q = .bool t := hq
      cases t
      · exact .still hi hx (ev_rel he y) (Drawn.refl w) (fun _ _ _ _ _ => .inl (by simp [execOp, e1, asBool]))
      · exact .still hi hx (ev_rel he x) (Drawn.refl w) (fun _ _ _ _ _ => .inl (by simp [execOp, e1, asBool]))
    · cases hx
  | box t x =>
    simp only [exec] at hx
    obtain ⟨ti, _, h3⟩ := withTy_some hx
    obtain ⟨h1, h2⟩ := gd_some h3
    have hcells := cells_rel (ev_rel he x) h1
    have hfl : L2 (SRel (cond (ti.flat && (ev e x).flatV) [] γ)) (ev e x).cells (a.eval x).cells.toList := by
      cases hf : (ti.flat && (ev e x).flatV) with
      | true => exact cells_flat (ev_rel he x) h1 ((Bool.and_eq_true _ _).mp hf).2
      | false => exact hcells
    obtain ⟨hin, hsub⟩ := hi.alloc _ (a.eval x).cells t _ hfl
    refine ⟨_, _, _, .pointer (some ⟨w.heap.size, 0, none⟩), _, h2, hsub, ⟨⟨w.heap.size, 0, (a.eval x).cells.size⟩, ?_, rfl⟩, hin, ?_⟩
    · rw [← hi.hr.len]; simp
    · exact gives_of (s := Instr.box t (a.eval x)) (fun _ _ _ _ _ => rfl) (by simp [Instr.box, newVar, newRow])
  | alloc t =>
    simp only [exec] at hx
    obtain ⟨ti, hti, h2⟩ := withTy_some hx
    have ht := hc.ty t ti hti
    obtain ⟨z, hz, hzl⟩ := ht.run_zero w
    have hfl : L2 (SRel (cond ti.flat [] γ)) ti.zero z.cells.toList := by
      cases ti.flat with
      | true => exact hzl
      | false => exact hzl.mono fun _ _ hs => hs.mono (Sub.nil γ)
    obtain ⟨hin, hsub⟩ := hi.alloc _ z.cells t _ hfl
    refine ⟨_, _, _, .pointer (some ⟨w.heap.size, 0, none⟩), _, h2, hsub, ⟨⟨w.heap.size, 0, z.cells.size⟩, ?_, rfl⟩, hin, ?_⟩
    · rw [← hi.hr.len]; simp
    · exact gives_of (s := Instr.alloc t true (.tuple #[])) (fun _ _ _ _ _ => rfl) (by simp [Instr.alloc, hz, newVar, newRow])
  | build t ps =>
    simp only [exec] at hx
    obtain ⟨ti, hti, h2⟩ := withTy_some hx
    obtain ⟨h3, h4⟩ := gd_some h2
    have ht := hc.ty t ti hti
    obtain ⟨cs, vs, e1, e2, e3⟩ := build_sound hc.ty ht h3 he h4 w
    exact .still hi e1 ⟨vs, rfl, e3⟩ (Drawn.refl w) (gives_of (s := Instr.build t (ps.map fun (i, x) => (i, a.eval x))) (fun _ _ _ _ _ => rfl) e2)
  | load t x =>
    simp only [exec] at hx
    obtain ⟨ti, hti, h2⟩ := withTy_some hx
    have ht := hc.ty t ti hti
    have hxr := ev_rel he x
    split at h2
    · rename_i b i heq
      rw [heq] at hxr
      obtain ⟨rf, hg, hv⟩ := hxr
      obtain ⟨wr, fl, cs, hb, hp⟩ := ldv_some h2
      obtain ⟨av, v, e1, e2, e3⟩ := load_sound ht hi.hr hb hg hp
      exact .still hi e1 e3 (Drawn.refl w) (gives_of (s := Instr.loadAt t (a.eval x)) (fun _ _ _ _ _ => rfl) (by rw [hv]; simp only [Instr.loadAt, Instr.sureAddr, Sem.run_bind, Sem.run_pure, Result.andThen_ok]; exact e2))
    · cases h2
  | store t x y =>
    simp only [exec] at hx
    obtain ⟨ti, hti, h2⟩ := withTy_some hx
    have ht := hc.ty t ti hti
    have hxr := ev_rel he x
    have hyr := ev_rel he y
    split at h2
    · rename_i b i heq
      rw [heq] at hxr
      obtain ⟨rf, hg, hv⟩ := hxr
      obtain ⟨fl, cs, hb, hfl, h3⟩ := hmod_some h2
      have fin : ∀ (ns cs' : List A), L2 (SRel γ) ns (a.eval y).cells.toList → ns.length = ti.size → i + ns.length ≤ cs.length → cs' = cs.take i ++ (ns ++ cs.drop (i + ns.length)) →
          (fl = false ∨ L2 (SRel []) ns (a.eval y).cells.toList) → k .undef (h.set b (.live true fl cs')) = some r → Out P w0 S γ a (.store t x y) w k r := by
        intro ns cs' g1 g2 g3 g4 g5 g6
        obtain ⟨w', e1, e2⟩ := store_sound ht hi hb hg g1 g2 g3 g4 g5
        refine ⟨_, _, γ, undef, w', g6, Sub.refl γ, rfl, e2, ?_⟩
        intro dst type pos after guard
        refine .inr ⟨?_, rfl⟩
        simp only [execOp, Instr.storeAt, hv, Instr.sureAddr, Sem.run_bind, Sem.run_pure, Result.andThen_ok, e1]
      split at h3
      · rename_i vs heq2
        rw [heq2] at hyr
        obtain ⟨us, hu, hl⟩ := hyr
        obtain ⟨g1, g2, g3⟩ := wrA_some h3
        refine fin vs _ ?_ g1 (by rw [g1]; exact g2) rfl (.inr (by rw [hu]; exact hl)) (by rw [g1]; exact g3)
        rw [hu]
        exact hl.mono fun _ _ hs => hs.mono (Sub.nil γ)
      · rename_i v' hnot
        obtain ⟨g0, g1⟩ := gd_some h3
        rw [Bool.and_eq_true] at g0
        obtain ⟨g2, g3⟩ := wr1_some g1
        have hsz := Nat.eq_of_beq_eq_true g0.1
        have hcell : (ev e y).cells = [ev e y] := by
          cases hev : ev e y with
          | agg vs => exact (hnot vs hev).elim
          | _ => rfl
        have hone : (ev e y).oneV = true := by
          cases hev : ev e y with
          | agg vs => exact (hnot vs hev).elim
          | _ => rw [← hev]; have := g0.2; rw [hev] at this ⊢; exact this
        have hcells := cells_rel hyr hone
        have hfl' := hfl.imp id (fun hf => cells_flat hyr hone hf)
        rw [hcell] at hcells hfl'
        refine fin [ev e y] _ hcells (by rw [hsz]; rfl) (by simp; omega) ?_ hfl' g3
        simp only [List.length_singleton]
        rw [List.set_eq_take_append_cons_drop, if_pos g2]
        rfl
    · cases h2
  | nilCheck x =>
    have hxr := ev_rel he x
    simp only [exec] at hx
    split at hx
    · rename_i b i heq
      rw [heq] at hxr
      have hxr' := hxr
      obtain ⟨rf, hg, hv⟩ := hxr
      exact .still hi hx hxr' (Drawn.refl w) (fun _ _ _ _ _ => .inl (by simp [execOp, hv]))
    · rename_i f cap heq
      rw [heq] at hxr
      have hxr' := hxr
      obtain ⟨vs, hv, hl⟩ := hxr
      exact .still hi hx hxr' (Drawn.refl w) (fun _ _ _ _ _ => .inl (by simp [execOp, hv]))
    · cases hx
  | binOp b t x y u =>
    simp only [exec] at hx
    obtain ⟨h1, h2⟩ := gd_some hx
    have hbool : ∀ z, ev e x = .bool z → P.underlying t = some .bool := by
      intro z hz
      rw [hz] at h1
      unfold boolOk isBoolT at h1
      dsimp only at h1
      split at h1
      · rename_i ti hti
        have ht := (hc.ty t ti hti).kind
        split at h1
        · rename_i hk
          rw [hk] at ht
          exact ht
        · cases h1
      · cases h1
    have hslice : (∃ b i n es, ev e x = .slice b i n es) ∨ ev e x = .nilslice → ∃ el, P.underlying t = some (.slice el) := by
      intro hz
      have h1' : isSliceT c t = true := by
        rcases hz with ⟨_, _, _, _, hz⟩ | hz
        · rw [hz] at h1; exact h1
        · rw [hz] at h1; exact h1
      unfold isSliceT at h1'
      split at h1'
      · rename_i ti hti
        have ht := (hc.ty t ti hti).kind
        split at h1'
        · rename_i el hk
          rw [hk] at ht
          exact ⟨el, ht⟩
        · cases h1'
      · cases h1'
    obtain ⟨av, v, w', e1, e2, e3, e4⟩ := abin_sound (P := P) (op := b) (t := t) (ev_rel he x) (ev_rel he y) h2 hbool hslice x y w
    exact .still hi e1 e3 e4 (gives_of (s := do eqGuard b t x y (a.eval x) (a.eval y); Go.binOp b t (a.eval x) (a.eval y)) (fun _ _ _ _ _ => rfl) e2)
  | unOp u t x =>
    simp only [exec] at hx
    obtain ⟨av, v, e1, e2, e3⟩ := aun_sound (P := P) (ev_rel he x) hx w
    exact .still hi e1 e3 (Drawn.refl w) (gives_of (s := Op.unary u (a.eval x)) (fun _ _ _ _ _ => rfl) e2)
  | convert s t x =>
    simp only [exec] at hx
    obtain ⟨si, hsi, h1⟩ := withTy_some hx
    obtain ⟨ti, hti, h2⟩ := withTy_some h1
    obtain ⟨av, v, w', e1, e2, e3, e4⟩ := aconv_sound (hc.ty s si hsi) (hc.ty t ti hti) (ev_rel he x) h2 w
    exact .still hi e1 e3 e4 (gives_of (s := Go.convert s t (a.eval x)) (fun _ _ _ _ _ => rfl) e2)
  | makeFunc fn first cap =>
    cases fn with
    | func f =>
      simp only [exec] at hx
      obtain ⟨hf, hx⟩ := gd_some hx
      have hf' : first = #[] := by simpa using hf
      have hl : L2 (VRel γ) (cap.toList.map (ev e)) ((cap.map a.eval).toList) := by
        rw [Array.toList_map]
        refine ⟨by simp, ?_⟩
        intro i x y hx hy
        rw [List.getElem?_map] at hx hy
        cases hz : cap.toList[i]? with
        | none => rw [hz] at hx; cases hx
        | some z =>
          rw [hz] at hx hy; cases hx; cases hy
          exact ev_rel he z
      obtain ⟨l, e1, e2⟩ := capsOf_some (γ := γ) _ _ [] _ _ hl hx
      simp only [List.nil_append] at e1
      refine .still hi e1 (v := .func (.func f) #[] (cap.map a.eval)) ⟨_, rfl, e2⟩ (Drawn.refl w) (gives_of (s := Instr.makeFunc (.func f) (first.map a.eval) (cap.map a.eval)) (fun _ _ _ _ _ => rfl) ?_)
      subst hf'
      simp [Instr.makeFunc]
    | _ => cases hx
  | fieldAddr t x f =>
    simp only [exec] at hx
    obtain ⟨ti, hti, h1⟩ := withTy_some hx
    have ht := hc.ty t ti hti
    have hxr := ev_rel he x
    split at h1
    · rename_i b i heq
      rw [heq] at hxr
      obtain ⟨rf, hg, hv⟩ := hxr
      obtain ⟨fs, p, hk, hp, h2⟩ := fieldOf_some h1
      obtain ⟨fi, hfi, h3⟩ := withTy_some h2
      obtain ⟨h4, h5⟩ := gd_some h3
      obtain ⟨fields, fd, hu, hfd, ho, htp⟩ := field_of ht hk hp
      have hft := hc.ty p.2 fi hfi
      have hsz : ¬ fi.size = 0 := by
        intro h0
        rw [h0] at h4
        cases h4
      refine .still hi h5 (v := .pointer (some ⟨rf.block, rf.base + (i + p.1), none⟩)) ⟨rf, hg, rfl⟩ (Drawn.refl w) (gives_of (s := Instr.fieldAt t (a.eval x) f) (fun _ _ _ _ _ => rfl) ?_)
      rw [hv]
      simp only [Instr.fieldAt, Sem.run_bind, run_underlying hu, Result.andThen_ok, hfd, Instr.sureAddr, Sem.run_pure, fieldPlace, htp, hft.run_sizeOf, hsz, if_false, addr_add, ho, Nat.add_assoc]
    · cases h1
  | field t x f =>
    simp only [exec] at hx
    obtain ⟨ti, hti, h1⟩ := withTy_some hx
    have ht := hc.ty t ti hti
    have hxr := ev_rel he x
    split at h1
    · rename_i cs heq
      rw [heq] at hxr
      obtain ⟨vs, hv, hl⟩ := hxr
      obtain ⟨fs, p, hk, hp, h2⟩ := fieldOf_some h1
      obtain ⟨fi, hfi, h3⟩ := withTy_some h2
      obtain ⟨fields, fd, hu, hfd, ho, htp⟩ := field_of ht hk hp
      obtain ⟨av, v, e1, e2, e3⟩ := part_sound (γ := γ) (hc.ty p.2 fi hfi) w hl h3
      refine .still hi e1 e3 (Drawn.refl w) (gives_of (s := Instr.field t (a.eval x) f) (fun _ _ _ _ _ => rfl) ?_)
      rw [hv]
      simp only [Instr.field, Sem.run_bind, run_underlying hu, Result.andThen_ok, hfd, asAgg, Sem.run_pure, htp, ho, e2]
    · cases h1
  | indexAddr t x i =>
    simp only [exec] at hx
    obtain ⟨ti, hti, h1⟩ := withTy_some hx
    have ht := hc.ty t ti hti
    have hkd := ht.kind
    have hxr := ev_rel he x
    have hir := ev_rel he i
    unfold idxA at h1
    split at h1
    · rename_i n el b j q z hk hq1 hq2
      rw [hk] at hkd
      rw [hq1] at hxr
      rw [hq2] at hir
      obtain ⟨rf, hg, hv⟩ := hxr
      have hiv : a.eval i = .int q z := hir
      obtain ⟨et, het, h2⟩ := withTy_some h1
      obtain ⟨g1, g2, g3⟩ := inb_some h2
      have hu : P.underlying t = some (.array n el) := hkd
      refine .still hi g3 (v := .pointer (some ⟨rf.block, rf.base + (j + z.toNat * et.size), none⟩)) ⟨rf, hg, rfl⟩ (Drawn.refl w) (gives_of (s := Instr.indexAt t (a.eval x) (a.eval i)) (fun _ _ _ _ _ => rfl) ?_)
      rw [hv, hiv]
      simp only [Instr.indexAt, asIntOf, Sem.run_bind, Sem.run_pure, Result.andThen_ok, run_underlying hu, Instr.sureAddr, g1, g2, and_self, if_true, (hc.ty el et het).run_sizeOf, addr_add, Nat.add_assoc]
    · rename_i el b j n es q z hk hq1 hq2
      rw [hk] at hkd
      rw [hq1] at hxr
      rw [hq2] at hir
      obtain ⟨rf, co, cap, hg, hv, hn1, hn2, hn3, hn4, hn5⟩ := hxr
      have hiv : a.eval i = .int q z := hir
      obtain ⟨et, het, h2⟩ := withTy_some h1
      obtain ⟨hes, h3⟩ := gd_some h2
      have hes' : es = et.size := Nat.eq_of_beq_eq_true hes
      obtain ⟨g1, g2, g3⟩ := inb_some h3
      have hu : P.underlying t = some (.slice el) := hkd
      have hco : co = rf.base + j := by
        rcases hn5 with h0 | h0
        · omega
        · exact h0
      refine .still hi g3 (v := .pointer (some ⟨rf.block, rf.base + (j + z.toNat * et.size), none⟩)) ⟨rf, hg, rfl⟩ (Drawn.refl w) (gives_of (s := Instr.indexAt t (a.eval x) (a.eval i)) (fun _ _ _ _ _ => rfl) ?_)
      rw [hv, hiv]
      simp only [Instr.indexAt, asIntOf, Sem.run_bind, Sem.run_pure, Result.andThen_ok, run_underlying hu, g1, g2, and_self, if_true, (hc.ty el et het).run_sizeOf, addr_add, hco, Nat.add_assoc]
    · cases h1
  | index t x i =>
    simp only [exec] at hx
    obtain ⟨ti, hti, h1⟩ := withTy_some hx
    have ht := hc.ty t ti hti
    have hkd := ht.kind
    have hxr := ev_rel he x
    have hir := ev_rel he i
    unfold idxV at h1
    split at h1
    · rename_i n el cs q z hk hq1 hq2
      rw [hk] at hkd
      rw [hq1] at hxr
      rw [hq2] at hir
      obtain ⟨vs, hv, hl⟩ := hxr
      have hiv : a.eval i = .int q z := hir
      obtain ⟨et, het, h2⟩ := withTy_some h1
      obtain ⟨g1, g2, g3⟩ := inb_some h2
      have hu : P.underlying t = some (.array n el) := hkd
      obtain ⟨av, v, e1, e2, e3⟩ := part_sound (γ := γ) (hc.ty el et het) w hl g3
      refine .still hi e1 e3 (Drawn.refl w) (gives_of (s := Instr.index t (a.eval x) (a.eval i)) (fun _ _ _ _ _ => rfl) ?_)
      rw [hv, hiv]
      simp only [Instr.index, asIntOf, Sem.run_bind, Sem.run_pure, Result.andThen_ok, run_underlying hu, g1, g2, and_self, if_true, (hc.ty el et het).run_sizeOf, e2]
    · rename_i s q z hk hq1 hq2
      rw [hk] at hkd
      rw [hq1] at hxr
      rw [hq2] at hir
      have hv : a.eval x = .string s := hxr
      have hiv : a.eval i = .int q z := hir
      obtain ⟨g1, g2, g3⟩ := inb_some h1
      have hu : P.underlying t = some .string := hkd
      have hlt : z.toNat < s.size := by omega
      have hget : s[z.toNat]? = some (s.get! z.toNat) := by
        rw [getElem?_pos s z.toNat hlt]
        congr 1
        show s.data[z.toNat] = s.data[z.toNat]!
        exact (getElem!_pos s.data z.toNat hlt).symm
      refine .still hi g3 (v := .int .u8 (s.get! z.toNat).toNat) rfl (Drawn.refl w) (gives_of (s := Instr.index t (a.eval x) (a.eval i)) (fun _ _ _ _ _ => rfl) ?_)
      rw [hv, hiv]
      simp only [Instr.index, asIntOf, Sem.run_bind, Sem.run_pure, Result.andThen_ok, run_underlying hu, g1, if_true, hget]
    · cases h1
  | extract x i =>
    have hxr := ev_rel he x
    simp only [exec] at hx
    split at hx
    · rename_i vs heq
      rw [heq] at hxr
      obtain ⟨us, hv, hl⟩ := hxr
      split at hx
      · rename_i v0 hv0
        obtain ⟨u, hu, hw⟩ := hl.get hv0
        obtain ⟨hnt, hx⟩ := gd_some hx
        refine .still hi hx (v := u) (hw.toV fun l hl => by subst hl; simp [AV.noTup] at hnt) (Drawn.refl w) (gives_of (s := Instr.extract (a.eval x) i) (fun _ _ _ _ _ => rfl) ?_)
        have hu' : us[i]? = some u := by simpa using hu
        rw [hv]
        simp only [Instr.extract, hu', Sem.run_pure]
      · cases hx
    · cases hx
  | buildSlice t n ps => exact exec_buildSlice hc hx he hi
  | makeSlice t x y => exact exec_makeSlice hc hx he hi
  | slice t x lo hi' mx => exact exec_slice hc hx he hi
  | call q => exact (hne q rfl).elim
  | _ => cases hx

end
end Go.Ab
