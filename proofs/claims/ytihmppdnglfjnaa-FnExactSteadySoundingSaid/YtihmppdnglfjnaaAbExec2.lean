/- Own work: a part of the library under the claims of this seat. -/
/-
The soundness of the abstract machine's single operations, all of them but calls of functions.
-/
import Derived.Test.YtihmppdnglfjnaaAbExec
namespace Go.Ab
open Go.RowKit

section
variable {P : Program} {c : Cx ieee}

theorem run_mapM {α β : Type} (f : α → Sem β) (g : α → β) (w : World) : ∀ (l : List α), (∀ x ∈ l, (f x).run P w = .ok (g x) w) → (l.mapM f).run P w = .ok (l.map g) w
  | [], _ => rfl
  | x :: l, h => by
    rw [List.mapM_cons]
    simp only [Sem.run_bind, h x (by simp), Result.andThen_ok, run_mapM f g w l (fun y hy => h y (by simp [hy])), Sem.run_pure, List.map_cons]
theorem run_mapMA {α β : Type} (f : α → Sem β) (g : α → β) (w : World) (xs : Array α) (h : ∀ x ∈ xs.toList, (f x).run P w = .ok (g x) w) : (xs.mapM f).run P w = .ok (xs.map g) w := by
  rw [Array.mapM_eq_mapM_toList]
  simp only [Sem.run_map, run_mapM f g w xs.toList h, Result.andThen_ok]
  congr 1
  apply Array.ext'
  simp

/-- cells laid over cells -/
theorem splice_fold (off : Nat) : ∀ (l : List Value) (k : Nat) (cells : Array Value), off + k + l.length ≤ cells.size →
    ((l.zipIdx k).foldl (fun (cs : Array Value) p => cs.setIfInBounds (off + p.2) p.1) cells).toList = cells.toList.take (off + k) ++ (l ++ cells.toList.drop (off + k + l.length))
  | [], k, cells, _ => by simp
  | v :: l, k, cells, h => by
    simp only [List.zipIdx_cons, List.foldl_cons]
    have hk : off + k < cells.size := by simp at h; omega
    rw [splice_fold off l (k + 1) (cells.setIfInBounds (off + k) v) (by simp at h ⊢; omega)]
    simp only [Array.toList_setIfInBounds]
    have hl : cells.toList.length = cells.size := by simp
    have e1 : (cells.toList.set (off + k) v).take (off + (k + 1)) = cells.toList.take (off + k) ++ [v] := by
      rw [show off + (k + 1) = off + k + 1 by omega, List.take_succ_eq_append_getElem (by simp; omega)]
      congr 1
      · rw [List.take_set_of_le (by omega)]
      · simp
    have e2 : (cells.toList.set (off + k) v).drop (off + (k + 1) + l.length) = cells.toList.drop (off + k + (v :: l).length) := by
      rw [List.drop_set_of_lt (by omega)]
      congr 1
      simp; omega
    rw [e1, e2]
    simp

theorem fill_sound {t : TI ieee} {place : Nat → Option (Nat × Nat)} {γ : Gam} {nt : Nat} {e : Env ieee} {a : Act} (he : ERel γ nt e a)
    (hpl : ∀ n k r, fillAt c t n k = some r → ∃ off m, place n = some (off, m) ∧ k off m = some r) :
    ∀ (ps : List (Nat × Operand)) (cs : List A) (vs : Array Value) (k : List A → R ieee) (r : A × Heap ieee), L2 (SRel []) cs vs.toList → fillP c t ps e cs k = some r →
    ∃ cs' vs', k cs' = some r ∧ Instr.fill place vs (ps.map fun p => (p.1, a.eval p.2)) = some vs' ∧ L2 (SRel []) cs' vs'.toList
  | [], cs, vs, k, r, hl, h => ⟨cs, vs, h, rfl, hl⟩
  | p :: ps, cs, vs, k, r, hl, h => by
    have h0 : fillAt c t p.1 (fun off n => gd ((ev e p.2).oneV && (ev e p.2).flatV) (wrA cs off n (ev e p.2).cells (fun cs => fillP c t ps e cs k))) = some r := h
    obtain ⟨off, m, hp, h1⟩ := hpl _ _ _ h0
    obtain ⟨h2, h3⟩ := gd_some h1
    obtain ⟨h4, h5, h6⟩ := wrA_some h3
    have h2' := (Bool.and_eq_true _ _).mp h2
    have hcells := cells_flat (ev_rel he p.2) h2'.1 h2'.2
    have hvs : vs.toList.length = cs.length := hl.1.symm
    have hvl : (a.eval p.2).cells.toList.length = m := by rw [← hcells.1, h4]
    have hfold := splice_fold off (a.eval p.2).cells.toList 0 vs (by rw [hvl]; simp at hvs; omega)
    -- the new cells
    have hnew : L2 (SRel []) (cs.take off ++ ((ev e p.2).cells ++ cs.drop (off + m))) ((((a.eval p.2).cells.toList.zipIdx).foldl (fun (cs : Array Value) p => cs.setIfInBounds (off + p.2) p.1) vs)).toList := by
      rw [hfold]
      simp only [Nat.add_zero, hvl]
      exact (hl.take off).append (hcells.append (hl.drop (off + m)))
    obtain ⟨cs', vs', e1, e2, e3⟩ := fill_sound he hpl ps _ _ k r hnew h6
    refine ⟨cs', vs', e1, ?_, e3⟩
    simp only [List.map_cons, Instr.fill, hp]
    have hsz : (a.eval p.2).cells.size = m := by simpa using hvl
    have hle : ¬ off + (a.eval p.2).cells.size > vs.size := by simp at hvs; omega
    have hfe : (a.eval p.2).cells.zipIdx.foldl (fun cs x => cs.setIfInBounds (off + x.2) x.1) vs = ((a.eval p.2).cells.toList.zipIdx).foldl (fun (cs : Array Value) p => cs.setIfInBounds (off + p.2) p.1) vs := by
      rw [← Array.foldl_toList, Array.toList_zipIdx]
    rw [if_neg (by simp [hsz]; simp at hvs; omega)]
    rw [← e2, ← hfe]

/-- what the fields of a struct, the elements of an array take -/
theorem build_sound (hty : ∀ t i, c.ty t = some i → TyOk P t i) {t : TypeId} {ti : TI ieee} (ht : TyOk P t ti) (hf : fieldsOk c ti = true) {γ : Gam} {nt : Nat} {e : Env ieee} {a : Act} (he : ERel γ nt e a)
    {ps : Array (Nat × Operand)} {k : List A → R ieee} {r : A × Heap ieee} (h : fillP c ti ps.toList e ti.zero k = some r) (w : World) :
    ∃ cs vs, k cs = some r ∧ (Instr.build t (ps.map fun (i, x) => (i, a.eval x))).run P w = .ok (.agg vs) w ∧ L2 (SRel []) cs vs.toList := by
  obtain ⟨z, hz, hzl⟩ := ht.run_zero w
  have hzl' : L2 (SRel []) ti.zero z.cells.toList := hzl
  have hkd := ht.kind
  have hmap : (ps.map fun (i, x) => (i, a.eval x)).toList = ps.toList.map fun p => (p.1, a.eval p.2) := by simp
  unfold fieldsOk at hf
  split at hf
  · rename_i fs hk
    rw [hk] at hkd
    obtain ⟨fields, hu, hfs⟩ := hkd
    have hsize : ∀ q ∈ fs, ∃ i, c.ty q.2 = some i := fun q hq => Option.isSome_iff_exists.1 (List.all_eq_true.1 hf q hq)
    have hrun : ∀ f ∈ fields.toList, ((do pure (f.offset, ← sizeOf f.type)) : Sem (Nat × Nat)).run P w = .ok (f.offset, ((c.ty f.type).map (·.size)).getD 0) w := by
      intro f hfm
      obtain ⟨i, hi⟩ := hsize (f.offset, f.type) (by rw [← hfs]; exact List.mem_map.2 ⟨f, hfm, rfl⟩)
      simp only [Sem.run_bind, (hty _ _ hi).run_sizeOf, Result.andThen_ok, Sem.run_pure, hi]
      rfl
    have hmm := run_mapMA (P := P) (fun f : Field => (do pure (f.offset, ← sizeOf f.type) : Sem (Nat × Nat))) (fun f => (f.offset, ((c.ty f.type).map (·.size)).getD 0)) w fields hrun
    have hpl : ∀ n k r, fillAt c ti n k = some r → ∃ off m, ((fields.map fun f => (f.offset, ((c.ty f.type).map (·.size)).getD 0))[n]? : Option (Nat × Nat)) = some (off, m) ∧ k off m = some r := by
      intro n k r hn
      unfold fillAt at hn
      rw [hk] at hn
      dsimp only at hn
      split at hn
      · rename_i q hq
        obtain ⟨i, hi, hn'⟩ := withTy_some hn
        rw [← hfs, List.getElem?_map] at hq
        cases hfn : fields.toList[n]? with
        | none => rw [hfn] at hq; cases hq
        | some f =>
          rw [hfn] at hq; cases hq
          refine ⟨f.offset, i.size, ?_, hn'⟩
          rw [Array.getElem?_map]
          have : fields[n]? = some f := by simpa using hfn
          rw [this]
          simp only [Option.map_some, hi]
          rfl
      · cases hn
    obtain ⟨cs', vs', e1, e2, e3⟩ := fill_sound (c := c) he hpl ps.toList ti.zero z.cells k r hzl' h
    refine ⟨cs', vs', e1, ?_, e3⟩
    simp only [Instr.build, Sem.run_bind, hz, Result.andThen_ok, run_underlying hu, hmm, hmap, e2, Sem.run_pure]
  · rename_i n el hk
    rw [hk] at hkd
    obtain ⟨i, hi⟩ := Option.isSome_iff_exists.1 hf
    have hpl : ∀ n k r, fillAt c ti n k = some r → ∃ off m, ((fun j : Nat => (some (j * i.size, i.size) : Option (Nat × Nat))) n) = some (off, m) ∧ k off m = some r := by
      intro n k r hn
      unfold fillAt at hn
      rw [hk] at hn
      dsimp only at hn
      obtain ⟨i', hi', hn'⟩ := withTy_some hn
      rw [hi] at hi'; cases hi'
      exact ⟨_, _, rfl, hn'⟩
    obtain ⟨cs', vs', e1, e2, e3⟩ := fill_sound (c := c) he hpl ps.toList ti.zero z.cells k r hzl' h
    refine ⟨cs', vs', e1, ?_, e3⟩
    have hu : P.underlying t = some (.array n el) := hkd
    simp only [Instr.build, Sem.run_bind, hz, Result.andThen_ok, run_underlying hu, (hty _ _ hi).run_sizeOf, hmap, e2, Sem.run_pure]
  · cases hf

end
end Go.Ab
