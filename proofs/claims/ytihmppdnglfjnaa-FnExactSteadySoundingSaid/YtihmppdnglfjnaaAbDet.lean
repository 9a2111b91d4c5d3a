/- Own work: a part of the library under the claims of this seat. -/
/-
The abstract machine is determined: each of its pieces hands its continuation one thing, whatever the continuation; and what it hands on depends on little.
-/
import Derived.Test.YtihmppdnglfjnaaAbStep
namespace Go.Ab
open Go.RowKit

section
variable {c : Cx ieee}

/-- a piece in continuation form that hands on one thing -/
def Out1 {α : Type} (F : (α → R ieee) → R ieee) : Prop := ∀ (k : α → R ieee) (r : A × Heap ieee), F k = some r → ∃ a, k a = some r ∧ ∀ k' : α → R ieee, F k' = k' a

theorem Out1.pure {α : Type} (a : α) : Out1 (fun k : α → R ieee => k a) := fun _ _ h => ⟨a, h, fun _ => rfl⟩
theorem Out1.none {α : Type} : Out1 (fun _ : α → R ieee => (none : R ieee)) := fun _ _ h => by cases h
theorem Out1.bind {α β : Type} {F : (α → R ieee) → R ieee} {G : α → (β → R ieee) → R ieee} (hF : Out1 F) (hG : ∀ a, Out1 (G a)) : Out1 (fun k => F fun a => G a k) := by
  intro k r h
  obtain ⟨a, h1, h2⟩ := hF _ _ h
  obtain ⟨b, h3, h4⟩ := hG a _ _ h1
  exact ⟨b, h3, fun k' => (h2 _).trans (h4 k')⟩
theorem Out1.gd {α : Type} {F : (α → R ieee) → R ieee} (b : Bool) (hF : Out1 F) : Out1 (fun k => gd b (F k)) := by
  cases b
  · exact Out1.none
  · exact hF

theorem out_withTy (t : TypeId) : Out1 (withTy c t) := by
  intro k r h
  obtain ⟨i, h1, h2⟩ := withTy_some h
  exact ⟨i, h2, fun k' => by unfold withTy; rw [h1]⟩
theorem out_rdS (cs : List A) (i : Nat) : Out1 (rdS cs i) := by
  intro k r h
  unfold rdS at h ⊢
  split at h
  · exact ⟨_, h, fun _ => rfl⟩
  · cases h
theorem out_rdK (q : TK) (cs : List A) (i : Nat) : Out1 (rdK q cs i) := by
  intro k r h
  unfold rdK at h ⊢
  split at h <;> (first | unfold rdS at h ⊢ | unfold rdD at h ⊢ | unfold rdI at h ⊢ | unfold rdB at h ⊢ | unfold rdC at h ⊢ | unfold rdV at h ⊢) <;> split at h
  all_goals first
    | (cases h; done)
    | exact ⟨_, h, fun _ => rfl⟩
    | (obtain ⟨h1, h2⟩ := gd_some h
       have e := of_decide_eq_true h1
       subst e
       exact ⟨_, h2, fun _ => by simp [gd]⟩)
theorem out_rdL : ∀ (l : List TK) (cs : List A) (i : Nat), Out1 (rdL l cs i)
  | [], _, _ => fun k _ h => ⟨[], h, fun _ => rfl⟩
  | q :: l, cs, i => by
    have h := (out_rdK q cs i).bind (G := fun v (k : List A → R ieee) => rdL l cs (i + 1) fun vs => k (v :: vs)) (fun v => (out_rdL l cs (i + 1)).bind (G := fun vs (k : List A → R ieee) => k (v :: vs)) (fun vs => Out1.pure _))
    exact h
theorem out_rdA (cs : List A) (i n : Nat) : Out1 (rdA cs i n) := Out1.gd _ (Out1.pure _)
theorem out_part (t : TI ieee) (cs : List A) (off : Nat) : Out1 (part t cs off) := by
  unfold part
  cases isAggK t.kind with
  | true =>
    cases t.lay with
    | some l => exact Out1.gd _ ((out_rdL l cs off).bind (G := fun vs (k : A → R ieee) => k (.agg vs)) (fun vs => Out1.pure _))
    | none => exact (out_rdA cs off t.size).bind (G := fun vs (k : A → R ieee) => k (.agg vs)) (fun vs => Out1.pure _)
  | false => exact out_rdK _ _ _
theorem out_wr1 (cs : List A) (i : Nat) (v : A) : Out1 (wr1 cs i v) := Out1.gd _ (Out1.pure _)
theorem out_wrA (cs : List A) (i n : Nat) (vs : List A) : Out1 (wrA cs i n vs) := Out1.gd _ (Out1.pure _)
theorem out_inb (i : Int) (n : Nat) : Out1 (inb i n : (Nat → R ieee) → R ieee) := Out1.gd _ (Out1.pure _)
theorem out_ibin (op : BinOp) (q : IntKind) (a b : Int) : Out1 (ibin op q a b : (A → R ieee) → R ieee) := by
  unfold ibin
  cases op <;> first | exact Out1.pure _ | exact Out1.gd _ (Out1.pure _) | exact Out1.none
theorem out_shf (op : BinOp) (q : IntKind) (a b : Int) : Out1 (shf op q a b : (A → R ieee) → R ieee) := by
  unfold shf
  cases op <;> first | exact Out1.gd _ (Out1.pure _) | exact Out1.gd _ Out1.none
theorem out_sbin (op : BinOp) (a b : ieee.S) : Out1 (sbin op a b : (A → R ieee) → R ieee) := by
  unfold sbin
  cases op <;> first | exact Out1.pure _ | exact Out1.none
theorem out_dbin (op : BinOp) (a b : ieee.D) : Out1 (dbin op a b : (A → R ieee) → R ieee) := by
  unfold dbin
  cases op <;> first | exact Out1.pure _ | exact Out1.none
theorem out_nilbin (op : BinOp) (t : Bool) : Out1 (nilbin op t : (A → R ieee) → R ieee) := by
  unfold nilbin
  cases op <;> first | exact Out1.pure _ | exact Out1.none
theorem out_bbin (op : BinOp) (a b : Bool) : Out1 (bbin op a b : (A → R ieee) → R ieee) := by
  unfold bbin
  cases op <;> first | exact Out1.pure _ | exact Out1.none
theorem out_strbin (op : BinOp) (a b : ByteArray) : Out1 (strbin op a b : (A → R ieee) → R ieee) := by
  unfold strbin
  cases op <;> first | exact Out1.pure _ | exact Out1.gd _ (Out1.pure _) | exact Out1.none
theorem out_abin (op : BinOp) (x y : A) : Out1 (abin op x y) := by
  unfold abin
  split
  · cases isShift op with
    | true => exact out_shf _ _ _ _
    | false => exact Out1.gd _ (out_ibin _ _ _ _)
  · exact out_sbin _ _ _
  · exact out_dbin _ _ _
  · exact out_bbin _ _ _
  · exact out_strbin _ _ _
  · exact out_nilbin _ _
  · exact out_nilbin _ _
  · exact Out1.none
theorem out_aun (op : UnOp) (x : A) : Out1 (aun op x) := by
  unfold aun
  split <;> first | exact Out1.pure _ | exact Out1.none
theorem out_aconv (q : TK) (x : A) : Out1 (aconv q x) := by
  unfold aconv
  split <;> first | exact Out1.pure _ | exact Out1.gd _ (Out1.pure _) | exact Out1.none
theorem out_run {α : Type} (t : Tr α) : Out1 (fun k : α → R ieee => t.run k) := by
  intro k r h
  obtain ⟨a, h1, h2⟩ := run_some h
  exact ⟨a, h2, fun k' => (Tr.run_eq t k').trans (by rw [h1]; rfl)⟩
theorem out_fieldOf (t : TI ieee) (f : Nat) : Out1 (fun k : Nat × TypeId → R ieee => fieldOf t f fun a b => k (a, b)) := by
  intro k r h
  obtain ⟨fs, p, h1, h2, h3⟩ := fieldOf_some h
  exact ⟨p, h3, fun k' => by unfold fieldOf; rw [h1]; dsimp only; rw [h2]⟩
theorem out_fillAt (t : TI ieee) (n : Nat) : Out1 (fun k : Nat × Nat → R ieee => fillAt c t n fun a b => k (a, b)) := by
  unfold fillAt
  split
  · split
    · rename_i q hq
      exact (out_withTy (c := c) q.2).bind (G := fun ft (k : Nat × Nat → R ieee) => k (q.1, ft.size)) (fun _ => Out1.pure _)
    · exact Out1.none
  · rename_i el hk
    exact (out_withTy (c := c) _).bind (G := fun (et : TI ieee) (k : Nat × Nat → R ieee) => k (n * et.size, et.size)) (fun _ => Out1.pure _)
  · rename_i el hk
    exact (out_withTy (c := c) _).bind (G := fun (et : TI ieee) (k : Nat × Nat → R ieee) => k (n * et.size, et.size)) (fun _ => Out1.pure _)
  · exact Out1.none
theorem out_fillP (t : TI ieee) (e : Env ieee) : ∀ (ps : List (Nat × Operand)) (cs : List A), Out1 (fillP c t ps e cs)
  | [], cs => Out1.pure cs
  | p :: ps, cs => by
    have h := (out_fillAt (c := c) t p.1).bind (G := fun q (k : List A → R ieee) => gd ((ev e p.2).oneV && (ev e p.2).flatV) (wrA cs q.1 q.2 (ev e p.2).cells fun cs => fillP c t ps e cs k))
      (fun q => Out1.gd _ ((out_wrA cs q.1 q.2 _).bind (G := fun cs (k : List A → R ieee) => fillP c t ps e cs k) (fun cs => out_fillP t e ps cs)))
    exact h
theorem out_capsOf : ∀ (vs : List A) (acc : List (Nat × Nat)), Out1 (fun k : List (Nat × Nat) → R ieee =>
    List.rec (motive := fun _ => List (Nat × Nat) → R ieee) k (fun (v : A) _ (ih : List (Nat × Nat) → R ieee) acc => capStep v ih acc) vs acc)
  | [], acc => Out1.pure acc
  | v :: vs, acc => by
    dsimp only
    unfold capStep
    split
    · exact out_capsOf vs _
    · exact Out1.none
theorem out_subHeap (h : Heap ieee) : ∀ (l : List Nat) (acc : Heap ieee), Out1 (fun k : Heap ieee → R ieee =>
    List.rec (motive := fun _ => Heap ieee → R ieee) k (fun (b : Nat) _ (ih : Heap ieee → R ieee) (acc : Heap ieee) => subStep h b ih acc) l acc)
  | [], acc => Out1.pure acc
  | b :: l, acc => by
    dsimp only
    unfold subStep
    split
    · exact out_subHeap h l _
    · exact Out1.none

/-! memory that is only looked at -/
/-- the same thing is handed on, whatever stands behind the heap -/
def Out2 {α : Type} (F : Heap ieee → (α → R ieee) → R ieee) : Prop :=
  ∀ (h : Heap ieee) (k : α → R ieee) (r : A × Heap ieee), F h k = some r → ∃ a, k a = some r ∧ (∀ k' : α → R ieee, F h k' = k' a) ∧ ∀ (b : Blk ieee) (k' : α → R ieee), F (h ++ [b]) k' = k' a

theorem Out2.of1 {α : Type} {F : (α → R ieee) → R ieee} (hF : Out1 F) : Out2 (fun _ => F) := fun _ k r h => by
  obtain ⟨a, h1, h2⟩ := hF k r h
  exact ⟨a, h1, h2, fun _ k' => h2 k'⟩
theorem Out2.bind {α β : Type} {F : Heap ieee → (α → R ieee) → R ieee} {G : α → Heap ieee → (β → R ieee) → R ieee} (hF : Out2 F) (hG : ∀ a, Out2 (G a)) :
    Out2 (fun h k => F h fun a => G a h k) := by
  intro h k r hh
  obtain ⟨a, h1, h2, h3⟩ := hF h _ r hh
  obtain ⟨b, h4, h5, h6⟩ := hG a h _ r h1
  exact ⟨b, h4, fun k' => (h2 _).trans (h5 k'), fun x k' => (h3 x _).trans (h6 x k')⟩
theorem Out2.gd {α : Type} {F : Heap ieee → (α → R ieee) → R ieee} (b : Bool) (hF : Out2 F) : Out2 (fun h k => Ab.gd b (F h k)) := by
  cases b
  · exact fun _ _ _ h => by cases h
  · exact hF
theorem get_more {h : Heap ieee} {b : Nat} {x y : Blk ieee} (hb : h[b]? = some x) : (h ++ [y])[b]? = some x := by
  rw [List.getElem?_append_left (List.getElem?_eq_some_iff.1 hb).1]; exact hb
theorem out2_ldv (t : TI ieee) (b i : Nat) : Out2 (fun h => ldv t h b i) := by
  intro h k r hh
  obtain ⟨wr, fl, cs, h1, h2⟩ := ldv_some hh
  have ho := (out_part t cs i).bind (G := fun v (k : A → R ieee) => Ab.gd (fl || !isAggK t.kind || v.cells.all AV.flat) (k v)) (fun v => Out1.gd _ (Out1.pure v))
  obtain ⟨a, h3, h4⟩ := ho k r h2
  refine ⟨a, h3, fun k' => ?_, fun x k' => ?_⟩
  · show ldv t h b i k' = k' a
    unfold ldv hget; rw [h1]; exact h4 k'
  · show ldv t (h ++ [x]) b i k' = k' a
    unfold ldv hget; rw [get_more h1]; exact h4 k'
theorem out2_hget (b : Nat) : Out2 (fun h (k : Bool × List A → R ieee) => hget h b fun fl cs => k (fl, cs)) := by
  intro h k r hh
  obtain ⟨wr, fl, cs, h1, h2⟩ := hget_some (k := fun fl cs => k (fl, cs)) hh
  refine ⟨(fl, cs), h2, fun k' => ?_, fun x k' => ?_⟩
  · show hget h b _ = _
    unfold hget; rw [h1]
  · show hget (h ++ [x]) b _ = _
    unfold hget; rw [get_more h1]
theorem out_opt {e : Env ieee} (x : Option Operand) (d : Nat) : Out1 (opt e x d : (Nat → R ieee) → R ieee) := by
  unfold opt
  split
  · exact Out1.pure _
  · split
    · exact Out1.gd _ (Out1.pure _)
    · exact Out1.none
theorem out_srcOf (h : Heap ieee) (es : Nat) (x : A) : Out1 (fun k : Nat × List A → R ieee => srcOf h es x fun m ns => k (m, ns)) := by
  unfold srcOf
  split
  · refine Out1.gd _ ?_
    unfold hget
    split
    · exact Out1.gd _ (Out1.pure _)
    · exact Out1.none
  · exact Out1.pure (0, [])
  · exact Out1.none
theorem out_srcBind {β : Type} (h : Heap ieee) (es : Nat) (x : A) {G : Nat → List A → (β → R ieee) → R ieee} (hG : ∀ m ns, Out1 (G m ns)) : Out1 (fun k : β → R ieee => srcOf h es x fun m ns => G m ns k) :=
  (out_srcOf h es x).bind (G := fun p => G p.1 p.2) fun p => hG p.1 p.2
theorem out_ownOf (h : Heap ieee) (b : Nat) : Out1 (ownOf h b : (List A → R ieee) → R ieee) := by
  unfold ownOf
  split
  · exact Out1.pure _
  · exact Out1.none
theorem out_appendS (ts : List TypeId) (args : List A) (h : Heap ieee) : Out1 (fun k : A × Heap ieee → R ieee => appendS c ts args h fun v h' => k (v, h')) := by
  unfold appendS
  split
  · refine (out_withTy (c := c) _).bind (G := fun ti (k : A × Heap ieee → R ieee) => _) fun ti => ?_
    refine (out_withTy (c := c) _).bind (G := fun xi (k : A × Heap ieee → R ieee) => _) fun xi => ?_
    split
    · refine (out_withTy (c := c) _).bind (G := fun et (k : A × Heap ieee → R ieee) => _) fun et => ?_
      refine out_srcBind h et.size _ fun m ns => ?_
      split
      · refine Out1.gd _ ?_
        refine (out_ownOf h _).bind (G := fun cs (k : A × Heap ieee → R ieee) => _) fun cs => ?_
        exact Out1.gd _ (Out1.pure _)
      · exact Out1.gd _ (Out1.pure _)
      · exact Out1.none
    · exact Out1.none
  · exact Out1.none
theorem out_copyS (ts : List TypeId) (args : List A) (h : Heap ieee) : Out1 (fun k : A × Heap ieee → R ieee => copyS c ts args h fun v h' => k (v, h')) := by
  unfold copyS
  split
  · refine (out_withTy (c := c) _).bind (G := fun ti (k : A × Heap ieee → R ieee) => _) fun ti => ?_
    split
    · refine (out_withTy (c := c) _).bind (G := fun et (k : A × Heap ieee → R ieee) => _) fun et => ?_
      refine Out1.gd _ ?_
      split
      · refine Out1.gd _ ?_
        unfold hget
        split
        · refine Out1.gd _ ?_
          refine (out_ownOf h _).bind (G := fun cs (k : A × Heap ieee → R ieee) => _) fun cs => ?_
          exact (out_wrA _ _ _ _).bind (G := fun cs' (k : A × Heap ieee → R ieee) => _) fun cs' => Out1.pure _
        · exact Out1.none
      · exact Out1.none
    · exact Out1.none
  · exact Out1.none
theorem out2_subHeap : ∀ (l : List Nat) (acc : Heap ieee), Out2 (fun h (k : Heap ieee → R ieee) =>
    List.rec (motive := fun _ => Heap ieee → R ieee) k (fun (b : Nat) _ (ih : Heap ieee → R ieee) (acc : Heap ieee) => subStep h b ih acc) l acc)
  | [], acc => fun _ k r h => ⟨acc, h, fun _ => rfl, fun _ _ => rfl⟩
  | b :: l, acc => by
    intro h k r hh
    dsimp only at hh ⊢
    have hh' := hh
    unfold subStep at hh'
    split at hh'
    · rename_i wr cs hb
      obtain ⟨a, h1, h2, h3⟩ := out2_subHeap l _ h k r hh'
      refine ⟨a, h1, fun k' => ?_, fun x k' => ?_⟩
      · unfold subStep; rw [hb]; exact h2 k'
      · unfold subStep; rw [get_more hb]; exact h3 x k'
    · cases hh'

end
end Go.Ab
