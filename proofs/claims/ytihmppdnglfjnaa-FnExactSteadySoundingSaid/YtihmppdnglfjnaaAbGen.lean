/- Own work: a part of the library under the claims of this seat. -/
/-
What the printed texts lean on: types by look, answers pushed out of branches.
-/
import Derived.Test.YtihmppdnglfjnaaAbLoop
namespace Go.Ab
open Go.RowKit

def kokB (P : Program) (t : TypeId) (q : TK) : Bool :=
  match q, P.underlying t with
  | .bool, some .bool => true
  | .int k, some (.int k') => decide (k' = k)
  | .f32, some (.float .f32) => true
  | .f64, some (.float .f64) => true
  | .c64, some (.complex .f32) => true
  | .c128, some (.complex .f64) => true
  | .str, some .string => true
  | .ptr, some (.pointer _) => true
  | .slice e, some (.slice e') => Nat.beq e' e
  | .func, some (.func _ _ _) => true
  | .struct fs, some (.struct fields) => decide (fields.toList.map (fun f => (f.offset, f.type)) = fs)
  | .array n e, some (.array n' e') => Nat.beq n' n && Nat.beq e' e
  | _, _ => false

theorem kok_of {P : Program} {t : TypeId} {q : TK} (h : kokB P t q = true) : KOk P t q := by
  unfold kokB at h
  split at h
  · rename_i hu; exact hu
  · rename_i hu; have := of_decide_eq_true h; subst this; exact hu
  · rename_i hu; exact hu
  · rename_i hu; exact hu
  · rename_i hu; exact hu
  · rename_i hu; exact hu
  · rename_i hu; exact hu
  · rename_i hu; exact ⟨_, hu⟩
  · rename_i hu; have := Nat.eq_of_beq_eq_true h; subst this; exact hu
  · rename_i hu; exact ⟨_, _, _, hu⟩
  · rename_i hu; have := of_decide_eq_true h; exact ⟨_, hu, this⟩
  · rename_i hu
    have h' := (Bool.and_eq_true _ _).mp h
    have h1 := Nat.eq_of_beq_eq_true h'.1
    have h2 := Nat.eq_of_beq_eq_true h'.2
    subst h1; subst h2; exact hu
  · cases h

theorem ofConst_s {v : Value} (h : v.oneCell' = true) : SRel [] (ofConst v) v := by
  have hv := ofConst_rel [] v
  unfold ofConst at hv ⊢
  split at hv
  · exact hv
  · exact hv
  · rename_i b
    revert hv
    cases Nat.blt b 4294967296
    · intro _; exact h
    · intro hv; exact hv
  · rename_i b
    revert hv
    cases Nat.blt b 18446744073709551616
    · intro _; exact h
    · intro hv; exact hv
  · rename_i a b
    revert hv
    cases (Nat.blt a 4294967296 && Nat.blt b 4294967296)
    · intro _; exact h
    · intro hv; exact hv
  · rename_i a b
    revert hv
    cases (Nat.blt a 18446744073709551616 && Nat.blt b 18446744073709551616)
    · intro _; exact h
    · intro hv; exact hv
  all_goals first | exact hv | exact h

theorem tyOk_of {P : Program} {t : TypeId} {i : TI ieee} (inf : TypeInfo) (h1 : P.info? t = some inf) (h2 : inf.size = i.size) (h3 : inf.bytes = i.bytes)
    (h4 : inf.zero.map (fun z => z.cells.toList.map ofConst) = some i.zero) (h5 : (inf.zero.map fun z => z.cells.toList.all Value.oneCell') = some true) (hk : kokB P t i.kind = true) : TyOk P t i := by
  refine ⟨?_, kok_of hk⟩
  cases hz : inf.zero with
  | none => rw [hz] at h4; cases h4
  | some z =>
    rw [hz] at h4 h5
    simp only [Option.map_some, Option.some.injEq] at h4 h5
    refine ⟨inf, z, h1, h2, h3, hz, ?_⟩
    rw [← h4]
    refine ⟨by simp, ?_⟩
    intro j a b ha hb
    rw [List.getElem?_map, hb] at ha
    cases ha
    exact ofConst_s (List.all_eq_true.1 h5 b (List.mem_of_getElem? hb))

section
variable {o : FO} {α β : Type}
theorem cond_some (b : Bool) (x y : α) : (bif b then some x else some y) = some (bif b then x else y) := by cases b <;> rfl
theorem cond_pair (b : Bool) (x y : α) (u v : β) : (bif b then (x, u) else (y, v)) = (bif b then x else y, bif b then u else v) := by cases b <;> rfl
theorem cond_same (b : Bool) (x : α) : (bif b then x else x) = x := by cases b <;> rfl
theorem cond_bool (b x y : Bool) : (bif b then (.bool x : AV o) else .bool y) = .bool (bif b then x else y) := by cases b <;> rfl
theorem cond_int (b : Bool) (q : IntKind) (x y : Int) : (bif b then (.int q x : AV o) else .int q y) = .int q (bif b then x else y) := by cases b <;> rfl
theorem cond_f32 (b : Bool) (x y : o.S) : (bif b then (.f32 x : AV o) else .f32 y) = .f32 (bif b then x else y) := by cases b <;> rfl
theorem cond_f64 (b : Bool) (x y : o.D) : (bif b then (.f64 x : AV o) else .f64 y) = .f64 (bif b then x else y) := by cases b <;> rfl
theorem cond_agg (b : Bool) (x y : List (AV o)) : (bif b then (.agg x : AV o) else .agg y) = .agg (bif b then x else y) := by cases b <;> rfl
theorem cond_tup (b : Bool) (x y : List (AV o)) : (bif b then (.tup x : AV o) else .tup y) = .tup (bif b then x else y) := by cases b <;> rfl
theorem cond_c64 (b : Bool) (x y u v : o.S) : (bif b then (.c64 x u : AV o) else .c64 y v) = .c64 (bif b then x else y) (bif b then u else v) := by cases b <;> rfl
theorem cond_cons (b : Bool) (x y : α) (u v : List α) : (bif b then x :: u else y :: v) = (bif b then x else y) :: (bif b then u else v) := by cases b <;> rfl
theorem cond_live (b : Bool) (w f : Bool) (u v : List (AV o)) : (bif b then (.live w f u : Blk o) else .live w f v) = .live w f (bif b then u else v) := by cases b <;> rfl
end

theorem br_get {α : Type} {c : Bool} {x : Tr α} {a : α} (h : (Tr.br c x .fail).get = some a) : c = true ∧ x.get = some a := by
  cases c
  · cases h
  · exact ⟨rfl, h⟩
theorem br_get2 {α : Type} {c : Bool} {x y : Tr α} {a : α} (h : (Tr.br c x y).get = some a) : (c = true ∧ x.get = some a) ∨ (c = false ∧ y.get = some a) := by
  cases c
  · exact .inr ⟨rfl, h⟩
  · exact .inl ⟨rfl, h⟩

end Go.Ab
