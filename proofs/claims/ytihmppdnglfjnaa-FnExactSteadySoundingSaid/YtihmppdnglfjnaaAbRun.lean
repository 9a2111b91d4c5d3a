/- Own work: a part of the library under the claims of this seat. -/
/-
Loops that look for the first place where something holds; arithmetic of counters.
-/
import Derived.Test.YtihmppdnglfjnaaAbOpen
namespace Go.Ab
section
variable {o : FO}
/-- the first of k places from i on -/
def fnd (p : Nat → Bool) : Nat → Nat → Option Nat
  | 0, _ => none
  | k + 1, i => bif p i then some i else fnd p k (i + 1)
def onFnd {β : Type} (f : Option Nat) (x : Nat → β) (r : β) : β := match f with | some j => x j | none => r
theorem iter_find {α β : Type} (F : (α → Option β) → α → Option β) (st : Nat → α) (n : Nat) (p : Nat → Bool) (x : Nat → Option β) (r : Option β)
    (hs : ∀ i, i < n → ∀ s0, F s0 (st i) = bif p i then x i else s0 (st (i + 1))) (he : ∀ s0, F s0 (st n) = r) :
    ∀ k i M, i + k = n → k < M → iter F M (st i) = onFnd (fnd p k i) x r := by
  intro k
  induction k with
  | zero =>
    intro i M hi hM
    cases M with
    | zero => omega
    | succ M =>
      have : i = n := by omega
      subst this
      rw [iter_succ, he]
      rfl
  | succ k ih =>
    intro i M hi hM
    cases M with
    | zero => omega
    | succ M =>
      rw [iter_succ, hs i (by omega), ih (i + 1) M (by omega) (by omega)]
      show _ = onFnd (bif p i then some i else fnd p k (i + 1)) x r
      cases p i <;> rfl
theorem iter_up {α β : Type} (F : (α → Option β) → α → Option β) (st : Nat → α) (n : Nat) (r : Option β) (M : Nat) (hM : n < M)
    (hs : ∀ i, i < n → ∀ s0, F s0 (st i) = s0 (st (i + 1))) (he : ∀ s0, F s0 (st n) = r) : iter F M (st 0) = r := by
  have h := iter_find F st n (fun _ => false) (fun _ => r) r (fun i hi s0 => hs i hi s0) he n 0 M (by omega) hM
  rw [h]
  unfold onFnd
  split <;> rfl
theorem fnd_none {p : Nat → Bool} : ∀ {k i : Nat}, fnd p k i = none → ∀ j, i ≤ j → j < i + k → p j = false := by
  intro k
  induction k with
  | zero => intro i _ j h1 h2; omega
  | succ k ih =>
    intro i h j h1 h2
    unfold fnd at h
    cases hp : p i with
    | true => rw [hp] at h; cases h
    | false =>
      rw [hp] at h
      by_cases hj : j = i
      · rw [hj]; exact hp
      · exact ih h j (by omega) (by omega)
theorem fnd_some {p : Nat → Bool} : ∀ {k i j : Nat}, fnd p k i = some j → i ≤ j ∧ j < i + k ∧ p j = true ∧ ∀ j', i ≤ j' → j' < j → p j' = false := by
  intro k
  induction k with
  | zero => intro i j h; cases h
  | succ k ih =>
    intro i j h
    unfold fnd at h
    cases hp : p i with
    | true =>
      rw [hp] at h
      cases h
      exact ⟨Nat.le_refl _, by omega, hp, fun j' h1 h2 => by omega⟩
    | false =>
      rw [hp] at h
      obtain ⟨h1, h2, h3, h4⟩ := ih h
      refine ⟨by omega, by omega, h3, fun j' g1 g2 => ?_⟩
      by_cases hj : j' = i
      · rw [hj]; exact hp
      · exact h4 j' (by omega) g2
theorem fnd_congr {p q : Nat → Bool} : ∀ {k i : Nat}, (∀ j, i ≤ j → j < i + k → p j = q j) → fnd p k i = fnd q k i := by
  intro k
  induction k with
  | zero => intro i _; rfl
  | succ k ih =>
    intro i h
    show (bif p i then some i else fnd p k (i + 1)) = (bif q i then some i else fnd q k (i + 1))
    rw [h i (by omega) (by omega), ih fun j h1 h2 => h j (by omega) (by omega)]
theorem fnd_false {p : Nat → Bool} {k i : Nat} (h : ∀ j, i ≤ j → j < i + k → p j = false) : fnd p k i = none := by
  cases hf : fnd p k i with
  | none => rfl
  | some j =>
    obtain ⟨h1, h2, h3, _⟩ := fnd_some hf
    rw [h j h1 h2] at h3
    cases h3

theorem dlt {a b : Nat} (h : a < b) : decide ((a : Int) < (b : Int)) = true := decide_eq_true (by omega)
theorem dnl {a b : Nat} (h : b ≤ a) : decide ((a : Int) < (b : Int)) = false := decide_eq_false (by omega)
theorem dge (a : Nat) : decide ((0 : Int) ≤ (a : Int)) = true := decide_eq_true (by omega)
theorem dpo {a : Nat} (h : 0 < a) : decide ((a : Int) > (0 : Int)) = true := decide_eq_true (by omega)
theorem dp0 : decide (((0 : Nat) : Int) > (0 : Int)) = false := rfl
theorem wrS {i : Nat} (h : i < 1000000000) : IntKind.wrap .i64 ((i : Int) + (1 : Int)) = ((i + 1 : Nat) : Int) := by rw [wrap64 (by omega) (by omega)]; omega
theorem wrP {i : Nat} (h : 0 < i) (h2 : i < 1000000000) : IntKind.wrap .i64 ((i : Int) - (1 : Int)) = ((i - 1 : Nat) : Int) := by rw [wrap64 (by omega) (by omega)]; omega
theorem wrQ {i : Nat} (h2 : i < 1000000000) : IntKind.wrap .i64 (((i + 1 : Nat) : Int) - (1 : Int)) = ((i : Nat) : Int) := by rw [wrap64 (by omega) (by omega)]; omega

theorem mkOk {n : Nat} (h : n ≤ 1048576) : (decide (0 ≤ ((n : Nat) : Int)) && (decide (((n : Nat) : Int) = ((n : Nat) : Int)) && (decide (((n : Nat) : Int) * ((3 : Nat) : Int) ≤ 16777216) && (decide (((12 : Nat) : Int) * ((n : Nat) : Int) ≤ 281474976710656) && decide (((n : Nat) : Int) ≤ 9223372036854775807))))) = true := by
  simp only [Bool.and_eq_true, decide_eq_true_eq]
  refine ⟨by omega, trivial, ?_, ?_, by omega⟩
  · show ((n : Nat) : Int) * 3 ≤ 16777216
    omega
  · show (12 : Int) * ((n : Nat) : Int) ≤ 281474976710656
    omega
/-- rows of floats: i elements of s, the rest zero -/
def fillS (L : List (AV o)) (i m : Nat) : List (AV o) := L.take i ++ List.replicate (m - i) (.f32 (o.slit 0))
theorem fillS_len {L : List (AV o)} {i m : Nat} (h : L.length = m) (hi : i ≤ m) : (fillS L i m).length = m := by
  unfold fillS
  rw [List.length_append, List.length_take, List.length_replicate]
  omega
theorem fillS_3 {L : List (AV o)} {m : Nat} (h : tS m L = true) {i : Nat} (hi : i + 3 ≤ m) (k : List (AV o) → R o) :
    wrA (fillS L i m) i 3 [.f32 (lkS L i), .f32 (lkS L (i + 1)), .f32 (lkS L (i + 2))] k = k (fillS L (i + 3) m) := by
  have hl := tS_len h
  rw [wrA_of (n := 3) (vs := [.f32 (lkS L i), .f32 (lkS L (i + 1)), .f32 (lkS L (i + 2))]) rfl (by rw [fillS_len hl (by omega)]; exact hi)]
  congr 1
  have e : L.take (i + 3) = L.take i ++ [.f32 (lkS L i), .f32 (lkS L (i + 1)), .f32 (lkS L (i + 2))] := by
    have g0 := tS_get h (show i < m by omega)
    have g1 := tS_get h (show i + 1 < m by omega)
    have g2 := tS_get h (show i + 2 < m by omega)
    rw [List.take_add_one, List.take_add_one, List.take_add_one, g0, g1, g2]
    simp
  unfold fillS
  rw [e, List.take_append_of_le_length (by rw [List.length_take]; omega), List.take_take, Nat.min_self, List.append_assoc]
  congr 2
  rw [List.drop_append, List.drop_eq_nil_of_le (by rw [List.length_take]; omega), List.nil_append, List.drop_replicate, List.length_take]
  congr 1
  omega
theorem fillS_0 (L : List (AV o)) (m : Nat) : fillS L 0 m = List.replicate m (.f32 (o.slit 0)) := by unfold fillS; simp
theorem fillS_all {L : List (AV o)} {m : Nat} (h : L.length = m) : fillS L m m = L := by unfold fillS; simp [List.take_of_length_le (Nat.le_of_eq h)]
theorem zeros_3 (n : Nat) : zeros [(.f32 (o.slit 0) : AV o), .f32 (o.slit 0), .f32 (o.slit 0)] n = List.replicate (n * 3) (.f32 (o.slit 0)) := by
  unfold zeros
  induction n with
  | zero => rfl
  | succ n ih =>
    rw [List.replicate_succ, List.flatten_cons, ih, Nat.succ_mul, Nat.add_comm, ← List.replicate_append_replicate]
    rfl
end
end Go.Ab
