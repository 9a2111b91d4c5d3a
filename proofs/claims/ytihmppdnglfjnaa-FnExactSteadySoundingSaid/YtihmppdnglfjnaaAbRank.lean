/- Own work: a part of the library under the claims of this seat. -/
/-
Single-precision numbers that are not NaN are ordered as integers are.
-/
import Derived.Test.YtihmppdnglfjnaaAbRun
namespace Go.Ab
open Ieee

/-- above all finite numbers -/
def big : Nat := 2 ^ 200 * 2 ^ 200
def rankD : Datum → Int
  | .number s m i => signed s m (i + 149).toNat
  | .infinity s => if s then -(big : Int) else (big : Int)
  | .nan _ _ => 0
def numD (d : Datum) : Prop := ∀ s f, d ≠ .nan s f
def fineD : Datum → Prop
  | .number _ m i => -149 ≤ i ∧ i ≤ 104 ∧ m < 2 ^ 24
  | _ => True

theorem read_fine (x : Nat) : fineD (single.read x) := by
  have hw : single.signWeight = 2147483648 := by decide
  have hi : single.infRung = 2139095040 := by decide
  have hbn : single.binade = 8388608 := by decide
  have hl : single.leastPlace = -149 := by decide
  unfold Format.read
  simp only [hw, hi, hbn, hl]
  split
  · refine ⟨by omega, by omega, ?_⟩
    show _ < 16777216
    omega
  · split
    · refine ⟨by omega, ?_, ?_⟩
      · omega
      · show _ < 16777216
        omega
    · split <;> trivial

theorem signed_scale (s : Bool) (m : Nat) (a b : Nat) : signed s m (a + b) = signed s m a * 2 ^ b := by
  unfold signed
  have e : m <<< (a + b) = (m <<< a) * 2 ^ b := by rw [Nat.shiftLeft_eq, Nat.shiftLeft_eq, Nat.pow_add, Nat.mul_assoc]
  cases s with
  | true =>
    simp only [if_true]
    rw [e, Int.neg_mul]
    simp
  | false =>
    simp only [Bool.false_eq_true, if_false]
    rw [e]
    simp
theorem compare_scale (x y : Int) (k : Nat) : compare (x * 2 ^ k) (y * 2 ^ k) = compare x y := by
  have hp : (0 : Int) < 2 ^ k := Int.pow_pos (by decide)
  rcases Int.lt_trichotomy x y with h | h | h
  · rw [Int.compare_eq_lt.2 h, Int.compare_eq_lt.2 (Int.mul_lt_mul_of_pos_right h hp)]
  · rw [h, Int.compare_eq_eq.2 rfl, Int.compare_eq_eq.2 rfl]
  · rw [Int.compare_eq_gt.2 h, Int.compare_eq_gt.2 (Int.mul_lt_mul_of_pos_right h hp)]
theorem signed_bound {s : Bool} {m k : Nat} (hm : m < 2 ^ 24) (hk : k ≤ 253) : -(big : Int) < signed s m k ∧ signed s m k < (big : Int) := by
  have h1 : m <<< k < big := by
    rw [Nat.shiftLeft_eq]
    have : m * 2 ^ k ≤ 2 ^ 24 * 2 ^ 253 := Nat.mul_le_mul (Nat.le_of_lt hm) (Nat.pow_le_pow_right (by decide) hk)
    exact Nat.lt_of_le_of_lt this (by decide +kernel)
  unfold signed
  generalize m <<< k = z at h1 ⊢
  cases s with
  | true => simp only [if_true]; omega
  | false => simp only [Bool.false_eq_true, if_false]; omega
theorem order_rank {d e : Datum} (hd : numD d) (he : numD e) (fd : fineD d) (fe : fineD e) : d.order e = some (compare (rankD d) (rankD e)) := by
  cases d with
  | nan s f => exact (hd s f rfl).elim
  | infinity s =>
    cases e with
    | nan t f => exact (he t f rfl).elim
    | infinity t => cases s <;> cases t <;> rfl
    | number t n j =>
      have := signed_bound (s := t) fe.2.2 (k := (j + 149).toNat) (by have := fe.1; have := fe.2.1; omega)
      cases s with
      | true => simp only [Datum.order, rankD, if_true]; rw [Int.compare_eq_lt.2 this.1]
      | false => simp only [Datum.order, rankD, Bool.false_eq_true, if_false]; rw [Int.compare_eq_gt.2 this.2]
  | number s m i =>
    cases e with
    | nan t f => exact (he t f rfl).elim
    | infinity t =>
      have := signed_bound (s := s) fd.2.2 (k := (i + 149).toNat) (by have := fd.1; have := fd.2.1; omega)
      cases t with
      | true => simp only [Datum.order, rankD, if_true]; rw [Int.compare_eq_gt.2 this.1]
      | false => simp only [Datum.order, rankD, Bool.false_eq_true, if_false]; rw [Int.compare_eq_lt.2 this.2]
    | number t n j =>
      have h1 := fd.1
      have h2 := fe.1
      simp only [Datum.order, rankD]
      have e1 : (i + 149).toNat = (i - min i j).toNat + (min i j + 149).toNat := by omega
      have e2 : (j + 149).toNat = (j - min i j).toNat + (min i j + 149).toNat := by omega
      rw [e1, e2, signed_scale, signed_scale, compare_scale]

noncomputable def rk (x : ieee.S) : Int := rankD (single.read x.1)
def num (x : ieee.S) : Prop := numD (single.read x.1)
theorem num_of_eq {x y : ieee.S} (h : ieee.seq x y = true) : num x ∧ num y := by
  have h1 : (single.order x.1 y.1 == some .eq) = true := h
  refine ⟨fun s f e => ?_, fun s f e => ?_⟩
  · unfold Format.order at h1
    rw [e, order_nan_l] at h1
    cases h1
  · unfold Format.order at h1
    rw [e, order_nan_r] at h1
    cases h1
theorem num_of_le {x y : ieee.S} (h : ieee.sle x y = true) : num x ∧ num y := by
  have h1 : (single.order x.1 y.1 == some .lt || single.order x.1 y.1 == some .eq) = true := h
  refine ⟨fun s f e => ?_, fun s f e => ?_⟩
  · unfold Format.order at h1
    rw [e, order_nan_l] at h1
    cases h1
  · unfold Format.order at h1
    rw [e, order_nan_r] at h1
    cases h1
theorem num_of_fin {x : ieee.S} (h : finS ieee x = true) : num x := (num_of_eq (seq_of_fin x h)).1
theorem ord_rk {x y : ieee.S} (hx : num x) (hy : num y) : single.order x.1 y.1 = some (compare (rk x) (rk y)) := order_rank hx hy (read_fine x.1) (read_fine y.1)
theorem slt_rk {x y : ieee.S} (hx : num x) (hy : num y) : ieee.slt x y = decide (rk x < rk y) := by
  show (single.order x.1 y.1 == some .lt) = _
  rw [ord_rk hx hy]
  rcases Int.lt_trichotomy (rk x) (rk y) with h | h | h
  · rw [Int.compare_eq_lt.2 h, decide_eq_true h]; rfl
  · rw [Int.compare_eq_eq.2 h, decide_eq_false (by omega)]; rfl
  · rw [Int.compare_eq_gt.2 h, decide_eq_false (by omega)]; rfl
theorem seq_rk {x y : ieee.S} (hx : num x) (hy : num y) : ieee.seq x y = decide (rk x = rk y) := by
  show (single.order x.1 y.1 == some .eq) = _
  rw [ord_rk hx hy]
  rcases Int.lt_trichotomy (rk x) (rk y) with h | h | h
  · rw [Int.compare_eq_lt.2 h, decide_eq_false (by omega)]; rfl
  · rw [Int.compare_eq_eq.2 h, decide_eq_true h]; rfl
  · rw [Int.compare_eq_gt.2 h, decide_eq_false (by omega)]; rfl
theorem sle_rk {x y : ieee.S} (hx : num x) (hy : num y) : ieee.sle x y = decide (rk x ≤ rk y) := by
  show (single.order x.1 y.1 == some .lt || single.order x.1 y.1 == some .eq) = _
  rw [ord_rk hx hy]
  rcases Int.lt_trichotomy (rk x) (rk y) with h | h | h
  · rw [Int.compare_eq_lt.2 h, decide_eq_true (by omega)]; rfl
  · rw [Int.compare_eq_eq.2 h, decide_eq_true (by omega)]; rfl
  · rw [Int.compare_eq_gt.2 h, decide_eq_false (by omega)]; rfl
theorem smin_rk {x y : ieee.S} (hx : num x) (hy : num y) : num (ieee.smin x y) ∧ rk (ieee.smin x y) = min (rk x) (rk y) := by
  have h : ieee.smin x y = toW .f32 (fmin .f32 x.1 y.1) := rfl
  have ho := ord_rk hx hy
  have ho' : FloatKind.f32.format.order x.1 y.1 = _ := ho
  unfold fmin at h
  rw [ho'] at h
  rcases Int.lt_trichotomy (rk x) (rk y) with g | g | g
  · rw [Int.compare_eq_lt.2 g] at h
    simp only at h
    have h2 := h.trans (toW_self (k := .f32) x)
    rw [h2]
    exact ⟨hx, by omega⟩
  · rw [Int.compare_eq_eq.2 g] at h
    simp only at h
    split at h
    · have h2 := h.trans (toW_self (k := .f32) x)
      rw [h2]
      exact ⟨hx, by omega⟩
    · have h2 := h.trans (toW_self (k := .f32) y)
      rw [h2]
      exact ⟨hy, by omega⟩
  · rw [Int.compare_eq_gt.2 g] at h
    simp only at h
    have h2 := h.trans (toW_self (k := .f32) y)
    rw [h2]
    exact ⟨hy, by omega⟩
theorem smax_rk {x y : ieee.S} (hx : num x) (hy : num y) : num (ieee.smax x y) ∧ rk (ieee.smax x y) = max (rk x) (rk y) := by
  have h : ieee.smax x y = toW .f32 (fmax .f32 x.1 y.1) := rfl
  have ho := ord_rk hx hy
  have ho' : FloatKind.f32.format.order x.1 y.1 = _ := ho
  unfold fmax at h
  rw [ho'] at h
  rcases Int.lt_trichotomy (rk x) (rk y) with g | g | g
  · rw [Int.compare_eq_lt.2 g] at h
    simp only at h
    have h2 := h.trans (toW_self (k := .f32) y)
    rw [h2]
    exact ⟨hy, by omega⟩
  · rw [Int.compare_eq_eq.2 g] at h
    simp only at h
    split at h
    · first
      | (have h2 := h.trans (toW_self (k := .f32) x); rw [h2]; exact ⟨hx, by omega⟩)
      | (have h2 := h.trans (toW_self (k := .f32) y); rw [h2]; exact ⟨hy, by omega⟩)
    · first
      | (have h2 := h.trans (toW_self (k := .f32) x); rw [h2]; exact ⟨hx, by omega⟩)
      | (have h2 := h.trans (toW_self (k := .f32) y); rw [h2]; exact ⟨hy, by omega⟩)
  · rw [Int.compare_eq_gt.2 g] at h
    simp only at h
    have h2 := h.trans (toW_self (k := .f32) x)
    rw [h2]
    exact ⟨hx, by omega⟩
end Go.Ab
