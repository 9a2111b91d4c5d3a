/- Own work: a part of the library under the claims of this seat. -/
/-
Closed forms of what the program's functions compute, and the lemmas by which a loop is told.
-/
import Derived.Test.YtihmppdnglfjnaaAbLaw
namespace Go.Ab

section
variable {o : FO}

theorem iter_succ {α β : Type} (F : (α → Option β) → α → Option β) (n : Nat) (a : α) : iter F (n + 1) a = F (iter F n) a := rfl
theorem rdS_of {cs : List (AV o)} {i : Nat} {x : o.S} (h : cs[i]? = some (.f32 x)) (k : o.S → R o) : rdS cs i k = k x := by unfold rdS; rw [h]
theorem rdI_of {q : IntKind} {cs : List (AV o)} {i : Nat} {x : Int} (h : cs[i]? = some (.int q x)) (k : Int → R o) : rdI q cs i k = k x := by unfold rdI; rw [h]; simp [gd]
theorem wr1_of {cs : List (AV o)} {i : Nat} (h : i < cs.length) (v : AV o) (k : List (AV o) → R o) : wr1 cs i v k = k (cs.set i v) := by
  unfold wr1
  rw [show Nat.blt i cs.length = true from Nat.ble_eq_true_of_le h]; rfl
theorem rdA_of {cs : List (AV o)} {i n : Nat} (h : i + n ≤ cs.length) (k : List (AV o) → R o) : rdA cs i n k = k ((cs.drop i).take n) := by
  unfold rdA
  rw [Nat.ble_eq_true_of_le h]; rfl
theorem wrA_of {cs vs : List (AV o)} {i n : Nat} (h1 : vs.length = n) (h : i + n ≤ cs.length) (k : List (AV o) → R o) : wrA cs i n vs k = k (cs.take i ++ (vs ++ cs.drop (i + n))) := by
  unfold wrA
  rw [Nat.ble_eq_true_of_le h, h1, Nat.beq_refl]; rfl
theorem gd_true {α : Type} (k : Option α) : gd true k = k := rfl

theorem wrap64 {x : Int} (h1 : -9223372036854775808 ≤ x) (h2 : x < 9223372036854775808) : IntKind.wrap .i64 x = x := by
  have e : IntKind.wrap .i64 x = if x % 18446744073709551616 ≥ 9223372036854775808 then x % 18446744073709551616 - 18446744073709551616 else x % 18446744073709551616 := by
    unfold IntKind.wrap
    simp [IntKind.bits, IntKind.signed]
  rw [e]
  split <;> omega

/-- finite -/
def finS (o : FO) (x : o.S) : Bool := o.seq (o.ssub x x) (o.slit 0)
def isF : AV o → Bool
  | .f32 _ => true
  | _ => false
def finC : AV o → Bool
  | .f32 x => finS o x
  | _ => false
/-- n cells from i on, all floats -/
def segF (cs : List (AV o)) (i n : Nat) : Bool := Nat.ble n 4000 && (Nat.ble (i + n) cs.length && ((cs.drop i).take n).all isF)
def finSeg (cs : List (AV o)) (i n : Nat) : Bool := ((cs.drop i).take n).all finC

theorem segF_get {cs : List (AV o)} {i n : Nat} (h : segF cs i n = true) {j : Nat} (hj : j < n) : ∃ x, cs[i + j]? = some (.f32 x) ∧ ((cs.drop i).take n)[j]? = some (.f32 x) := by
  unfold segF at h
  simp only [Bool.and_eq_true, List.all_eq_true] at h
  obtain ⟨_, h1, h2⟩ := h
  have h1 := Nat.le_of_ble_eq_true h1
  have hlt : i + j < cs.length := by omega
  have e : ((cs.drop i).take n)[j]? = some cs[i + j] := by
    rw [List.getElem?_take, if_pos hj, List.getElem?_drop, List.getElem?_eq_getElem hlt]
  have := h2 _ (List.mem_of_getElem? e)
  cases hc : cs[i + j] with
  | f32 x => exact ⟨x, by rw [List.getElem?_eq_getElem hlt, hc], by rw [e, hc]⟩
  | _ => rw [hc] at this; cases this
end
end Go.Ab

namespace Go.Ab
open Ieee

/-- a weight that cannot be negative: finite, and above 0 or 0 itself -/
def amtS (o : FO) (x : o.S) : Bool := bif finS o x then (bif o.slt (o.slit 0) x then true else (o.sbits x == 0)) else false

theorem order_self {d : Datum} (h : ∀ s f, d ≠ .nan s f) : d.order d = some .eq := by
  cases d with
  | nan s f => exact (h s f rfl).elim
  | infinity s => simp only [Datum.order, Nat.compare_eq_eq.2]
  | number s m e => simp only [Datum.order, Int.compare_eq_eq.2]

theorem seq_self {x : ieee.S} (h : ∀ s f, single.read x.1 ≠ .nan s f) : ieee.seq x x = true := by
  show (single.order x.1 x.1 == some .eq) = true
  unfold Format.order
  rw [order_self h]
  rfl
theorem sub_nan {x y : ieee.S} (h : ∃ s f, single.read x.1 = .nan s f) : (ieee.ssub x y).1 = nanOf .f32 := by
  obtain ⟨s, f, h⟩ := h
  refine (toW_far ⟨_, rfl⟩).trans ?_
  rw [h, sum_nan_l]
  rfl
theorem seq_of_fin (x : ieee.S) (h : finS ieee x = true) : ieee.seq x x = true := by
  refine seq_self ?_
  intro s f hn
  unfold finS at h
  have e := sub_nan (y := x) ⟨s, f, hn⟩
  have : ieee.seq (ieee.ssub x x) (ieee.slit 0) = false := by
    show (single.order (ieee.ssub x x).1 (ieee.slit 0).1 == some .eq) = false
    rw [e]
    obtain ⟨s0, f0, h0⟩ := read_nanOf .f32
    unfold Format.order
    rw [show single.read (nanOf .f32) = .nan s0 f0 from h0, order_nan_l]
    rfl
  rw [this] at h
  cases h

theorem slit_val {n : Nat} (h : n < 4294967296) (h2 : can .f32 n = n) : (ieee.slit n).1 = n := (toW_val (can_lt h)).trans h2
theorem zero_val : (ieee.slit 0).1 = 0 := by decide

theorem read_zero {x : Nat} (hx : x < 4294967296) {s : Bool} {e : Int} (h : single.read x = .number s 0 e) : x = 0 ∨ x = 2147483648 := by
  have hw : single.signWeight = 2147483648 := by decide
  have hi : single.infRung = 2139095040 := by decide
  have hbn : single.binade = 8388608 := by decide
  unfold Format.read at h
  simp only [hw, hi, hbn] at h
  split at h
  · simp only [Datum.number.injEq] at h
    omega
  · split at h
    · simp only [Datum.number.injEq] at h
      omega
    · split at h <;> cases h

theorem seq_zero (x : ieee.S) (h : ieee.seq (ieee.slit 0) x = true) : x.1 = 0 ∨ x.1 = 2147483648 := by
  have h1 : (single.order (ieee.slit 0).1 x.1 == some .eq) = true := h
  rw [zero_val] at h1
  have hz : single.read 0 = .number false 0 (-149) := by decide
  unfold Format.order at h1
  rw [hz] at h1
  cases hr : single.read x.1 with
  | nan s f => rw [hr, order_nan_r] at h1; cases h1
  | infinity s => rw [hr] at h1; cases s <;> cases h1
  | number s m e =>
    rw [hr] at h1
    simp only [Datum.order, beq_iff_eq, Option.some.injEq, Int.compare_eq_eq] at h1
    have hm : m = 0 := by
      have hp : ∀ k : Nat, ((m : Int) * 2 ^ k = 0) → m = 0 := by
        intro k hk
        rcases Int.mul_eq_zero.1 hk with h | h
        · omega
        · exact absurd h (Int.ne_of_gt (Int.pow_pos (by decide)))
      cases s <;> simp [signed, Nat.shiftLeft_eq] at h1
      · exact hp _ h1.symm
      · exact hp _ (Int.neg_eq_zero.1 h1.symm)
    subst hm
    exact read_zero x.lt hr

theorem amtS_alt (x : ieee.S) : amtS ieee x = bif finS ieee x then (bif ieee.sle (ieee.slit 0) x then (ieee.sbits x != 2147483648) else false) else false := by
  unfold amtS
  cases finS ieee x with
  | false => rfl
  | true =>
    simp only [cond_true]
    have hsle : ieee.sle (ieee.slit 0) x = (ieee.slt (ieee.slit 0) x || ieee.seq (ieee.slit 0) x) := rfl
    have hb : ieee.sbits x = (x.1 : Int) := rfl
    rw [hsle, hb]
    cases h1 : ieee.slt (ieee.slit 0) x with
    | true =>
      simp only [cond_true, Bool.true_or]
      by_cases hx : x.1 = 2147483648
      · exfalso
        have : (single.order (ieee.slit 0).1 x.1 == some .lt) = true := h1
        rw [zero_val, hx] at this
        revert this
        decide
      · symm
        simp
        omega
    | false =>
      simp only [cond_false, Bool.false_or]
      cases h2 : ieee.seq (ieee.slit 0) x with
      | true =>
        rcases seq_zero x h2 with h3 | h3 <;> rw [h3] <;> rfl
      | false =>
        simp only [cond_false]
        by_cases hx : x.1 = 0
        · exfalso
          have : (single.order (ieee.slit 0).1 x.1 == some .eq) = false := h2
          rw [zero_val, hx] at this
          revert this
          decide
        · simp
          omega
end Go.Ab
