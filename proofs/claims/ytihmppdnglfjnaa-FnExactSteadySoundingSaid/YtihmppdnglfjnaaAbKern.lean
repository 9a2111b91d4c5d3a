/- Own work: a part of the library under the claims of this seat. -/
/-
Loops over rows and columns of a 20 x 20 kernel.
-/
import Derived.Test.YtihmppdnglfjnaaAbRank
namespace Go.Ab
section
variable {o : FO}
/-- all places of all rows -/
def all2 (q : Nat → Nat → Bool) : Bool := (fnd (fun i => (fnd (fun j => !(q i j)) 20 0).isSome) 20 0).isNone
theorem all2_iff {q : Nat → Nat → Bool} : all2 q = true ↔ ∀ i j, i < 20 → j < 20 → q i j = true := by
  unfold all2
  constructor
  · intro h i j hi hj
    have h1 := fnd_none (Option.isNone_iff_eq_none.1 h) i (by omega) (by omega)
    cases hf : fnd (fun j => !(q i j)) 20 0 with
    | some t => rw [hf] at h1; cases h1
    | none =>
      have := fnd_none hf j (by omega) (by omega)
      simpa using this
  · intro h
    rw [fnd_false]
    · rfl
    · intro i _ hi
      rw [fnd_false]
      · rfl
      · intro j _ hj
        rw [h i j (by omega) (by omega)]
        rfl
theorem all2_congr {p q : Nat → Nat → Bool} (h : (∀ i j, i < 20 → j < 20 → p i j = true) ↔ (∀ i j, i < 20 → j < 20 → q i j = true)) : all2 p = all2 q := by
  rw [Bool.eq_iff_iff, all2_iff, all2_iff, h]
theorem iter2_all {α0 α1 β : Type} {N : Nat} (hN : 20 < N) (F0 : (α0 → Option β) → α0 → Option β) (F1 : (α0 → Option β) → (α1 → Option β) → α1 → Option β) (st0 : Nat → α0) (st1 : Nat → Nat → α1) (q : Nat → Nat → Bool) (e r : Option β)
    (hO : ∀ i, i < 20 → ∀ s0, F0 s0 (st0 i) = iter (F1 s0) N (st1 i 0)) (hI : ∀ i j, i < 20 → j < 20 → ∀ s0 s1, F1 s0 s1 (st1 i j) = bif q i j then s1 (st1 i (j + 1)) else e)
    (hE : ∀ i, i < 20 → ∀ s0 s1, F1 s0 s1 (st1 i 20) = s0 (st0 (i + 1))) (hX : ∀ s0, F0 s0 (st0 20) = r) : iter F0 N (st0 0) = bif all2 q then r else e := by
  have inner : ∀ i, i < 20 → ∀ s0, iter (F1 s0) N (st1 i 0) = bif (fnd (fun j => !(q i j)) 20 0).isSome then e else s0 (st0 (i + 1)) := by
    intro i hi s0
    have := iter_find (F1 s0) (st1 i) 20 (fun j => !(q i j)) (fun _ => e) (s0 (st0 (i + 1))) (fun j hj s1 => by
      rw [hI i j hi hj]
      cases q i j <;> rfl) (fun s1 => hE i hi s0 s1) 20 0 N (by omega) hN
    rw [this]
    cases fnd (fun j => !(q i j)) 20 0 <;> rfl
  have := iter_find F0 st0 20 (fun i => (fnd (fun j => !(q i j)) 20 0).isSome) (fun _ => e) r (fun i hi s0 => by rw [hO i hi, inner i hi]) hX 20 0 N (by omega) hN
  rw [this]
  unfold all2
  cases fnd (fun i => (fnd (fun j => !(q i j)) 20 0).isSome) 20 0 <;> rfl
theorem iter2_up {α0 α1 β : Type} {N : Nat} (hN : 20 < N) (F0 : (α0 → Option β) → α0 → Option β) (F1 : (α0 → Option β) → (α1 → Option β) → α1 → Option β) (st0 : Nat → α0) (st1 : Nat → Nat → α1) (r : Option β)
    (hO : ∀ i, i < 20 → ∀ s0, F0 s0 (st0 i) = iter (F1 s0) N (st1 i 0)) (hI : ∀ i j, i < 20 → j < 20 → ∀ s0 s1, F1 s0 s1 (st1 i j) = s1 (st1 i (j + 1)))
    (hE : ∀ i, i < 20 → ∀ s0 s1, F1 s0 s1 (st1 i 20) = s0 (st0 (i + 1))) (hX : ∀ s0, F0 s0 (st0 20) = r) : iter F0 N (st0 0) = r := by
  have := iter2_all hN F0 F1 st0 st1 (fun _ _ => true) r r hO (fun i j hi hj s0 s1 => hI i j hi hj s0 s1) hE hX
  rw [this]
  cases all2 (fun _ _ => true) <;> rfl

/-- the first t cells are new -/
noncomputable def updS (n : Nat) (L : List (AV o)) (g : Nat → o.S) (t : Nat) : List (AV o) := (List.range n).map fun s => .f32 (if s < t then g s else lkS L s)
theorem updS_get {n : Nat} {L : List (AV o)} {g : Nat → o.S} {t s : Nat} (hs : s < n) : (updS n L g t)[s]? = some (.f32 (if s < t then g s else lkS L s)) := by
  unfold updS
  rw [List.getElem?_map, List.getElem?_range hs]
  rfl
theorem tS_updS (n : Nat) (L : List (AV o)) (g : Nat → o.S) (t : Nat) : tS n (updS n L g t) = true := by
  unfold tS updS
  simp [isF]
theorem updS_lk {n : Nat} {L : List (AV o)} {g : Nat → o.S} {t s : Nat} (hs : s < n) : lkS (updS n L g t) s = if s < t then g s else lkS L s := by
  unfold lkS
  rw [updS_get hs]
  rfl
theorem updS_here {n : Nat} {L : List (AV o)} {g : Nat → o.S} {t : Nat} (hs : t < n) : lkS (updS n L g t) t = lkS L t := by
  rw [updS_lk hs, if_neg (by omega)]
theorem tS_ext {n : Nat} {L M : List (AV o)} (h : tS n L = true) (h' : tS n M = true) (he : ∀ s, s < n → lkS L s = lkS M s) : L = M := by
  apply List.ext_getElem?
  intro s
  by_cases hs : s < n
  · rw [tS_get h hs, tS_get h' hs, he s hs]
  · rw [List.getElem?_eq_none (by rw [tS_len h]; omega), List.getElem?_eq_none (by rw [tS_len h']; omega)]
theorem updS_0 {n : Nat} {L : List (AV o)} (h : tS n L = true) (g : Nat → o.S) : updS n L g 0 = L :=
  tS_ext (tS_updS _ _ _ _) h fun s hs => by rw [updS_lk hs, if_neg (by omega)]
theorem updS_set {n : Nat} {L : List (AV o)} {g : Nat → o.S} {t : Nat} (ht : t < n) : (updS n L g t).set t (.f32 (g t)) = updS n L g (t + 1) := by
  refine tS_ext (tS_set (tS_updS _ _ _ _)) (tS_updS _ _ _ _) fun s hs => ?_
  rw [updS_lk hs]
  by_cases he : t = s
  · subst he
    rw [lkS_self (by rw [tS_len (tS_updS n L g t)]; exact ht), if_pos (by omega)]
  · rw [lkS_ne he, updS_lk hs]
    by_cases h1 : s < t
    · rw [if_pos h1, if_pos (by omega)]
    · rw [if_neg h1, if_neg (by omega)]
theorem updS_all {n : Nat} {L M : List (AV o)} (h : tS n M = true) : updS n L (lkS M) n = M :=
  tS_ext (tS_updS _ _ _ _) h fun s hs => by rw [updS_lk hs, if_pos hs]
theorem updS_row {n : Nat} {L : List (AV o)} {g : Nat → o.S} {t k : Nat} {M : List (AV o)} (hk : t + k ≤ n) (hM : tS k M = true) (hg : ∀ s, s < k → lkS M s = g (t + s)) :
    (updS n L g t).take t ++ (M ++ (updS n L g t).drop (t + k)) = updS n L g (t + k) := by
  have hlen := tS_len (tS_updS n L g t)
  have hml := tS_len hM
  apply List.ext_getElem?
  intro s
  by_cases h1 : s < t
  · rw [List.getElem?_append_left (by rw [List.length_take]; omega), List.getElem?_take, if_pos h1, updS_get (by omega), updS_get (by omega), if_pos h1, if_pos (by omega)]
  · rw [List.getElem?_append_right (by rw [List.length_take]; omega), List.length_take, show min t (updS n L g t).length = t by omega]
    by_cases h2 : s < t + k
    · rw [List.getElem?_append_left (by omega), tS_get hM (by omega), hg _ (by omega), updS_get (by omega), if_pos h2, show t + (s - t) = s by omega]
    · rw [List.getElem?_append_right (by omega), List.getElem?_drop, hml, show t + k + (s - t - k) = s by omega]
      by_cases h3 : s < n
      · rw [updS_get h3, updS_get h3, if_neg h1, if_neg h2]
      · rw [List.getElem?_eq_none (by omega), List.getElem?_eq_none (by rw [tS_len (tS_updS n L g (t + k))]; omega)]
theorem wrA_row {n : Nat} {L : List (AV o)} {g : Nat → o.S} {t k : Nat} {M : List (AV o)} (hk : t + k ≤ n) (hM : tS k M = true) (hg : ∀ s, s < k → lkS M s = g (t + s)) (c : List (AV o) → R o) :
    wrA (updS n L g t) t k M c = c (updS n L g (t + k)) := by
  rw [wrA_of (tS_len hM) (by rw [tS_len (tS_updS n L g t)]; exact hk), updS_row hk hM hg]
theorem finSeg_iff {n i m : Nat} {L : List (AV o)} (h : tS n L = true) (hi : i + m ≤ n) : finSeg L i m = true ↔ ∀ j, j < m → finS o (lkS L (i + j)) = true := by
  have hs := tS_sub h hi
  unfold finSeg
  rw [List.all_eq_true]
  constructor
  · intro ha j hj
    have := ha _ (List.mem_of_getElem? (tS_get hs hj))
    rw [lkS_sub hj] at this
    exact this
  · intro ha v hv
    obtain ⟨j, hj⟩ := List.getElem?_of_mem hv
    have hlt : j < m := by
      have := (List.getElem?_eq_some_iff.1 hj).1
      rw [tS_len hs] at this
      exact this
    rw [tS_get hs hlt] at hj
    cases hj
    rw [lkS_sub hlt]
    exact ha j hlt
theorem segF_s {n i m : Nat} {L : List (AV o)} (h : tS n L = true) (hi : i + m ≤ n) (hm : m ≤ 4000) : segF L i m = true := by
  have hs := tS_sub h hi
  have hl := tS_len h
  unfold segF
  unfold tS at hs
  rw [Bool.and_eq_true] at hs
  rw [Bool.and_eq_true, Bool.and_eq_true]
  exact ⟨Nat.ble_eq_true_of_le hm, Nat.ble_eq_true_of_le (by omega), hs.2⟩
theorem dl20 {j : Nat} (h : j < 20) : decide (((j : Nat) : Int) < (20 : Int)) = true := decide_eq_true (by omega)
theorem dn20 : decide (((20 : Nat) : Int) < (20 : Int)) = false := rfl
theorem gfalse (k : R o) : gd false k = none := rfl
end
open Ieee

/-- a non-negative number's word is told by its value -/
def valR (rung : Nat) : Int := rankD (if rung < 8388608 then .number false rung (-149) else if rung < 2139095040 then .number false (8388608 + rung % 8388608) (-149 + (rung / 8388608 - 1 : Nat)) else .number false 0 0)
theorem valR_eq {a : Nat} (h : a < 2139095040) : valR a = ((if a < 8388608 then a else (8388608 + a % 8388608) * 2 ^ (a / 8388608 - 1) : Nat) : Int) := by
  unfold valR
  split
  · show signed false a _ = _
    unfold signed
    simp
  · show signed false _ _ = _
    unfold signed
    rw [show (-149 + ((a / 8388608 - 1 : Nat) : Int) + 149).toNat = a / 8388608 - 1 by omega, Nat.shiftLeft_eq]
    simp
theorem valR_mono {a b : Nat} (hab : a < b) (hb : b < 2139095040) : valR a < valR b := by
  rw [valR_eq (by omega), valR_eq hb]
  have key : (if a < 8388608 then a else (8388608 + a % 8388608) * 2 ^ (a / 8388608 - 1)) < (if b < 8388608 then b else (8388608 + b % 8388608) * 2 ^ (b / 8388608 - 1)) := by
    by_cases h1 : b < 8388608
    · rw [if_pos h1, if_pos (by omega)]; exact hab
    · rw [if_neg h1]
      by_cases h2 : a < 8388608
      · rw [if_pos h2]
        have : 1 ≤ 2 ^ (b / 8388608 - 1) := Nat.one_le_two_pow
        have := Nat.mul_le_mul_left (8388608 + b % 8388608) this
        omega
      · rw [if_neg h2]
        by_cases h3 : a / 8388608 = b / 8388608
        · rw [h3]
          exact Nat.mul_lt_mul_of_pos_right (by omega) (Nat.two_pow_pos _)
        · have h4 : a / 8388608 < b / 8388608 := by
            have := Nat.div_le_div_right (c := 8388608) (Nat.le_of_lt hab)
            omega
          have e1 : 2 ^ (b / 8388608 - 1) = 2 ^ (a / 8388608 - 1 + 1) * 2 ^ (b / 8388608 - 1 - (a / 8388608 - 1 + 1)) := by
            rw [← Nat.pow_add]
            congr 1
            omega
          have e2 : (8388608 + a % 8388608) * 2 ^ (a / 8388608 - 1) < 8388608 * 2 ^ (a / 8388608 - 1 + 1) := by
            rw [Nat.pow_succ, Nat.mul_comm (2 ^ (a / 8388608 - 1)) 2, ← Nat.mul_assoc]
            exact Nat.mul_lt_mul_of_pos_right (by omega) (Nat.two_pow_pos _)
          refine Nat.lt_of_lt_of_le e2 ?_
          rw [e1]
          have := Nat.one_le_two_pow (n := b / 8388608 - 1 - (a / 8388608 - 1 + 1))
          calc 8388608 * 2 ^ (a / 8388608 - 1 + 1) ≤ (8388608 + b % 8388608) * 2 ^ (a / 8388608 - 1 + 1) := Nat.mul_le_mul_right _ (by omega)
            _ = (8388608 + b % 8388608) * (2 ^ (a / 8388608 - 1 + 1) * 1) := by rw [Nat.mul_one]
            _ ≤ _ := Nat.mul_le_mul_left _ (Nat.mul_le_mul_left _ this)
  exact_mod_cast key
theorem amt_word {x : ieee.S} (h : amtS ieee x = true) : x.1 < 2139095040 := by
  have hfin : finS ieee x = true := by
    unfold amtS at h
    cases hf : finS ieee x with
    | false => rw [hf] at h; cases h
    | true => rfl
  have hpos : ieee.sle (ieee.slit 0) x = true ∧ x.1 ≠ 2147483648 := by
    rw [amtS_alt, hfin, cond_true] at h
    cases hs : ieee.sle (ieee.slit 0) x with
    | false => rw [hs] at h; cases h
    | true =>
      rw [hs, cond_true] at h
      refine ⟨rfl, fun e => ?_⟩
      have : ieee.sbits x = 2147483648 := by show ((x.1 : Nat) : Int) = _; rw [e]; rfl
      rw [this] at h
      cases h
  have hn := num_of_fin hfin
  have h0 : num (ieee.slit 0) := (num_of_le hpos.1).1
  have hr := hpos.1
  rw [sle_rk h0 hn] at hr
  replace hr := of_decide_eq_true hr
  have hr0 : rk (ieee.slit 0) = 0 := by
    unfold rk
    rw [zero_val]
    decide
  rw [hr0] at hr
  have hw : single.signWeight = 2147483648 := by decide
  have hi : single.infRung = 2139095040 := by decide
  have hbn : single.binade = 8388608 := by decide
  have hl : single.leastPlace = -149 := by decide
  have hlt : x.1 < 4294967296 := x.lt
  have hn' : ∀ s f, single.read x.1 ≠ .nan s f := hn
  unfold rk at hr
  unfold Format.read at hr hn'
  simp only [hw, hi, hbn, hl] at hr hn'
  by_cases hs : x.1 < 2147483648
  · have e1 : x.1 / 2147483648 % 2 = 0 := by omega
    have e2 : x.1 % 2147483648 = x.1 := by omega
    rw [e2] at hn'
    by_cases h1 : x.1 < 2139095040
    · exact h1
    · exfalso
      rw [if_neg (by omega), if_neg h1] at hn'
      by_cases h2 : x.1 = 2139095040
      · have : x = toW .f32 2139095040 := Wd.eq (k := .f32) (by rw [h2]; decide)
        rw [this] at hfin
        revert hfin
        decide
      · rw [if_neg h2] at hn'
        exact hn' _ _ rfl
  · exfalso
    have e1 : x.1 / 2147483648 % 2 = 1 := by omega
    have e2 : x.1 % 2147483648 = x.1 - 2147483648 := by omega
    rw [e2] at hn'
    rw [e1, e2] at hr
    have neg : ∀ (m : Nat) (i : Int), 0 < m → rankD (.number true m i) < 0 := by
      intro m i hm
      show signed true m _ < 0
      unfold signed
      have : 0 < m <<< (i + 149).toNat := by
        rw [Nat.shiftLeft_eq]
        exact Nat.mul_pos hm (Nat.two_pow_pos _)
      simp only [if_true]
      omega
    by_cases h1 : x.1 - 2147483648 < 8388608
    · rw [if_pos h1] at hr
      have := neg (x.1 - 2147483648) (-149) (by have := hpos.2; omega)
      simp only [show ((1 : Nat) == 1) = true from rfl] at hr
      omega
    · rw [if_neg h1] at hr hn'
      by_cases h2 : x.1 - 2147483648 < 2139095040
      · rw [if_pos h2] at hr
        have := neg (8388608 + (x.1 - 2147483648) % 8388608) (-149 + (((x.1 - 2147483648) / 8388608 - 1 : Nat) : Int)) (by omega)
        simp only [show ((1 : Nat) == 1) = true from rfl] at hr
        omega
      · rw [if_neg h2] at hr hn'
        by_cases h3 : x.1 - 2147483648 = 2139095040
        · rw [if_pos h3] at hr
          simp only [show ((1 : Nat) == 1) = true from rfl, rankD, if_true] at hr
          have : 0 < big := by decide +kernel
          omega
        · rw [if_neg h3] at hn'
          exact hn' _ _ rfl
theorem rk_val {x : ieee.S} (h : x.1 < 2139095040) : rk x = valR x.1 := by
  have hw : single.signWeight = 2147483648 := by decide
  have hi : single.infRung = 2139095040 := by decide
  have hbn : single.binade = 8388608 := by decide
  have hl : single.leastPlace = -149 := by decide
  have e1 : x.1 / 2147483648 % 2 = 0 := by omega
  have e2 : x.1 % 2147483648 = x.1 := by omega
  unfold rk valR Format.read
  simp only [hw, hi, hbn, hl, e1, e2]
  by_cases h1 : x.1 < 8388608
  · rw [if_pos h1, if_pos h1]
    rfl
  · rw [if_neg h1, if_neg h1, if_pos h, if_pos h]
    rfl
/-- two amounts that are equal are the same -/
theorem amt_eq {x y : ieee.S} (hx : amtS ieee x = true) (hy : amtS ieee y = true) (h : ieee.seq x y = true) : x = y := by
  obtain ⟨nx, ny⟩ := num_of_eq h
  rw [seq_rk nx ny, rk_val (amt_word hx), rk_val (amt_word hy)] at h
  replace h := of_decide_eq_true h
  refine Wd.eq (k := .f32) ?_
  rcases Nat.lt_trichotomy x.1 y.1 with g | g | g
  · have := valR_mono g (amt_word hy); omega
  · exact g
  · have := valR_mono g (amt_word hx); omega
theorem amt_num {x : ieee.S} (h : amtS ieee x = true) : num x := by
  unfold amtS at h
  cases hf : finS ieee x with
  | false => rw [hf] at h; cases h
  | true => exact num_of_fin hf
end Go.Ab
