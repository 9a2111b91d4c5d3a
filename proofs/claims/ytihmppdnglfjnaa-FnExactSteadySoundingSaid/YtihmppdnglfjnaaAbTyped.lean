/- Own work: a part of the library under the claims of this seat. -/
/-
Lists of cells of one kind: what reads and writes give.
-/
import Derived.Test.YtihmppdnglfjnaaAbForm
namespace Go.Ab
section
variable {o : FO}
def isI : AV o → Bool
  | .int .i64 _ => true
  | _ => false
/-- n cells, all floats; all integers -/
def tS (n : Nat) (L : List (AV o)) : Bool := Nat.beq L.length n && L.all isF
def tI (n : Nat) (L : List (AV o)) : Bool := Nat.beq L.length n && L.all isI
def vS : AV o → o.S
  | .f32 x => x
  | _ => o.slit 0
def vI : AV o → Int
  | .int _ x => x
  | _ => 0
/-- a cell's number -/
def lkS (L : List (AV o)) (i : Nat) : o.S := match L[i]? with | some v => vS v | none => o.slit 0
def lkI (L : List (AV o)) (i : Nat) : Int := match L[i]? with | some v => vI v | none => 0

theorem tS_len {n : Nat} {L : List (AV o)} (h : tS n L = true) : L.length = n := by
  unfold tS at h
  rw [Bool.and_eq_true] at h
  exact Nat.eq_of_beq_eq_true h.1
theorem tI_len {n : Nat} {L : List (AV o)} (h : tI n L = true) : L.length = n := by
  unfold tI at h
  rw [Bool.and_eq_true] at h
  exact Nat.eq_of_beq_eq_true h.1
theorem tS_get {n : Nat} {L : List (AV o)} (h : tS n L = true) {i : Nat} (hi : i < n) : L[i]? = some (.f32 (lkS L i)) := by
  have hl := tS_len h
  unfold tS at h
  rw [Bool.and_eq_true, List.all_eq_true] at h
  have h1 : L[i]? = some L[i] := List.getElem?_eq_getElem (by omega)
  have h2 := h.2 _ (List.mem_of_getElem? h1)
  unfold lkS
  rw [h1]
  cases hc : L[i] with
  | f32 x => rfl
  | _ => rw [hc] at h2; cases h2
theorem tI_get {n : Nat} {L : List (AV o)} (h : tI n L = true) {i : Nat} (hi : i < n) : L[i]? = some (.int .i64 (lkI L i)) := by
  have hl := tI_len h
  unfold tI at h
  rw [Bool.and_eq_true, List.all_eq_true] at h
  have h1 : L[i]? = some L[i] := List.getElem?_eq_getElem (by omega)
  have h2 := h.2 _ (List.mem_of_getElem? h1)
  unfold lkI
  rw [h1]
  cases hc : L[i] with
  | int k x =>
    rw [hc] at h2
    cases k <;> first | rfl | cases h2
  | _ => rw [hc] at h2; cases h2
theorem rdS_t {n : Nat} {L : List (AV o)} {i : Nat} (h : tS n L = true) (hi : i < n) (k : o.S → R o) : rdS L i k = k (lkS L i) := rdS_of (tS_get h hi) k
theorem rdI_t {n : Nat} {L : List (AV o)} {i : Nat} (h : tI n L = true) (hi : i < n) (k : Int → R o) : rdI .i64 L i k = k (lkI L i) := rdI_of (tI_get h hi) k
theorem wrS_t {n : Nat} {L : List (AV o)} {i : Nat} (h : tS n L = true) (hi : i < n) (v : AV o) (k : List (AV o) → R o) : wr1 L i v k = k (L.set i v) := wr1_of (by rw [tS_len h]; exact hi) v k
theorem wrI_t {n : Nat} {L : List (AV o)} {i : Nat} (h : tI n L = true) (hi : i < n) (v : AV o) (k : List (AV o) → R o) : wr1 L i v k = k (L.set i v) := wr1_of (by rw [tI_len h]; exact hi) v k
theorem all_set {p : AV o → Bool} {L : List (AV o)} {i : Nat} {v : AV o} (h : L.all p = true) (hv : p v = true) : (L.set i v).all p = true := by
  rw [List.all_eq_true] at h ⊢
  intro x hx
  rcases List.mem_or_eq_of_mem_set hx with h1 | h1
  · exact h x h1
  · rw [h1]; exact hv
theorem tS_set {n : Nat} {L : List (AV o)} {i : Nat} {x : o.S} (h : tS n L = true) : tS n (L.set i (.f32 x)) = true := by
  unfold tS at h ⊢
  rw [Bool.and_eq_true] at h ⊢
  exact ⟨by rw [List.length_set]; exact h.1, all_set h.2 rfl⟩
theorem tI_set {n : Nat} {L : List (AV o)} {i : Nat} {x : Int} (h : tI n L = true) : tI n (L.set i (.int .i64 x)) = true := by
  unfold tI at h ⊢
  rw [Bool.and_eq_true] at h ⊢
  exact ⟨by rw [List.length_set]; exact h.1, all_set h.2 rfl⟩
theorem rdA_all {n : Nat} {L : List (AV o)} (h : L.length = n) (k : List (AV o) → R o) : rdA L 0 n k = k L := by
  rw [rdA_of (by omega), List.drop_zero, List.take_of_length_le (by omega)]
theorem rdA_tS {n : Nat} {L : List (AV o)} (h : tS n L = true) (k : List (AV o) → R o) : rdA L 0 n k = k L := rdA_all (tS_len h) k
theorem rdA_tI {n : Nat} {L : List (AV o)} (h : tI n L = true) (k : List (AV o) → R o) : rdA L 0 n k = k L := rdA_all (tI_len h) k
theorem wrA_all {n : Nat} {L vs : List (AV o)} (h : L.length = n) (hv : vs.length = n) (k : List (AV o) → R o) : wrA L 0 n vs k = k vs := by
  rw [wrA_of hv (by omega), List.take_zero, List.nil_append, List.drop_eq_nil_of_le (by omega), List.append_nil]
theorem wrA_tS {n : Nat} {L vs : List (AV o)} (h : tS n L = true) (hv : tS n vs = true) (k : List (AV o) → R o) : wrA L 0 n vs k = k vs := wrA_all (tS_len h) (tS_len hv) k
theorem wrA_tI {n : Nat} {L vs : List (AV o)} (h : tI n L = true) (hv : tI n vs = true) (k : List (AV o) → R o) : wrA L 0 n vs k = k vs := wrA_all (tI_len h) (tI_len hv) k
theorem tS_rep (n : Nat) (x : o.S) : tS n (List.replicate n (.f32 x : AV o)) = true := by
  unfold tS
  simp [isF]
theorem tI_rep (n : Nat) (x : Int) : tI n (List.replicate n (.int .i64 x : AV o)) = true := by
  unfold tI
  simp [isI]
theorem rdA_sI {n i m : Nat} {L : List (AV o)} (h : tI n L = true) (hi : i + m ≤ n) (k : List (AV o) → R o) : rdA L i m k = k ((L.drop i).take m) := rdA_of (by rw [tI_len h]; exact hi) k
theorem rdA_sS {n i m : Nat} {L : List (AV o)} (h : tS n L = true) (hi : i + m ≤ n) (k : List (AV o) → R o) : rdA L i m k = k ((L.drop i).take m) := rdA_of (by rw [tS_len h]; exact hi) k
theorem all_sub {p : AV o → Bool} {L : List (AV o)} {i m : Nat} (h : L.all p = true) : ((L.drop i).take m).all p = true := by
  rw [List.all_eq_true] at h ⊢
  exact fun x hx => h x (List.mem_of_mem_drop (List.mem_of_mem_take hx))
theorem len_sub {L : List (AV o)} {n i m : Nat} (h : L.length = n) (hi : i + m ≤ n) : ((L.drop i).take m).length = m := by
  rw [List.length_take, List.length_drop]
  omega
theorem tI_sub {n i m : Nat} {L : List (AV o)} (h : tI n L = true) (hi : i + m ≤ n) : tI m ((L.drop i).take m) = true := by
  have hl := tI_len h
  unfold tI at h ⊢
  rw [Bool.and_eq_true] at h ⊢
  exact ⟨by rw [len_sub hl hi]; exact Nat.beq_refl m, all_sub h.2⟩
theorem tS_sub {n i m : Nat} {L : List (AV o)} (h : tS n L = true) (hi : i + m ≤ n) : tS m ((L.drop i).take m) = true := by
  have hl := tS_len h
  unfold tS at h ⊢
  rw [Bool.and_eq_true] at h ⊢
  exact ⟨by rw [len_sub hl hi]; exact Nat.beq_refl m, all_sub h.2⟩
theorem sub_get {L : List (AV o)} {i m j : Nat} (hj : j < m) : ((L.drop i).take m)[j]? = L[i + j]? := by
  rw [List.getElem?_take, if_pos hj, List.getElem?_drop]
theorem lkI_sub {L : List (AV o)} {i m j : Nat} (hj : j < m) : lkI ((L.drop i).take m) j = lkI L (i + j) := by
  unfold lkI
  rw [sub_get hj]
theorem lkS_sub {L : List (AV o)} {i m j : Nat} (hj : j < m) : lkS ((L.drop i).take m) j = lkS L (i + j) := by
  unfold lkS
  rw [sub_get hj]
theorem lkS_self {L : List (AV o)} {i : Nat} {x : o.S} (h : i < L.length) : lkS (L.set i (.f32 x)) i = x := by
  unfold lkS
  rw [List.getElem?_set_self h]
  rfl
theorem lkS_ne {L : List (AV o)} {i j : Nat} {v : AV o} (h : i ≠ j) : lkS (L.set i v) j = lkS L j := by
  unfold lkS
  rw [List.getElem?_set_ne h]
theorem lkI_self {L : List (AV o)} {i : Nat} {x : Int} (h : i < L.length) : lkI (L.set i (.int .i64 x)) i = x := by
  unfold lkI
  rw [List.getElem?_set_self h]
  rfl
theorem lkI_ne {L : List (AV o)} {i j : Nat} {v : AV o} (h : i ≠ j) : lkI (L.set i v) j = lkI L j := by
  unfold lkI
  rw [List.getElem?_set_ne h]
end

section
variable {o : FO}
/-- an answer of a list and a code -/
def okI (n : Nat) : R o → Bool
  | some (.tup [.agg L, .int .i64 _], []) => tI n L
  | _ => false
def okS (n : Nat) : R o → Bool
  | some (.tup [.agg L, .int .i64 _], []) => tS n L
  | _ => false
theorem okI_c (n : Nat) (b : Bool) (x y : R o) : okI n (bif b then x else y) = bif b then okI n x else okI n y := by cases b <;> rfl
theorem okS_c (n : Nat) (b : Bool) (x y : R o) : okS n (bif b then x else y) = bif b then okS n x else okS n y := by cases b <;> rfl
theorem okI_leaf (n : Nat) (L : List (AV o)) (c : Int) : okI n (some (.tup [.agg L, .int .i64 c], [])) = tI n L := rfl
theorem okS_leaf (n : Nat) (L : List (AV o)) (c : Int) : okS n (some (.tup [.agg L, .int .i64 c], [])) = tS n L := rfl
theorem okI_get {n : Nat} {r : R o} (h : okI n r = true) : ∃ L c, r = some (.tup [.agg L, .int .i64 c], []) ∧ tI n L = true := by
  unfold okI at h
  split at h
  · exact ⟨_, _, rfl, h⟩
  · cases h
theorem okS_get {n : Nat} {r : R o} (h : okS n r = true) : ∃ L c, r = some (.tup [.agg L, .int .i64 c], []) ∧ tS n L = true := by
  unfold okS at h
  split at h
  · exact ⟨_, _, rfl, h⟩
  · cases h
theorem segF_t {n : Nat} {L : List (AV o)} (h : tS n L = true) (hn : n ≤ 4000) : segF L 0 n = true := by
  have hl := tS_len h
  unfold segF
  unfold tS at h
  rw [Bool.and_eq_true] at h
  rw [Bool.and_eq_true, Bool.and_eq_true]
  exact ⟨Nat.ble_eq_true_of_le hn, Nat.ble_eq_true_of_le (by omega), all_sub h.2⟩
theorem chain_and (b c : Bool) (x y : R o) : (bif b then (bif c then y else x) else x) = bif (b && c) then y else x := by cases b <;> rfl
theorem chain_not (b : Bool) (x y : R o) : (bif !b then x else y) = bif b then y else x := by cases b <;> rfl
theorem tI_map {n : Nat} {L : List (AV o)} (h : tI n L = true) : ∃ zs : List Int, zs.length = n ∧ L = zs.map fun z => .int .i64 z := by
  refine ⟨L.map vI, by rw [List.length_map, tI_len h], ?_⟩
  unfold tI at h
  rw [Bool.and_eq_true, List.all_eq_true] at h
  rw [List.map_map]
  symm
  refine (List.map_congr_left ?_).trans (List.map_id _)
  intro v hv
  have := h.2 v hv
  cases v with
  | int k x => cases k <;> first | rfl | cases this
  | _ => cases this
theorem tS_map {n : Nat} {L : List (AV o)} (h : tS n L = true) : ∃ zs : List o.S, zs.length = n ∧ L = zs.map fun z => .f32 z := by
  refine ⟨L.map vS, by rw [List.length_map, tS_len h], ?_⟩
  unfold tS at h
  rw [Bool.and_eq_true, List.all_eq_true] at h
  rw [List.map_map]
  symm
  refine (List.map_congr_left ?_).trans (List.map_id _)
  intro v hv
  have := h.2 v hv
  cases v with
  | f32 x => rfl
  | _ => cases this
end

theorem tS_of {n : Nat} {cs : List A} (h : L2 CK.is (List.replicate n .f32) cs) : tS n cs = true := by
  induction n generalizing cs with
  | zero =>
    obtain rfl := ck_nil h
    rfl
  | succ n ih =>
    obtain ⟨a, cs', rfl, ⟨x, rfl⟩, h2⟩ := ck_cons h
    have := ih h2
    unfold tS at this ⊢
    rw [Bool.and_eq_true] at this ⊢
    exact ⟨this.1, this.2⟩
theorem tI_of {n : Nat} {cs : List A} (h : L2 CK.is (List.replicate n (.int .i64)) cs) : tI n cs = true := by
  induction n generalizing cs with
  | zero =>
    obtain rfl := ck_nil h
    rfl
  | succ n ih =>
    obtain ⟨a, cs', rfl, ⟨x, rfl, _⟩, h2⟩ := ck_cons h
    have := ih h2
    unfold tI at this ⊢
    rw [Bool.and_eq_true] at this ⊢
    exact ⟨this.1, this.2⟩
end Go.Ab
