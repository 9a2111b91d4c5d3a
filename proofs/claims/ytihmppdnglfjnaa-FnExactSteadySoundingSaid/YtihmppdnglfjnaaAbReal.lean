/- Own work: a part of the library under the claims of this seat. -/
/-
The float operations of the model, as the abstract machine's: a float is its word, all NaNs one word ('can'); and what each operation of the model gives, up to that.
-/
import Derived.Test.YtihmppdnglfjnaaAbMach
namespace Go.Ab
open Ieee

def nanOf : FloatKind → Nat
  | .f32 => 2143289344
  | .f64 => 9221120237041090560

/-- All NaNs one word. -/
def can (k : FloatKind) (b : Nat) : Nat := match k.format.read b with | .nan _ _ => nanOf k | _ => b

def far (k : FloatKind) (r : Option Nat) : Nat := match r with | some r => can k r | none => nanOf k

/-- from one kind to the other -/
def conv (s d : FloatKind) (x : Nat) : Nat := match s.format.read x with | .nan _ _ => nanOf d | x => can d (d.format.write x)
def convOk (s d : FloatKind) (x : Nat) : Bool := match s.format.read x with
  | .number g m e => !(d.format.read (d.format.write (.number g m e))).isInfinity
  | _ => true

def fmin (k : FloatKind) (x y : Nat) : Nat := match k.format.order x y with
  | none => nanOf k
  | some .lt => x
  | some .gt => y
  | some .eq => if (k.format.read x).neg then x else y
def fmax (k : FloatKind) (x y : Nat) : Nat := match k.format.order x y with
  | none => nanOf k
  | some .lt => y
  | some .gt => x
  | some .eq => if (k.format.read x).neg then y else x

/-- how many words there are -/
def lim : FloatKind → Nat
  | .f32 => 4294967296
  | .f64 => 18446744073709551616

theorem read_nanOf (k : FloatKind) : ∃ s f, k.format.read (nanOf k) = .nan s f := by
  cases k
  · exact ⟨false, 4194304, by decide⟩
  · exact ⟨false, 2251799813685248, by decide⟩

/-- 'can' stands for the same datum, but that a NaN's sign and fraction are its own. -/
theorem read_can (k : FloatKind) (b : Nat) :
    (can k b = b ∧ ∀ s f, k.format.read b ≠ .nan s f) ∨ ((∃ s f, k.format.read b = .nan s f) ∧ can k b = nanOf k) := by
  unfold can
  cases h : k.format.read b with
  | nan s f => exact .inr ⟨⟨s, f, rfl⟩, rfl⟩
  | number s m e => exact .inl ⟨rfl, by intros; simp⟩
  | infinity s => exact .inl ⟨rfl, by intros; simp⟩

theorem can_nan {k : FloatKind} {b : Nat} {s : Bool} {f : Nat} (h : k.format.read b = .nan s f) : can k b = nanOf k := by
  unfold can; rw [h]
theorem can_nanOf (k : FloatKind) : can k (nanOf k) = nanOf k := by
  obtain ⟨s, f, h⟩ := read_nanOf k
  exact can_nan h
theorem can_can (k : FloatKind) (b : Nat) : can k (can k b) = can k b := by
  rcases read_can k b with ⟨h, _⟩ | ⟨_, h⟩
  · rw [h, h]
  · rw [h, can_nanOf]


/-- A float: a word of its kind, all NaNs one. -/
structure Wd (k : FloatKind) where
  val : Nat
  can : can k val = val
  lt : val < lim k
theorem Wd.eq {k : FloatKind} {x y : Wd k} (h : x.1 = y.1) : x = y := by
  cases x; cases y
  cases h
  rfl
theorem nanOf_lt (k : FloatKind) : nanOf k < lim k := by cases k <;> decide
def toW (k : FloatKind) (n : Nat) : Wd k := if h : can k n < lim k then ⟨can k n, can_can k n, h⟩ else ⟨nanOf k, can_nanOf k, nanOf_lt k⟩
theorem toW_val {k : FloatKind} {n : Nat} (h : can k n < lim k) : (toW k n).1 = can k n := by
  unfold toW
  rw [dif_pos h]
theorem can_lt {k : FloatKind} {n : Nat} (h : n < lim k) : can k n < lim k := by
  rcases read_can k n with ⟨e, _⟩ | ⟨_, e⟩
  · rw [e]; exact h
  · rw [e]; exact nanOf_lt k
theorem toW_self {k : FloatKind} (x : Wd k) : toW k x.1 = x := by
  have h : can k x.1 < lim k := by rw [x.can]; exact x.lt
  exact Wd.eq ((toW_val h).trans x.can)

def ieee : FO where
  S := Wd .f32
  D := Wd .f64
  slit := toW .f32
  dlit := toW .f64
  sadd x y := toW .f32 (far .f32 (single.add x.1 y.1))
  ssub x y := toW .f32 (far .f32 (single.sub x.1 y.1))
  smul x y := toW .f32 (far .f32 (single.mul x.1 y.1))
  sdiv x y := toW .f32 (far .f32 (single.div x.1 y.1))
  dadd x y := toW .f64 (far .f64 (double.add x.1 y.1))
  dsub x y := toW .f64 (far .f64 (double.sub x.1 y.1))
  dmul x y := toW .f64 (far .f64 (double.mul x.1 y.1))
  ddiv x y := toW .f64 (far .f64 (double.div x.1 y.1))
  seq x y := single.order x.1 y.1 == some .eq
  slt x y := single.order x.1 y.1 == some .lt
  sle x y := single.order x.1 y.1 == some .lt || single.order x.1 y.1 == some .eq
  deq x y := double.order x.1 y.1 == some .eq
  dlt x y := double.order x.1 y.1 == some .lt
  dle x y := double.order x.1 y.1 == some .lt || double.order x.1 y.1 == some .eq
  sneg x := toW .f32 (Op.negFloat .f32 x.1)
  dneg x := toW .f64 (Op.negFloat .f64 x.1)
  sofi n := toW .f32 (FloatKind.f32.nearest n)
  dofi n := toW .f64 (FloatKind.f64.nearest n)
  s2d x := toW .f64 (conv .f32 .f64 x.1)
  d2sOk x := convOk .f64 .f32 x.1
  d2s x := toW .f32 (conv .f64 .f32 x.1)
  s2iOk k x := (floatToIntVal .f32 x.1 k).isSome
  s2i k x := (floatToIntVal .f32 x.1 k).getD 0
  iand q a b := q.wrap ((BitVec.ofInt q.bits a &&& BitVec.ofInt q.bits b).toNat)
  ior q a b := q.wrap ((BitVec.ofInt q.bits a ||| BitVec.ofInt q.bits b).toNat)
  ixor q a b := q.wrap ((BitVec.ofInt q.bits a ^^^ BitVec.ofInt q.bits b).toNat)
  sbits x := (x.1 : Int)
  sofb n := toW .f32 n.toNat
  dbits x := (x.1 : Int)
  dofb n := toW .f64 n.toNat
  smin x y := toW .f32 (fmin .f32 x.1 y.1)
  smax x y := toW .f32 (fmax .f32 x.1 y.1)

/-! what is written is a word -/
theorem word_lt (k : FloatKind) (neg : Bool) (rung : Nat) (h : rung ≤ k.format.infRung + k.format.binade - 1) : k.format.word neg rung < lim k := by
  unfold Format.word
  cases k
  · have hw : FloatKind.f32.format.signWeight = 2147483648 := by decide
    have hi : FloatKind.f32.format.infRung = 2139095040 := by decide
    have hb : FloatKind.f32.format.binade = 8388608 := by decide
    rw [hi, hb] at h
    show _ < 4294967296
    rw [hw]
    split <;> omega
  · have hw : FloatKind.f64.format.signWeight = 9223372036854775808 := by decide
    have hi : FloatKind.f64.format.infRung = 9218868437227405312 := by decide
    have hb : FloatKind.f64.format.binade = 4503599627370496 := by decide
    rw [hi, hb] at h
    show _ < 18446744073709551616
    rw [hw]
    split <;> omega
theorem binade_pos (k : FloatKind) : 0 < k.format.binade := by cases k <;> decide
theorem write_lt (k : FloatKind) (d : Datum) : k.format.write d < lim k := by
  have hb := binade_pos k
  cases d with
  | number g m e =>
    show k.format.nearest g m e < lim k
    unfold Format.nearest
    split
    · exact word_lt k g 0 (by omega)
    · refine word_lt k g _ ?_
      refine Nat.le_trans (Nat.min_le_right _ _) (by omega)
  | infinity g => exact word_lt k g _ (by omega)
  | nan g f =>
    refine word_lt k g _ ?_
    have := Nat.mod_lt f hb
    omega
theorem far_lt (k : FloatKind) (r : Option Datum) : far k (r.map k.format.write) < lim k := by
  cases r with
  | none => exact nanOf_lt k
  | some d => exact can_lt (write_lt k d)
theorem can_far (k : FloatKind) (r : Option Nat) : can k (far k r) = far k r := by
  cases r with
  | none => exact can_nanOf k
  | some d => exact can_can k d
theorem toW_far {k : FloatKind} {r : Option Nat} (h : ∃ d : Option Datum, r = d.map k.format.write) : (toW k (far k r)).1 = far k r := by
  obtain ⟨d, rfl⟩ := h
  rw [toW_val (by rw [can_far]; exact far_lt k d), can_far]
theorem conv_lt (s d : FloatKind) (x : Nat) : conv s d x < lim d := by
  unfold conv
  split
  · exact nanOf_lt d
  · exact can_lt (write_lt d _)
theorem can_conv (s d : FloatKind) (x : Nat) : can d (conv s d x) = conv s d x := by
  unfold conv
  split
  · exact can_nanOf d
  · exact can_can d _
theorem toW_conv (s d : FloatKind) (x : Nat) : (toW d (conv s d x)).1 = conv s d x := by
  rw [toW_val (by rw [can_conv]; exact conv_lt s d x), can_conv]
theorem toW_nearest (k : FloatKind) (n : Int) : (toW k (k.nearest n)).1 = can k (k.nearest n) := toW_val (can_lt (write_lt k (.number (n < 0) n.natAbs 0)))
theorem neg_lt {k : FloatKind} {x : Nat} (h : x < lim k) : Op.negFloat k x < lim k := by
  unfold Op.negFloat
  cases k
  · exact Nat.xor_lt_two_pow (n := 32) h (by decide)
  · exact Nat.xor_lt_two_pow (n := 64) h (by decide)
theorem toW_neg {k : FloatKind} (x : Wd k) : (toW k (Op.negFloat k x.1)).1 = can k (Op.negFloat k x.1) := toW_val (can_lt (neg_lt x.lt))
theorem toW_fmin {k : FloatKind} (x y : Wd k) : (toW k (fmin k x.1 y.1)).1 = fmin k x.1 y.1 := by
  have : can k (fmin k x.1 y.1) = fmin k x.1 y.1 ∧ fmin k x.1 y.1 < lim k := by
    unfold fmin
    split
    · exact ⟨can_nanOf k, nanOf_lt k⟩
    · exact ⟨x.can, x.lt⟩
    · exact ⟨y.can, y.lt⟩
    · split
      · exact ⟨x.can, x.lt⟩
      · exact ⟨y.can, y.lt⟩
  rw [toW_val (by rw [this.1]; exact this.2), this.1]
theorem toW_fmax {k : FloatKind} (x y : Wd k) : (toW k (fmax k x.1 y.1)).1 = fmax k x.1 y.1 := by
  have : can k (fmax k x.1 y.1) = fmax k x.1 y.1 ∧ fmax k x.1 y.1 < lim k := by
    unfold fmax
    split
    · exact ⟨can_nanOf k, nanOf_lt k⟩
    · exact ⟨y.can, y.lt⟩
    · exact ⟨x.can, x.lt⟩
    · split
      · exact ⟨y.can, y.lt⟩
      · exact ⟨x.can, x.lt⟩
  rw [toW_val (by rw [this.1]; exact this.2), this.1]

section
variable (k : FloatKind) (x y : Nat)
theorem sum_nan_l (s : Bool) (f : Nat) (d : Datum) : (Datum.nan s f).sum d = none := by cases d <;> rfl
theorem sum_nan_r (s : Bool) (f : Nat) (d : Datum) : d.sum (Datum.nan s f) = none := by cases d <;> rfl
theorem product_nan_l (s : Bool) (f : Nat) (d : Datum) : (Datum.nan s f).product d = none := by cases d <;> rfl
theorem product_nan_r (s : Bool) (f : Nat) (d : Datum) : d.product (Datum.nan s f) = none := by cases d <;> rfl
theorem quotient_nan_l (n : Nat) (s : Bool) (f : Nat) (d : Datum) : (Datum.nan s f).quotient n d = none := by cases d <;> rfl
theorem quotient_nan_r (n : Nat) (s : Bool) (f : Nat) (d : Datum) : d.quotient n (Datum.nan s f) = none := by cases d <;> rfl
theorem order_nan_l (s : Bool) (f : Nat) (d : Datum) : (Datum.nan s f).order d = none := by cases d <;> rfl
theorem order_nan_r (s : Bool) (f : Nat) (d : Datum) : d.order (Datum.nan s f) = none := by cases d <;> rfl

theorem add_can : k.format.add (can k x) (can k y) = k.format.add x y := by
  obtain ⟨s0, f0, h0⟩ := read_nanOf k
  rcases read_can k x with ⟨hx, _⟩ | ⟨⟨s, f, hx⟩, hx'⟩ <;> rcases read_can k y with ⟨hy, _⟩ | ⟨⟨t, g, hy⟩, hy'⟩ <;>
    simp_all [Format.add, sum_nan_l, sum_nan_r]
theorem sub_can : k.format.sub (can k x) (can k y) = k.format.sub x y := by
  obtain ⟨s0, f0, h0⟩ := read_nanOf k
  rcases read_can k x with ⟨hx, _⟩ | ⟨⟨s, f, hx⟩, hx'⟩ <;> rcases read_can k y with ⟨hy, _⟩ | ⟨⟨t, g, hy⟩, hy'⟩ <;>
    simp_all [Format.sub, sum_nan_l, sum_nan_r, Datum.opposite]
theorem mul_can : k.format.mul (can k x) (can k y) = k.format.mul x y := by
  obtain ⟨s0, f0, h0⟩ := read_nanOf k
  rcases read_can k x with ⟨hx, _⟩ | ⟨⟨s, f, hx⟩, hx'⟩ <;> rcases read_can k y with ⟨hy, _⟩ | ⟨⟨t, g, hy⟩, hy'⟩ <;>
    simp_all [Format.mul, product_nan_l, product_nan_r]
theorem div_can : k.format.div (can k x) (can k y) = k.format.div x y := by
  obtain ⟨s0, f0, h0⟩ := read_nanOf k
  rcases read_can k x with ⟨hx, _⟩ | ⟨⟨s, f, hx⟩, hx'⟩ <;> rcases read_can k y with ⟨hy, _⟩ | ⟨⟨t, g, hy⟩, hy'⟩ <;>
    simp_all [Format.div, quotient_nan_l, quotient_nan_r]
theorem order_can : k.format.order (can k x) (can k y) = k.format.order x y := by
  obtain ⟨s0, f0, h0⟩ := read_nanOf k
  rcases read_can k x with ⟨hx, _⟩ | ⟨⟨s, f, hx⟩, hx'⟩ <;> rcases read_can k y with ⟨hy, _⟩ | ⟨⟨t, g, hy⟩, hy'⟩ <;>
    simp_all [Format.order, order_nan_l, order_nan_r]
end

theorem compare_swap_int (a b : Int) : (compare b a = .lt ↔ compare a b = .gt) ∧ (compare b a = .eq ↔ compare a b = .eq) := by
  rw [Int.compare_eq_lt, Int.compare_eq_gt, Int.compare_eq_eq, Int.compare_eq_eq]; omega
theorem compare_swap_nat (a b : Nat) : (compare b a = .lt ↔ compare a b = .gt) ∧ (compare b a = .eq ↔ compare a b = .eq) := by
  rw [Nat.compare_eq_lt, Nat.compare_eq_gt, Nat.compare_eq_eq, Nat.compare_eq_eq]; omega

theorem order_swap (a b : Datum) : (a.order b = some .gt ↔ b.order a = some .lt) ∧ (a.order b = some .eq ↔ b.order a = some .eq) := by
  cases a <;> cases b <;> simp only [Datum.order]
  · rename_i s m i t n j
    have hm : min j i = min i j := by omega
    rw [hm]
    have h := compare_swap_int (signed s m (i - min i j).toNat) (signed t n (j - min i j).toNat)
    simp only [Option.some.injEq]
    exact ⟨h.1.symm, h.2.symm⟩
  · rename_i s m i t
    cases t <;> simp
  · rename_i s m i t
    simp
  · rename_i s t n j
    cases s <;> simp
  · rename_i s t
    have h := compare_swap_nat t.toNat s.toNat
    simp only [Option.some.injEq]
    exact ⟨h.1.symm, h.2.symm⟩
  · simp
  · simp
  · simp
  · simp

theorem gt_swap (f : Format) (x y : Nat) : (f.order x y == some .gt) = (f.order y x == some .lt) := by
  have h := (order_swap (f.read x) (f.read y)).1
  rw [Bool.eq_iff_iff]
  simp only [Format.order, beq_iff_eq]
  exact h
theorem eq_swap (f : Format) (x y : Nat) : (f.order x y == some .eq) = (f.order y x == some .eq) := by
  have h := (order_swap (f.read x) (f.read y)).2
  rw [Bool.eq_iff_iff]
  simp only [Format.order, beq_iff_eq]
  exact h

/-- What the tape gives for a NaN is a NaN. -/
theorem read_tape32 (t : Nat) : ∃ s f, single.read ((t % 2) * 2 ^ 31 + 0x7f800000 + 1 + (t / 2) % (2 ^ 23 - 1)) = .nan s f := by
  have h1 : t % 2 < 2 := Nat.mod_lt _ (by decide)
  have h2 : (t / 2) % (2 ^ 23 - 1) < 2 ^ 23 - 1 := Nat.mod_lt _ (by decide)
  generalize t % 2 = a at *
  generalize (t / 2) % (2 ^ 23 - 1) = b at *
  have hw : single.signWeight = 2147483648 := by decide
  have hi : single.infRung = 2139095040 := by decide
  have hb : single.binade = 8388608 := by decide
  have hr : (a * 2 ^ 31 + 0x7f800000 + 1 + b) % 2147483648 = 2139095041 + b := by omega
  unfold Format.read
  simp only [hw, hi, hb, hr]
  rw [if_neg (by omega), if_neg (by omega), if_neg (by omega)]
  exact ⟨_, _, rfl⟩
theorem read_tape64 (t : Nat) : ∃ s f, double.read ((t % 2) * 2 ^ 63 + 0x7ff0000000000000 + 1 + (t / 2) % (2 ^ 52 - 1)) = .nan s f := by
  have h1 : t % 2 < 2 := Nat.mod_lt _ (by decide)
  have h2 : (t / 2) % (2 ^ 52 - 1) < 2 ^ 52 - 1 := Nat.mod_lt _ (by decide)
  generalize t % 2 = a at *
  generalize (t / 2) % (2 ^ 52 - 1) = b at *
  have hw : double.signWeight = 9223372036854775808 := by decide
  have hi : double.infRung = 9218868437227405312 := by decide
  have hb : double.binade = 4503599627370496 := by decide
  have hr : (a * 2 ^ 63 + 0x7ff0000000000000 + 1 + b) % 9223372036854775808 = 9218868437227405313 + b := by omega
  unfold Format.read
  simp only [hw, hi, hb, hr]
  rw [if_neg (by omega), if_neg (by omega), if_neg (by omega)]
  exact ⟨_, _, rfl⟩

/-- a question whose answer is a NaN of a kind -/
def asksNaN (k : FloatKind) : Question → Prop
  | .nanBits q _ _ => q = k
  | .nanConv q _ => q = k
  | .nanMinMax q _ _ _ => q = k
  | _ => False

theorem can_tape {k : FloatKind} {q : Question} (h : asksNaN k q) (t : Nat) : can k (q.cut t) = nanOf k ∧ q.forced = false := by
  cases q with
  | nanBits j x y =>
    cases h
    cases k
    · obtain ⟨s, f, h⟩ := read_tape32 t
      exact ⟨can_nan (k := .f32) h, rfl⟩
    · obtain ⟨s, f, h⟩ := read_tape64 t
      exact ⟨can_nan (k := .f64) h, rfl⟩
  | nanConv j x =>
    cases h
    cases k
    · obtain ⟨s, f, h⟩ := read_tape32 t
      exact ⟨can_nan (k := .f32) h, rfl⟩
    · obtain ⟨s, f, h⟩ := read_tape64 t
      exact ⟨can_nan (k := .f64) h, rfl⟩
  | nanMinMax j m x y =>
    cases h
    cases k
    · obtain ⟨s, f, h⟩ := read_tape32 t
      exact ⟨can_nan (k := .f32) h, rfl⟩
    · obtain ⟨s, f, h⟩ := read_tape64 t
      exact ⟨can_nan (k := .f64) h, rfl⟩
  | _ => exact h.elim

/-- The worlds that part only in how many answers have been drawn. -/
def Drawn (w w' : World) : Prop := ∃ n, w' = { w with drawn := n }
theorem Drawn.refl (w : World) : Drawn w w := ⟨w.drawn, rfl⟩

theorem run_choose_nan {P : Program} {k : FloatKind} {q : Question} (h : asksNaN k q) (w : World) :
    ∃ b w', (choose q).run P w = .ok b w' ∧ can k b = nanOf k ∧ Drawn w w' := by
  have hq := (can_tape h (w.tape w.drawn q))
  refine ⟨q.cut (w.tape w.drawn q), { w with drawn := w.drawn + 1 }, ?_, hq.1, ⟨_, rfl⟩⟩
  simp [hq.2]

theorem run_farith {P : Program} (op : BinOp) (k : FloatKind) (x y : Nat) (w : World) (r : Option Nat)
    (hop : op = .add ∧ r = k.format.add x y ∨ op = .sub ∧ r = k.format.sub x y ∨ op = .mul ∧ r = k.format.mul x y ∨ op = .quo ∧ r = k.format.div x y) :
    ∃ b w', (Op.floatArith op k x y).run P w = .ok (.float k b) w' ∧ can k b = far k r ∧ Drawn w w' := by
  obtain ⟨b, w', h1, h2, h3⟩ := run_choose_nan (P := P) (k := k) (q := .nanBits k x y) rfl w
  cases r with
  | some r =>
    refine ⟨r, w, ?_, rfl, Drawn.refl w⟩
    rcases hop with ⟨rfl, h⟩ | ⟨rfl, h⟩ | ⟨rfl, h⟩ | ⟨rfl, h⟩ <;> simp [Op.floatArith, ← h]
  | none =>
    refine ⟨b, w', ?_, h2, h3⟩
    rcases hop with ⟨rfl, h⟩ | ⟨rfl, h⟩ | ⟨rfl, h⟩ | ⟨rfl, h⟩ <;>
      (simp only [Op.floatArith, ← h, Sem.run_bind, Sem.run_pure, Result.andThen_ok, h1])


theorem run_fcmp {P : Program} (op : BinOp) (k : FloatKind) (x y : Nat) (w : World) (r : Bool)
    (hop : op = .eql ∧ r = (k.format.order x y == some .eq) ∨ op = .neq ∧ r = !(k.format.order x y == some .eq) ∨ op = .lss ∧ r = (k.format.order x y == some .lt) ∨
      op = .leq ∧ r = (k.format.order x y == some .lt || k.format.order x y == some .eq) ∨ op = .gtr ∧ r = (k.format.order y x == some .lt) ∨
      op = .geq ∧ r = (k.format.order y x == some .lt || k.format.order y x == some .eq)) :
    (Op.floatCmp op k x y).run P w = .ok (.bool r) w := by
  have hg := gt_swap k.format x y
  have he := eq_swap k.format x y
  rcases hop with ⟨rfl, h⟩ | ⟨rfl, h⟩ | ⟨rfl, h⟩ | ⟨rfl, h⟩ | ⟨rfl, h⟩ | ⟨rfl, h⟩ <;> subst h
  · rfl
  · rfl
  · rfl
  · rfl
  · rw [← hg]; rfl
  · rw [← hg, ← he]; rfl

theorem read_neg (k : FloatKind) (b : Nat) : k.format.read (Op.negFloat k b) = (k.format.read b).opposite := by
  have key : ∀ (f : Format), f.read (b ^^^ 2 ^ (f.exponentBits + f.fractionBits)) = (f.read b).opposite := by
    intro f
    have h1 : (b ^^^ 2 ^ (f.exponentBits + f.fractionBits)) % f.signWeight = b % f.signWeight := by
      unfold Format.signWeight
      rw [Nat.xor_mod_two_pow, Nat.mod_self, Nat.xor_zero]
    have h2 : ((b ^^^ 2 ^ (f.exponentBits + f.fractionBits)) / f.signWeight % 2 == 1) = !(b / f.signWeight % 2 == 1) := by
      unfold Format.signWeight
      have hx : (b ^^^ 2 ^ (f.exponentBits + f.fractionBits)).testBit (f.exponentBits + f.fractionBits) = !(b.testBit (f.exponentBits + f.fractionBits)) := by
        rw [Nat.testBit_xor, Nat.testBit_two_pow_self, Bool.xor_true]
      rw [Nat.testBit_eq_decide_div_mod_eq, Nat.testBit_eq_decide_div_mod_eq] at hx
      exact hx
    unfold Format.read
    simp only [h1, h2]
    split
    · rfl
    · split
      · rfl
      · split <;> rfl
  cases k <;> exact key _

theorem can_neg (k : FloatKind) (b : Nat) : can k (Op.negFloat k (can k b)) = can k (Op.negFloat k b) := by
  rcases read_can k b with ⟨h, _⟩ | ⟨⟨s, f, h⟩, h'⟩
  · rw [h]
  · obtain ⟨s0, f0, h0⟩ := read_nanOf k
    rw [h']
    have e1 : k.format.read (Op.negFloat k (nanOf k)) = .nan (!s0) f0 := by rw [read_neg, h0]; rfl
    have e2 : k.format.read (Op.negFloat k b) = .nan (!s) f := by rw [read_neg, h]; rfl
    rw [can_nan e1, can_nan e2]

theorem conv_can (s d : FloatKind) (b : Nat) : conv s d (can s b) = conv s d b := by
  rcases read_can s b with ⟨h, _⟩ | ⟨⟨g, f, h⟩, h'⟩
  · rw [h]
  · obtain ⟨s0, f0, h0⟩ := read_nanOf s
    rw [h']; unfold conv; rw [h0, h]
theorem convOk_can (s d : FloatKind) (b : Nat) : convOk s d (can s b) = convOk s d b := by
  rcases read_can s b with ⟨h, _⟩ | ⟨⟨g, f, h⟩, h'⟩
  · rw [h]
  · obtain ⟨s0, f0, h0⟩ := read_nanOf s
    rw [h']; unfold convOk; rw [h0, h]

theorem run_fconv {P : Program} (s d : FloatKind) (hne : s ≠ d) (b : Nat) (h : convOk s d b = true) (w : World) :
    ∃ c w', (Conv.floatToFloat s b d).run P w = .ok (.float d c) w' ∧ can d c = conv s d b ∧ Drawn w w' := by
  obtain ⟨c, w', h1, h2, h3⟩ := run_choose_nan (P := P) (k := d) (q := .nanConv d b) rfl w
  unfold Conv.floatToFloat FloatKind.decode FloatKind.encode conv
  unfold convOk at h
  rw [if_neg hne]
  cases hr : s.format.read b with
  | nan g f => exact ⟨c, w', by simp only [Sem.run_bind, h1, Result.andThen_ok, Sem.run_pure], h2, h3⟩
  | infinity g => exact ⟨_, w, rfl, rfl, Drawn.refl w⟩
  | number g m e =>
    rw [hr] at h
    simp only [Bool.not_eq_true'] at h
    simp only [h]
    exact ⟨_, w, rfl, rfl, Drawn.refl w⟩

theorem f2i_can (k : FloatKind) (b : Nat) (q : IntKind) : floatToIntVal k (can k b) q = floatToIntVal k b q := by
  rcases read_can k b with ⟨h, _⟩ | ⟨⟨g, f, h⟩, h'⟩
  · rw [h]
  · obtain ⟨s0, f0, h0⟩ := read_nanOf k
    rw [h']; unfold floatToIntVal FloatKind.decode; rw [h0, h]; rfl

theorem run_f2i {P : Program} (k : FloatKind) (b : Nat) (q : IntKind) (n : Int) (h : floatToIntVal k b q = some n) (w : World) :
    (Conv.floatToInt k b q).run P w = .ok (.int q n) w := by
  unfold floatToIntVal at h
  unfold Conv.floatToInt
  split at h
  · rename_i m hm
    split at h
    · rename_i hb
      cases h
      simp only [hm, if_pos hb, Sem.run_pure]
    · cases h
  · cases h

theorem run_fmin {P : Program} (k : FloatKind) (x y : Nat) (w : World) :
    ∃ c w', (Builtin.min2 (.float k x) (.float k y)).run P w = .ok (.float k c) w' ∧ can k c = fmin k (can k x) (can k y) ∧ Drawn w w' := by
  obtain ⟨c, w', h1, h2, h3⟩ := run_choose_nan (P := P) (k := k) (q := .nanMinMax k false x y) rfl w
  simp only [Builtin.min2, fmin, order_can]
  cases h : k.format.order x y with
  | none => exact ⟨c, w', by simp only [Sem.run_bind, h1, Result.andThen_ok, Sem.run_pure], h2, h3⟩
  | some o =>
    cases o with
    | lt => exact ⟨_, w, rfl, rfl, Drawn.refl w⟩
    | gt => exact ⟨_, w, rfl, rfl, Drawn.refl w⟩
    | eq =>
      refine ⟨_, w, rfl, ?_, Drawn.refl w⟩
      rcases read_can k x with ⟨hx, _⟩ | ⟨⟨s, f, hx⟩, _⟩
      · rw [hx]
        show can k (if (k.format.read x).neg = true then x else y) = if (k.format.read x).neg = true then x else can k y
        split
        · exact hx
        · rfl
      · rw [Format.order, hx, order_nan_l] at h
        cases h
theorem run_fmax {P : Program} (k : FloatKind) (x y : Nat) (w : World) :
    ∃ c w', (Builtin.max2 (.float k x) (.float k y)).run P w = .ok (.float k c) w' ∧ can k c = fmax k (can k x) (can k y) ∧ Drawn w w' := by
  obtain ⟨c, w', h1, h2, h3⟩ := run_choose_nan (P := P) (k := k) (q := .nanMinMax k true x y) rfl w
  simp only [Builtin.max2, fmax, order_can]
  cases h : k.format.order x y with
  | none => exact ⟨c, w', by simp only [Sem.run_bind, h1, Result.andThen_ok, Sem.run_pure], h2, h3⟩
  | some o =>
    cases o with
    | lt => exact ⟨_, w, rfl, rfl, Drawn.refl w⟩
    | gt => exact ⟨_, w, rfl, rfl, Drawn.refl w⟩
    | eq =>
      refine ⟨_, w, rfl, ?_, Drawn.refl w⟩
      rcases read_can k x with ⟨hx, _⟩ | ⟨⟨s, f, hx⟩, _⟩
      · rw [hx]
        show can k (if (k.format.read x).neg = true then y else x) = if (k.format.read x).neg = true then can k y else x
        split
        · rfl
        · exact hx
      · rw [Format.order, hx, order_nan_l] at h
        cases h

/-! single to double: never too great -/
theorem word_mod (f : Format) (neg : Bool) (rung : Nat) (h : rung < f.signWeight) : f.word neg rung % f.signWeight = rung := by
  unfold Format.word
  split
  · rw [Nat.add_mod_left]; exact Nat.mod_eq_of_lt h
  · exact Nat.mod_eq_of_lt h

theorem infRung_lt_sign (k : FloatKind) : k.format.infRung < k.format.signWeight := by cases k <;> decide

theorem read_word_fin (k : FloatKind) (neg : Bool) (rung : Nat) (h : rung < k.format.infRung) : (k.format.read (k.format.word neg rung)).isInfinity = false := by
  have hs := infRung_lt_sign k
  have hm := word_mod k.format neg rung (by omega)
  unfold Format.read
  simp only [hm]
  split
  · rfl
  · first | rfl | (rw [if_pos h]; rfl)

theorem widen_ok (b : Nat) : convOk .f32 .f64 b = true := by
  unfold convOk
  split
  · rename_i g m e hr
    -- what a single is
    have hb : m < 16777216 ∧ -149 ≤ e ∧ e ≤ 104 := by
      have h1 : FloatKind.f32.format = single := rfl
      rw [h1] at hr
      unfold Format.read at hr
      have hw : single.signWeight = 2147483648 := by decide
      have hi : single.infRung = 2139095040 := by decide
      have hbn : single.binade = 8388608 := by decide
      have hl : single.leastPlace = -149 := by decide
      simp only [hw, hi, hbn, hl] at hr
      split at hr
      · cases hr; omega
      · split at hr
        · simp only [Datum.number.injEq] at hr
          obtain ⟨_, h2, h3⟩ := hr
          omega
        · split at hr <;> cases hr
    obtain ⟨hm, he1, he2⟩ := hb
    simp only [Bool.not_eq_true']
    have hf : FloatKind.f64.format = double := rfl
    show (double.read (double.nearest g m e)).isInfinity = false
    unfold Format.nearest
    split
    · exact read_word_fin .f64 g 0 (by decide)
    · rename_i hm0
      have hl : double.leastPlace = -1074 := by decide
      have hfb : double.fractionBits = 52 := rfl
      have hbn : double.binade = 4503599627370496 := by decide
      have hi : double.infRung = 9218868437227405312 := by decide
      have hlog : m.log2 ≤ 23 := by
        have : m.log2 < 24 := (Nat.log2_lt (by omega)).2 (by simpa using hm)
        omega
      have hlast : max (e + (m.log2 : Int) - (double.fractionBits : Nat)) (-1074) = e + (m.log2 : Int) - 52 := by
        rw [hfb]; omega
      have hpow : m < 2 ^ (m.log2 + 1) := Nat.lt_log2_self
      simp only [hl, hbn, hi, hlast]
      have e1 : (e - (e + (m.log2 : Int) - 52)).toNat = 52 - m.log2 := by omega
      have e2 : ((e + (m.log2 : Int) - 52) - e).toNat = 0 := by omega
      rw [e1, e2]
      have hkept : Toward.even.cut g (m <<< (52 - m.log2)) 0 = m <<< (52 - m.log2) := by
        unfold Toward.cut
        simp [Nat.mod_one]
      rw [hkept]
      have hlt : m <<< (52 - m.log2) < 9007199254740992 := by
        rw [Nat.shiftLeft_eq]
        calc m * 2 ^ (52 - m.log2) < 2 ^ (m.log2 + 1) * 2 ^ (52 - m.log2) := Nat.mul_lt_mul_of_pos_right hpow (Nat.two_pow_pos _)
          _ = 2 ^ 53 := by rw [← Nat.pow_add]; congr 1; omega
          _ = 9007199254740992 := by decide
      have hr2 : ((e + (m.log2 : Int) - 52) - -1074).toNat ≤ 1149 := by omega
      refine read_word_fin .f64 g _ ?_
      show _ < double.infRung
      rw [hi]
      refine Nat.lt_of_le_of_lt (Nat.min_le_left _ _) ?_
      refine Nat.lt_of_lt_of_le (Nat.add_lt_add_of_le_of_lt (Nat.mul_le_mul_right 4503599627370496 hr2) hlt) ?_
      decide
  · rfl

end Go.Ab
