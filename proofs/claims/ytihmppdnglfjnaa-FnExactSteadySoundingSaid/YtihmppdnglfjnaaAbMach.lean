/- Own work: a part of the library under the claims of this seat. -/
/-
The abstract machine (own work of this seat's prover): a deterministic interpreter, in continuation form, of the model's code over abstract values:
all NaNs are one value, memory is the list of the blocks that a call knows. What it answers is carried over to the model's runs by the soundness theorem in the next files.
-/
import Derived.WalkKit
import Derived.WalkLawsBesides
import Derived.KernelRfl
import GoSem.Claims
namespace Go.Ab

/-- The float operations, as a parameter. -/
structure FO where
  S : Type
  D : Type
  slit : Nat → S
  dlit : Nat → D
  sadd : S → S → S
  ssub : S → S → S
  smul : S → S → S
  sdiv : S → S → S
  dadd : D → D → D
  dsub : D → D → D
  dmul : D → D → D
  ddiv : D → D → D
  seq : S → S → Bool
  slt : S → S → Bool
  sle : S → S → Bool
  deq : D → D → Bool
  dlt : D → D → Bool
  dle : D → D → Bool
  sneg : S → S
  dneg : D → D
  sofi : Int → S
  dofi : Int → D
  s2d : S → D
  d2sOk : D → Bool
  d2s : D → S
  s2iOk : IntKind → S → Bool
  s2i : IntKind → S → Int
  iand : IntKind → Int → Int → Int
  ior : IntKind → Int → Int → Int
  ixor : IntKind → Int → Int → Int
  sbits : S → Int
  sofb : Int → S
  dbits : D → Int
  dofb : Int → D
  smin : S → S → S
  smax : S → S → S

inductive AV (o : FO) where
  | bool (b : Bool)
  | int (k : IntKind) (n : Int)
  | f32 (x : o.S)
  | f64 (x : o.D)
  | c64 (re im : o.S)
  | c128 (re im : o.D)
  | str (s : ByteArray)
  | ptr (b off : Nat)
  | nilptr
  | slice (b off len esz : Nat)
  | nilslice
  | clo (f : FuncId) (cap : List (Nat × Nat))
  | nilfunc
  | agg (cs : List (AV o))
  | tup (vs : List (AV o))
  | any
  | undef

inductive Blk (o : FO) where
  | live (wr flat : Bool) (cs : List (AV o))
  | dead

abbrev Heap (o : FO) := List (Blk o)
abbrev R (o : FO) := Option (AV o × Heap o)
abbrev Env (o : FO) := Nat → AV o

/-- The kinds of types, as far as the machine needs them. -/
inductive TK where
  | bool
  | int (k : IntKind)
  | f32
  | f64
  | c64
  | c128
  | str
  | ptr
  | slice (e : TypeId)
  | func
  | struct (fs : List (Nat × TypeId))
  | array (n : Nat) (e : TypeId)

/-- 'lay': a small aggregate is read cell by cell, by these kinds. -/
structure TI (o : FO) where
  kind : TK
  size : Nat
  bytes : Nat
  zero : List (AV o)
  flat : Bool
  lay : Option (List TK)

/-- What a callee answers, as a tree of decisions. -/
inductive Tr (α : Type) where
  | fail
  | leaf (a : α)
  | br (c : Bool) (x y : Tr α)

inductive Callee (o : FO) where
  | pure (m : List (AV o) → Tr (AV o))
  | ro (m : List (AV o) → Heap o → Tr (AV o))
  | rw (m : List (AV o) → Heap o → Tr (AV o × Heap o))

/-- One loop of a function: the temporaries that a round reads from an earlier one, and how the rounds are told. -/
structure LoopD (o : FO) where
  keep : List Nat
  it : Nat → ((List (AV o) → Heap o → R o) → List (AV o) → Heap o → R o) → List (AV o) → Heap o → R o

/-- What the machine is told of the program. -/
structure Cx (o : FO) where
  ty : TypeId → Option (TI o)
  fn : FuncId → Option (Callee o)
  rounds : Nat
  nt : Nat
  base : Nat
  loops : List (LoopD o)

section
variable {o : FO}

noncomputable def Tr.run {α β : Type} (k : α → Option β) (t : Tr α) : Option β :=
  Tr.rec (motive := fun _ => Option β) none k (fun c _ _ x y => cond c x y) t

noncomputable def iter {α β : Type} (F : (α → Option β) → α → Option β) (n : Nat) : α → Option β :=
  Nat.rec (motive := fun _ => α → Option β) (fun _ => none) (fun _ ih => F ih) n

def upd (e : Env o) (t : Nat) (v : AV o) : Env o := fun i => cond (Nat.beq i t) v (e i)

def gd {α : Type} (b : Bool) (k : Option α) : Option α := cond b k none

/-- a constant operand -/
def ofConst : Value → AV o
  | .bool b => .bool b
  | .int k n => .int k n
  | .float .f32 b => cond (Nat.blt b 4294967296) (.f32 (o.slit b)) .any
  | .float .f64 b => cond (Nat.blt b 18446744073709551616) (.f64 (o.dlit b)) .any
  | .complex .f32 a b => cond (Nat.blt a 4294967296 && Nat.blt b 4294967296) (.c64 (o.slit a) (o.slit b)) .any
  | .complex .f64 a b => cond (Nat.blt a 18446744073709551616 && Nat.blt b 18446744073709551616) (.c128 (o.dlit a) (o.dlit b)) .any
  | .string s => .str s
  | .pointer none => .nilptr
  | .slice none 0 0 => .nilslice
  | .nilFunc => .nilfunc
  | _ => .any

def ev (e : Env o) : Operand → AV o
  | .tmp t => e t
  | .const v => ofConst v
  | .func f => .clo f []
  | .global _ => .any

/-! cells -/
def rdS (cs : List (AV o)) (i : Nat) (k : o.S → R o) : R o := match cs[i]? with | some (.f32 x) => k x | _ => none
def rdD (cs : List (AV o)) (i : Nat) (k : o.D → R o) : R o := match cs[i]? with | some (.f64 x) => k x | _ => none
def rdI (q : IntKind) (cs : List (AV o)) (i : Nat) (k : Int → R o) : R o := match cs[i]? with | some (.int q' x) => gd (decide (q' = q)) (k x) | _ => none
def rdB (cs : List (AV o)) (i : Nat) (k : Bool → R o) : R o := match cs[i]? with | some (.bool x) => k x | _ => none
def rdC (cs : List (AV o)) (i : Nat) (k : o.S → o.S → R o) : R o := match cs[i]? with | some (.c64 x y) => k x y | _ => none
def rdV (cs : List (AV o)) (i : Nat) (k : AV o → R o) : R o := match cs[i]? with | some x => k x | _ => none
/-- n cells from i on -/
def rdA (cs : List (AV o)) (i n : Nat) (k : List (AV o) → R o) : R o := gd (Nat.ble (i + n) cs.length) (k ((cs.drop i).take n))
def wr1 (cs : List (AV o)) (i : Nat) (v : AV o) (k : List (AV o) → R o) : R o := gd (Nat.blt i cs.length) (k (cs.set i v))
def wrA (cs : List (AV o)) (i n : Nat) (vs : List (AV o)) (k : List (AV o) → R o) : R o :=
  gd (Nat.beq vs.length n && Nat.ble (i + n) cs.length) (k (cs.take i ++ (vs ++ cs.drop (i + n))))

/-- one cell of a kind -/
def rdK (q : TK) (cs : List (AV o)) (i : Nat) (k : AV o → R o) : R o :=
  match q with
  | .f32 => rdS cs i fun x => k (.f32 x)
  | .f64 => rdD cs i fun x => k (.f64 x)
  | .int q => rdI q cs i fun x => k (.int q x)
  | .bool => rdB cs i fun x => k (.bool x)
  | .c64 => rdC cs i fun x y => k (.c64 x y)
  | _ => rdV cs i k

/-- cells of kinds, from i on -/
noncomputable def rdL (l : List TK) (cs : List (AV o)) (i : Nat) (k : List (AV o) → R o) : R o :=
  List.rec (motive := fun _ => Nat → (List (AV o) → R o) → R o) (fun _ k => k [])
    (fun q _ ih i k => rdK q cs i fun v => ih (i + 1) fun vs => k (v :: vs)) l i k

def isAggK : TK → Bool
  | .struct _ => true
  | .array _ _ => true
  | _ => false

/-- a part of an aggregate's cells, as a value of a type -/
noncomputable def part (t : TI o) (cs : List (AV o)) (off : Nat) (k : AV o → R o) : R o :=
  match isAggK t.kind with
  | true => match t.lay with
    | some l => gd (Nat.beq l.length t.size) (rdL l cs off fun vs => k (.agg vs))
    | none => rdA cs off t.size fun vs => k (.agg vs)
  | false => rdK t.kind cs off k

def AV.cells : AV o → List (AV o)
  | .agg cs => cs
  | v => [v]

/-- may be put into a cell -/
def AV.one : AV o → Bool
  | .agg _ => false
  | .tup _ => false
  | .undef => false
  | .any => false
  | _ => true

/-- holds no address -/
def AV.flat : AV o → Bool
  | .ptr _ _ => false
  | .slice _ _ _ _ => false
  | .clo _ cap => cap.isEmpty
  | .tup _ => false
  | .undef => false
  | _ => true

/-- an aggregate's cells may all be put into cells, and hold no address -/
def AV.oneV : AV o → Bool
  | .agg _ => true
  | v => v.one
def AV.flatV : AV o → Bool
  | .agg _ => true
  | v => v.flat

/-! heap -/
def hget (h : Heap o) (b : Nat) (k : Bool → List (AV o) → R o) : R o := match h[b]? with | some (.live _ fl cs) => k fl cs | _ => none
/-- a variable is read: of an aggregate in a block that may hold addresses only what holds none -/
noncomputable def ldv (t : TI o) (h : Heap o) (b i : Nat) (k : AV o → R o) : R o := hget h b fun fl cs => part t cs i fun v => gd (fl || !isAggK t.kind || v.cells.all AV.flat) (k v)
def hmod (h : Heap o) (b : Nat) (f : Bool) (g : List (AV o) → (List (AV o) → R o) → R o) (k : Heap o → R o) : R o :=
  match h[b]? with
  | some (.live wr fl cs) => gd (wr && (!fl || f)) (g cs fun cs' => k (h.set b (.live wr fl cs')))
  | _ => none

/-! calls: the blocks that the arguments name are handed on, in their order -/
def ins (l : List Nat) (b : Nat) : List Nat := cond (l.any (Nat.beq b)) l (l ++ [b])
def AV.root1 (l : List Nat) : AV o → List Nat
  | .ptr b _ => ins l b
  | .slice b _ _ _ => ins l b
  | .clo _ cap => cap.foldl (fun l p => ins l p.1) l
  | _ => l
def roots1 (l : List Nat) (vs : List (AV o)) : List Nat := vs.foldl AV.root1 l
def pos (l : List Nat) (b : Nat) : Nat := l.idxOf b
def AV.ren1 (f : Nat → Nat) : AV o → AV o
  | .ptr b i => .ptr (f b) i
  | .slice b i n e => .slice (f b) i n e
  | .clo g cap => .clo g (cap.map fun p => (f p.1, p.2))
  | v => v
def AV.ren (f : Nat → Nat) : AV o → AV o
  | .tup vs => .tup (vs.map (AV.ren1 f))
  | v => v.ren1 f
def AV.roots (l : List Nat) : AV o → List Nat
  | .tup vs => roots1 l vs
  | v => v.root1 l
/-- the blocks of some numbers; all live and without addresses -/
def subStep (h : Heap o) (b : Nat) (ih : Heap o → R o) (acc : Heap o) : R o := match h[b]? with | some (.live wr true cs) => ih (acc ++ [.live wr true cs]) | _ => none
noncomputable def subHeap (h : Heap o) (l : List Nat) (k : Heap o → R o) : R o :=
  List.rec (motive := fun _ => Heap o → R o) k (fun (b : Nat) _ (ih : Heap o → R o) (acc : Heap o) => subStep h b ih acc) l []
/-- a block behind a call: as the callee has left it -/
def merge (x : Blk o) (y : Option (Blk o)) : Blk o :=
  match x, y with
  | .live wr true _, some (.live wr' true cs) => cond (wr == wr') (.live wr true cs) .dead
  | _, _ => .dead
/-- a block that the callee has made -/
def fresh : Blk o → Blk o
  | .live true true cs => .live true true cs
  | _ => .dead
def back1 (l : List Nat) (h' : Heap o) (p : Blk o × Nat) : Blk o := cond (l.any (Nat.beq p.2)) (merge p.1 h'[pos l p.2]?) p.1
/-- put the blocks back -/
def backHeap (h : Heap o) (l : List Nat) (h' : Heap o) : Heap o := h.zipIdx.map (back1 l h') ++ (h'.drop l.length).map fresh
def backIdx (h : Heap o) (l : List Nat) (j : Nat) : Nat := match l[j]? with | some b => b | none => h.length + (j - l.length)
def AV.noTup : AV o → Bool
  | .tup _ => false
  | _ => true

noncomputable def call (c : Cx o) (f : FuncId) (args : List (AV o)) (h : Heap o) (k : AV o → Heap o → R o) : R o :=
  match c.fn f with
  | none => none
  | some (.pure m) => (m args).run fun v => k v h
  | some (.ro m) =>
    gd (args.all AV.noTup) (subHeap h (roots1 [] args) fun hs => (m (args.map (AV.ren1 (pos (roots1 [] args)))) hs).run fun v => k v h)
  | some (.rw m) =>
    gd (args.all AV.noTup) (subHeap h (roots1 [] args) fun hs => (m (args.map (AV.ren1 (pos (roots1 [] args)))) hs).run fun r =>
      k (r.1.ren (backIdx h (roots1 [] args))) (backHeap h (roots1 [] args) r.2))

/-! operations on numbers -/
def kindEq (a b : IntKind) : Bool := decide (a = b)
def ibin (op : BinOp) (q : IntKind) (a b : Int) (k : AV o → R o) : R o :=
  match op with
  | .add => k (.int q (q.wrap (a + b)))
  | .sub => k (.int q (q.wrap (a - b)))
  | .mul => k (.int q (q.wrap (a * b)))
  | .quo => gd (!(b == 0)) (k (.int q (q.wrap (a.tdiv b))))
  | .rem => gd (!(b == 0)) (k (.int q (a.tmod b)))
  | .and => k (.int q (o.iand q a b))
  | .or => k (.int q (o.ior q a b))
  | .xor => k (.int q (o.ixor q a b))
  | .eql => k (.bool (a == b))
  | .neq => k (.bool (a != b))
  | .lss => k (.bool (decide (a < b)))
  | .leq => k (.bool (decide (a ≤ b)))
  | .gtr => k (.bool (decide (a > b)))
  | .geq => k (.bool (decide (a ≥ b)))
  | _ => none
def shf (op : BinOp) (q : IntKind) (a b : Int) (k : AV o → R o) : R o :=
  gd (decide (0 ≤ b)) (match op with
    | .shl => k (.int q (q.wrap (a * 2 ^ (min b.toNat q.bits))))
    | .shr => k (.int q (a.fdiv (2 ^ (min b.toNat q.bits))))
    | _ => none)
def sbin (op : BinOp) (a b : o.S) (k : AV o → R o) : R o :=
  match op with
  | .add => k (.f32 (o.sadd a b))
  | .sub => k (.f32 (o.ssub a b))
  | .mul => k (.f32 (o.smul a b))
  | .quo => k (.f32 (o.sdiv a b))
  | .eql => k (.bool (o.seq a b))
  | .neq => k (.bool (!o.seq a b))
  | .lss => k (.bool (o.slt a b))
  | .leq => k (.bool (o.sle a b))
  | .gtr => k (.bool (o.slt b a))
  | .geq => k (.bool (o.sle b a))
  | _ => none
def dbin (op : BinOp) (a b : o.D) (k : AV o → R o) : R o :=
  match op with
  | .add => k (.f64 (o.dadd a b))
  | .sub => k (.f64 (o.dsub a b))
  | .mul => k (.f64 (o.dmul a b))
  | .quo => k (.f64 (o.ddiv a b))
  | .eql => k (.bool (o.deq a b))
  | .neq => k (.bool (!o.deq a b))
  | .lss => k (.bool (o.dlt a b))
  | .leq => k (.bool (o.dle a b))
  | .gtr => k (.bool (o.dlt b a))
  | .geq => k (.bool (o.dle b a))
  | _ => none
def bbin (op : BinOp) (a b : Bool) (k : AV o → R o) : R o :=
  match op with
  | .eql => k (.bool (a == b))
  | .neq => k (.bool (!(a == b)))
  | _ => none
/-- strings: sums whose length is an int, and the comparisons by bytes -/
def strbin (op : BinOp) (a b : ByteArray) (k : AV o → R o) : R o :=
  match op with
  | .add => gd (Nat.ble (a.size + b.size) 9223372036854775807) (k (.str (a ++ b)))
  | .eql => k (.bool (a.toList == b.toList))
  | .neq => k (.bool (!(a.toList == b.toList)))
  | _ => none
/-- a slice against nil -/
def nilbin (op : BinOp) (t : Bool) (k : AV o → R o) : R o :=
  match op with
  | .eql => k (.bool t)
  | .neq => k (.bool (!t))
  | _ => none
def isShift : BinOp → Bool
  | .shl => true
  | .shr => true
  | _ => false
def abin (op : BinOp) (x y : AV o) (k : AV o → R o) : R o :=
  match x, y with
  | .int q a, .int q' b => cond (isShift op) (shf op q a b k) (gd (kindEq q q') (ibin op q a b k))
  | .f32 a, .f32 b => sbin op a b k
  | .f64 a, .f64 b => dbin op a b k
  | .bool a, .bool b => bbin op a b k
  | .str a, .str b => strbin op a b k
  | .slice _ _ _ _, .nilslice => nilbin op false k
  | .nilslice, .nilslice => nilbin op true k
  | _, _ => none
def aun (op : UnOp) (x : AV o) (k : AV o → R o) : R o :=
  match op, x with
  | .not, .bool b => k (.bool (!b))
  | .neg, .int q n => k (.int q (q.wrap (0 - n)))
  | .neg, .f32 x => k (.f32 (o.sneg x))
  | .neg, .f64 x => k (.f64 (o.dneg x))
  | _, _ => none
/-- conversions, by the kind that is converted to -/
def aconv (q : TK) (x : AV o) (k : AV o → R o) : R o :=
  match q, x with
  | .int q, .int _ n => k (.int q (q.wrap n))
  | .f32, .int _ n => k (.f32 (o.sofi n))
  | .f64, .int _ n => k (.f64 (o.dofi n))
  | .f32, .f32 x => k (.f32 x)
  | .f64, .f64 x => k (.f64 x)
  | .f64, .f32 x => k (.f64 (o.s2d x))
  | .f32, .f64 x => gd (o.d2sOk x) (k (.f32 (o.d2s x)))
  | .int q, .f32 x => gd (o.s2iOk q x) (k (.int q (o.s2i q x)))
  | .str, .str s => k (.str s)
  | _, _ => none

/-- an index within bounds -/
def inb (i : Int) (n : Nat) (k : Nat → R o) : R o := gd (decide (0 ≤ i) && decide (i < (n : Int))) (k i.toNat)

/-! the machine -/
def hasGuards (ops : List Oper) : Bool := ops.any fun x => x.guard.isSome

/-- the end of an operation: its value goes to its slot; in a region with guards each Bool is parted at once -/
def fin (c : Cx o) (g : Bool) (d : Option Tmp) (v : AV o) (e : Env o) (h : Heap o) (k : Env o → Heap o → R o) : R o :=
  match d with
  | none => k e h
  | some d => gd (Nat.blt d c.nt) (match g, v with
    | true, .bool b => cond b (k (upd e d (.bool true)) h) (k (upd e d (.bool false)) h)
    | _, v => k (upd e d v) h)

def fieldOf (t : TI o) (f : Nat) (k : Nat → TypeId → R o) : R o :=
  match t.kind with
  | .struct fs => match fs[f]? with | some p => k p.1 p.2 | none => none
  | _ => none

def withTy (c : Cx o) (t : TypeId) (k : TI o → R o) : R o := match c.ty t with | some i => k i | none => none

/-- the cells of a literal's parts, laid into the zero value's -/
def fillAt (c : Cx o) (t : TI o) (n : Nat) (k : Nat → Nat → R o) : R o :=
  match t.kind with
  | .struct fs => match fs[n]? with
    | some q => withTy c q.2 fun ft => k q.1 ft.size
    | none => none
  | .array _ el => withTy c el fun et => k (n * et.size) et.size
  | .slice el => withTy c el fun et => k (n * et.size) et.size
  | _ => none
noncomputable def fillP (c : Cx o) (t : TI o) (ps : List (Nat × Operand)) (e : Env o) (cs : List (AV o)) (k : List (AV o) → R o) : R o :=
  List.rec (motive := fun _ => List (AV o) → R o) k
    (fun (p : Nat × Operand) _ (ih : List (AV o) → R o) cs => fillAt c t p.1 fun off n => gd ((ev e p.2).oneV && (ev e p.2).flatV) (wrA cs off n (ev e p.2).cells ih)) ps cs
/-- the fields of a struct are all known -/
def fieldsOk (c : Cx o) (t : TI o) : Bool :=
  match t.kind with
  | .struct fs => fs.all fun q => (c.ty q.2).isSome
  | .array _ el => (c.ty el).isSome
  | _ => false

/-- n values of a kind of zero -/
def zeros (z : List (AV o)) (n : Nat) : List (AV o) := (List.replicate n z).flatten

def alloc (h : Heap o) (flat : Bool) (cs : List (AV o)) (k : AV o → Heap o → R o) : R o := k (.ptr h.length 0) (h ++ [.live true flat cs])

/-- a new row, as a slice -/
def mkSlice (h : Heap o) (cs : List (AV o)) (n es : Nat) (k : AV o → Heap o → R o) : R o := k (.slice h.length 0 n es) (h ++ [.live true true cs])
/-- the zero value takes what it should -/
def zfit (t : TI o) : Bool := Nat.beq t.zero.length t.size
/-- a block of the caller's own -/
def ownOf (h : Heap o) (b : Nat) (k : List (AV o) → R o) : R o := match h[b]? with | some (.live true true cs) => k cs | _ => none
/-- the elements of a slice -/
def srcOf (h : Heap o) (es : Nat) (x : AV o) (k : Nat → List (AV o) → R o) : R o :=
  match x with
  | .slice b i m es' => gd (Nat.beq es' es) (hget h b fun fl cs => gd (fl && Nat.ble (i + m * es) cs.length) (k m ((cs.drop i).take (m * es))))
  | .nilslice => k 0 []
  | _ => none
def appFits (t : TI o) (n : Nat) : Bool := zfit t && Nat.ble n 9223372036854775807 && Nat.ble (n * t.bytes) 140737488355328
/-- elements are appended to the caller's own slice: what comes of it is a new row, or the old one's; the old one is no more to be read -/
def appendS (c : Cx o) (ts : List TypeId) (args : List (AV o)) (h : Heap o) (k : AV o → Heap o → R o) : R o :=
  match ts, args with
  | [t, tx], [s, x] => withTy c t fun ti => withTy c tx fun xi => match ti.kind, xi.kind with
    | .slice el, .slice _ => withTy c el fun et => srcOf h et.size x fun m news => match s with
      | .slice b i n es => gd (Nat.beq es et.size && appFits et (n + m)) (ownOf h b fun cs => gd (Nat.ble (i + n * es) cs.length)
          (k (.slice h.length 0 (n + m) es) (h.set b .dead ++ [.live true true ((cs.drop i).take (n * es) ++ news)])))
      | .nilslice => gd (Nat.blt 0 m && appFits et m) (mkSlice h news m et.size k)
      | _ => none
    | _, _ => none
  | _, _ => none
/-- as many of a slice's elements as go over -/
def copyS (c : Cx o) (ts : List TypeId) (args : List (AV o)) (h : Heap o) (k : AV o → Heap o → R o) : R o :=
  match ts, args with
  | [t, _], [.slice b i n es, x] => withTy c t fun ti => match ti.kind with
    | .slice el => withTy c el fun et => gd (Nat.beq es 1 && Nat.beq et.size 1) (match x with
      | .slice b2 i2 m es2 => gd (Nat.beq es2 1 && Nat.blt 0 (min m n)) (hget h b2 fun fl cs2 => gd (fl && Nat.ble (i2 + min m n) cs2.length)
          (ownOf h b fun cs => wrA cs i (min m n) ((cs2.drop i2).take (min m n)) fun cs' => k (.int .i64 (min m n : Nat)) (h.set b (.live true true cs'))))
      | _ => none)
    | _ => none
  | _, _ => none

/-- a slice's bounds -/
def opt (e : Env o) (x : Option Operand) (d : Nat) (k : Nat → R o) : R o :=
  match x with
  | none => k d
  | some x => match ev e x with | .int _ n => gd (decide (0 ≤ n)) (k n.toNat) | _ => none

/-- the captured variables' addresses -/
def capStep (v : AV o) (ih : List (Nat × Nat) → R o) (acc : List (Nat × Nat)) : R o := match v with | .ptr b i => ih (acc ++ [(b, i)]) | _ => none
noncomputable def capsOf (vs : List (AV o)) (k : List (Nat × Nat) → R o) : R o :=
  List.rec (motive := fun _ => List (Nat × Nat) → R o) k (fun (v : AV o) _ (ih : List (Nat × Nat) → R o) acc => capStep v ih acc) vs []

noncomputable def builtin (c : Cx o) (b : Builtin) (ts : List TypeId) (args : List (AV o)) (h : Heap o) (k : AV o → Heap o → R o) : R o :=
  match b, args with
  | .len, [x] => match ts with
    | [t] => withTy c t fun ti => match ti.kind, x with
      | .slice _, .slice _ _ n _ => k (.int .i64 n) h
      | .slice _, .nilslice => k (.int .i64 0) h
      | .str, .str s => k (.int .i64 s.size) h
      | .array n _, _ => k (.int .i64 n) h
      | _, _ => none
    | _ => none
  | .min, [.f32 x, .f32 y] => k (.f32 (o.smin x y)) h
  | .max, [.f32 x, .f32 y] => k (.f32 (o.smax x y)) h
  | .min, [.int q x, .int q' y] => gd (kindEq q q') (k (.int q (if y < x then y else x)) h)
  | .max, [.int q x, .int q' y] => gd (kindEq q q') (k (.int q (if y > x then y else x)) h)
  | .complex, [.f32 x, .f32 y] => k (.c64 x y) h
  | .complex, [.f64 x, .f64 y] => k (.c128 x y) h
  | .real, [.c64 x _] => k (.f32 x) h
  | .imag, [.c64 _ y] => k (.f32 y) h
  | .real, [.c128 x _] => k (.f64 x) h
  | .imag, [.c128 _ y] => k (.f64 y) h
  | _, _ => none

noncomputable def bltn (c : Cx o) (b : Builtin) (ts : List TypeId) (args : List (AV o)) (h : Heap o) (k : AV o → Heap o → R o) : R o :=
  match b with
  | .append => appendS c ts args h k
  | .copy => copyS c ts args h k
  | b => builtin c b ts args h k

/-- an element's address; an element -/
def idxA (c : Cx o) (ti : TI o) (x i : AV o) (k : AV o → R o) : R o :=
  match ti.kind, x, i with
  | .array n el, .ptr b j, .int _ z => withTy c el fun et => inb z n fun m => k (.ptr b (j + m * et.size))
  | .slice el, .slice b j n es, .int _ z => withTy c el fun et => gd (Nat.beq es et.size) (inb z n fun m => k (.ptr b (j + m * et.size)))
  | _, _, _ => none
noncomputable def idxV (c : Cx o) (ti : TI o) (x i : AV o) (k : AV o → R o) : R o :=
  match ti.kind, x, i with
  | .array n el, .agg cs, .int _ z => withTy c el fun et => inb z n fun m => part et cs (m * et.size) k
  | .str, .str s, .int _ z => inb z s.size fun m => k (.int .u8 (s.get! m).toNat)
  | _, _, _ => none

/-- cut out of an array, of a slice -/
def sliceV (c : Cx o) (t : TypeId) (x : AV o) (lo hi mx : Option Operand) (e : Env o) (h : Heap o) (k : AV o → R o) : R o :=
  gd mx.isNone (withTy c t fun ti => match ti.kind, x with
    | .array n el, .ptr b i => withTy c el fun et => opt e lo 0 fun l => opt e hi n fun u => gd (Nat.ble l u && Nat.ble u n) (hget h b fun _ cs => gd (Nat.ble (i + n * et.size) cs.length && Nat.ble n 9223372036854775807) (k (.slice b (i + l * et.size) (u - l) et.size)))
    | .slice el, .slice b i n es => withTy c el fun et => opt e lo 0 fun l => opt e hi n fun u => gd (Nat.beq es et.size && (Nat.ble l u && Nat.ble u n)) (k (.slice b (i + l * es) (u - l) es))
    | _, _ => none)

/-- two Bools are compared at a type of Bools alone; a slice at a slice's type -/
def isBoolT (c : Cx o) (t : TypeId) : Bool := match c.ty t with
  | some i => match i.kind with | .bool => true | _ => false
  | none => false
def isSliceT (c : Cx o) (t : TypeId) : Bool := match c.ty t with
  | some i => match i.kind with | .slice _ => true | _ => false
  | none => false
def boolOk (c : Cx o) (t : TypeId) (x : AV o) : Bool :=
  match x with
  | .bool _ => isBoolT c t
  | .slice _ _ _ _ => isSliceT c t
  | .nilslice => isSliceT c t
  | _ => true

noncomputable def exec (c : Cx o) (op : Op) (e : Env o) (h : Heap o) (k : AV o → Heap o → R o) : R o :=
  match op with
  | .move x => k (ev e x) h
  | .assign x => k (ev e x) h
  | .pick q a b => match ev e q with | .bool t => k (cond t (ev e a) (ev e b)) h | _ => none
  | .box t x => withTy c t fun ti => gd (ev e x).oneV (alloc h (ti.flat && (ev e x).flatV) (ev e x).cells k)
  | .alloc t => withTy c t fun ti => alloc h ti.flat ti.zero k
  | .build t ps => withTy c t fun ti => gd (fieldsOk c ti) (fillP c ti ps.toList e ti.zero fun cs => k (.agg cs) h)
  | .buildSlice t n ps => withTy c t fun ti => match ti.kind with
    | .slice el => withTy c el fun et => gd (zfit et && (Nat.ble (n * et.size) 16777216 && Nat.ble n 16777216)) (fillP c ti ps.toList e (zeros et.zero n) fun cs => gd (Nat.beq cs.length (n * et.size)) (mkSlice h cs n et.size k))
    | _ => none
  | .makeSlice t x y => withTy c t fun ti => match ti.kind, ev e x, ev e y with
    | .slice el, .int _ n, .int _ m => withTy c el fun et => gd (zfit et && (decide (0 ≤ n) && (decide (n = m) && (decide (n * et.size ≤ 16777216) && (decide (et.bytes * n ≤ 281474976710656) && decide (n ≤ 9223372036854775807))))))
        (mkSlice h (zeros et.zero n.toNat) n.toNat et.size k)
    | _, _, _ => none
  | .slice t x lo hi mx => sliceV c t (ev e x) lo hi mx e h fun v => k v h
  | .load t a => withTy c t fun ti => match ev e a with
    | .ptr b i => ldv ti h b i fun v => k v h
    | _ => none
  | .store t a x => withTy c t fun ti => match ev e a with
    | .ptr b i => let v := ev e x
      hmod h b v.flatV (fun cs k => match v with
        | .agg vs => wrA cs i ti.size vs k
        | v => gd (Nat.beq ti.size 1 && v.one) (wr1 cs i v k)) fun h' => k .undef h'
    | _ => none
  | .nilCheck x => match ev e x with
    | .ptr b i => k (.ptr b i) h
    | .clo f cap => k (.clo f cap) h
    | _ => none
  | .binOp b t x y _ => gd (boolOk c t (ev e x)) (abin b (ev e x) (ev e y) fun v => k v h)
  | .unOp u _ x => aun u (ev e x) fun v => k v h
  | .convert s t x => withTy c s fun _ => withTy c t fun ti => aconv ti.kind (ev e x) fun v => k v h
  | .makeFunc (.func f) first cap => gd first.toList.isEmpty (capsOf (cap.toList.map (ev e)) fun l => k (.clo f l) h)
  | .fieldAddr t x f => withTy c t fun ti => match ev e x with
    | .ptr b i => fieldOf ti f fun off ft => withTy c ft fun fi => gd (!(Nat.beq fi.size 0)) (k (.ptr b (i + off)) h)
    | _ => none
  | .field t x f => withTy c t fun ti => match ev e x with
    | .agg cs => fieldOf ti f fun off ft => withTy c ft fun fi => part fi cs off fun v => k v h
    | _ => none
  | .indexAddr t x i => withTy c t fun ti => idxA c ti (ev e x) (ev e i) fun v => k v h
  | .index t x i => withTy c t fun ti => idxV c ti (ev e x) (ev e i) fun v => k v h
  | .extract x i => match ev e x with
    | .tup vs => match vs[i]? with | some v => gd v.noTup (k v h) | none => none
    | _ => none
  | .call q => match q.callee with
    | .value f => match ev e f with
      | .clo g cap => call c g (q.args.toList.map (ev e) ++ cap.map fun p => .ptr p.1 p.2) h k
      | _ => none
    | .builtin b => bltn c b q.argTypes.toList (q.args.toList.map (ev e)) h k
    | _ => none
  | _ => none

/-! a region whose order is drawn: the pairs that may come in either order commute -/
def tmpsOf (l : List Operand) : List Nat := l.flatMap fun | .tmp t => [t] | _ => []
def looks (all : List Oper) (x : Oper) : List Nat :=
  tmpsOf x.op.operands.toList ++ (match x.guard with | some (j, _) => (match all[j]? with | some y => y.dst.toList | none => []) | none => [])
def apartB (all : List Oper) (x y : Oper) : Bool :=
  x.dst.toList.all (fun d => !(looks all y).any (Nat.beq d) && !y.dst.toList.any (Nat.beq d)) &&
  y.dst.toList.all (fun d => !(looks all x).any (Nat.beq d))
/-- 0: looks at no memory · 1: reads it · 2: makes memory · 3: whatever else -/
def cls (c : Cx o) : Op → Nat
  | .move _ => 0
  | .assign _ => 0
  | .pick _ _ _ => 0
  | .build _ _ => 0
  | .nilCheck _ => 0
  | .binOp _ _ _ _ _ => 0
  | .unOp _ _ _ => 0
  | .convert _ _ _ => 0
  | .fieldAddr _ _ _ => 0
  | .field _ _ _ => 0
  | .indexAddr _ _ _ => 0
  | .index _ _ _ => 0
  | .extract _ _ => 0
  | .makeFunc _ _ _ => 0
  | .load _ _ => 1
  | .slice _ _ _ _ _ => 1
  | .box _ _ => 2
  | .alloc _ => 2
  | .buildSlice _ _ _ => 2
  | .makeSlice _ _ _ => 2
  | .call q => match q.callee with
    | .value (.func f) => match c.fn f with | some (.pure _) => 0 | some (.ro _) => 1 | _ => 3
    | .builtin .len => 0
    | .builtin .min => 0
    | .builtin .max => 0
    | .builtin .complex => 0
    | .builtin .real => 0
    | .builtin .imag => 0
    | _ => 3
  | _ => 3
/-- x comes ahead of y in the text -/
def commute (c : Cx o) (all : List Oper) (x y : Oper) : Bool :=
  apartB all x y && (Nat.beq (cls c x.op) 0 || Nat.beq (cls c y.op) 0 ||
    (Nat.beq (cls c x.op) 1 && (Nat.beq (cls c y.op) 1 || Nat.beq (cls c y.op) 2)))
/-- the operations that must come ahead of each, as bits -/
def masks (l : List Oper) : List Nat :=
  l.foldl (fun acc x => acc ++ [x.after.toList.foldl (fun m e => cond (Region.binds .any e) (m ||| 2 ^ e.on ||| (acc[e.on]?).getD 0) m) 0]) []
def edgesOk (l : List Oper) : Bool := l.zipIdx.all fun p => p.1.after.toList.all fun e => !Region.binds .any e || Nat.blt e.on p.2
def orderOk (c : Cx o) (l : List Oper) : Bool :=
  edgesOk l && (l.zip (masks l)).zipIdx.all fun p => (l.take p.2).zipIdx.all fun q => Nat.testBit p.1.2 q.2 || commute c l q.1 p.1.1

noncomputable def step (c : Cx o) (g : Bool) (all : List Oper) (x : Oper) (e : Env o) (h : Heap o) (k : Env o → Heap o → R o) : R o :=
  match x.guard with
  | none => exec c x.op e h fun v h' => fin c g x.dst v e h' k
  | some (j, want) => match (all[j]?).bind (·.dst) with
    | some d => match e d with
      | .bool b => cond (b == want) (exec c x.op e h fun v h' => fin c g x.dst v e h' k) (fin c false x.dst .undef e h k)
      | .undef => fin c false x.dst .undef e h k
      | _ => none
    | none => none

noncomputable def steps (c : Cx o) (g : Bool) (all : List Oper) (l : List Oper) (e : Env o) (h : Heap o) (k : Env o → Heap o → R o) : R o :=
  List.rec (motive := fun _ => Env o → Heap o → R o) k (fun x _ ih e h => step c g all x e h ih) l e h

noncomputable def nloops (x : Code) : Nat :=
  Code.rec (motive := fun _ => Nat) 0 (fun _ _ _ => 0) (fun _ _ a b => a + b) (fun _ _ _ a b => a + b) (fun _ _ a => a) (fun _ a => a + 1) (fun _ _ _ _ a b => a + b)
    (fun _ => 0) (fun _ a => a) (fun _ => 0) (fun _ => 0) 0 (fun _ => 0) x

def look (l : List (Nat × AV o)) (i : Nat) : AV o := l.foldr (fun p r => cond (Nat.beq i p.1) p.2 r) .any

def keepFlat : Option (Blk o) → Blk o
  | some (.live w true cs) => .live w true cs
  | _ => .dead
/-- at a loop's head only the blocks of the call, and those that the kept values name, are kept -/
def gcL (m : Nat) (vs : List (AV o)) : List Nat := List.range m ++ (roots1 [] vs).filter (Nat.ble m)
def gcV (m : Nat) (vs : List (AV o)) : List (AV o) := vs.map (AV.ren1 (pos (gcL m vs)))
def gcH (m : Nat) (vs : List (AV o)) (h : Heap o) : Heap o := (gcL m vs).map fun b => keepFlat h[b]?
def gcOn (m : Nat) (vs : List (AV o)) (h : Heap o) (k : List (AV o) → Heap o → R o) : R o := gd (vs.all AV.noTup) (k (gcV m vs) (gcH m vs h))

def brOn (v : AV o) (x y : R o) : R o := match v with | .bool b => cond b x y | _ => none
def thenOn (n : Env o → Heap o → R o) (k : Exit → Env o → Heap o → R o) : Exit → Env o → Heap o → R o
  | .normal => n
  | x => k x
def blockOn (id : Nat) (k : Exit → Env o → Heap o → R o) : Exit → Env o → Heap o → R o
  | .exit i => fun e h => cond (Nat.beq i id) (k .normal e h) (k (.exit i) e h)
  | x => k x
def loopOn (c : Cx o) (j : Nat) (F : List Nat → (List (AV o) → Heap o → R o) → List (AV o) → Heap o → R o) (e : Env o) (h : Heap o) : R o :=
  match c.loops[j]? with
  | some d => gcOn c.base (d.keep.map e) h (d.it c.rounds (F d.keep))
  | none => none

noncomputable def code (c : Cx o) (x : Code) (j : Nat) (e : Env o) (h : Heap o) (k : Exit → Env o → Heap o → R o) : R o :=
  Code.rec (motive := fun _ => Nat → Env o → Heap o → (Exit → Env o → Heap o → R o) → R o)
    (fun _ e h k => k .normal e h)
    (fun _ ops draw _ e h k => cond (!draw || orderOk c ops.toList) (steps c (hasGuards ops.toList) ops.toList ops.toList e h (k .normal)) none)
    (fun a _ iha ihb j e h k => iha j e h (thenOn (fun e h => ihb (j + nloops a) e h k) k))
    (fun q a _ iha ihb j e h k => brOn (ev e q) (iha j e h k) (ihb (j + nloops a) e h k))
    (fun id _ ih j e h k => ih j e h (blockOn id k))
    (fun _ ih j e h k => loopOn c j (fun keep self vs h => ih (j + 1) (look (keep.zip vs)) h (thenOn (fun e h => gcOn c.base (keep.map e) h self) k)) e h)
    (fun _ _ _ _ _ _ _ _ _ _ => none)
    (fun id _ e h k => k (.exit id) e h)
    (fun _ _ _ _ _ _ => none)
    (fun _ _ e h k => k .normal e h)
    (fun _ _ _ _ _ => none)
    (fun _ e h k => k .ret e h)
    (fun _ _ _ _ _ => none) x j e h k

/-! a call -/
def env0 (args : List (AV o)) : Env o := fun i => match args[i]? with | some v => v | none => .undef

/-- one result -/
noncomputable def res1 (c : Cx o) (e : Env o) (h : Heap o) (r : ResultVar) (k : AV o → R o) : R o :=
  match r with
  | .tmp t => k (e t)
  | .cell a t => withTy c t fun ti => match e a with
    | .ptr b i => ldv ti h b i k
    | _ => none
noncomputable def resv (c : Cx o) (rs : List ResultVar) (e : Env o) (h : Heap o) (k : List (AV o) → R o) : R o :=
  List.rec (motive := fun _ => (List (AV o) → R o) → R o) (fun k => k [])
    (fun r _ ih k => res1 c e h r fun v => gd v.noTup (ih fun vs => k (v :: vs))) rs k

/-- the places that are kept at the end: what was there at the call, and the new blocks that the result names -/
def kept (m : Nat) (v : AV o) : List Nat := List.range m ++ (v.roots []).filter (Nat.ble m)
def done (m : Nat) (v : AV o) (h : Heap o) : R o := some (v.ren (pos (kept m v)), (kept m v).map fun b => keepFlat h[b]?)
def one1 : List (AV o) → AV o
  | [v] => v
  | vs => .tup vs

def endOn (n : Env o → Heap o → R o) : Exit → Env o → Heap o → R o
  | .normal => n
  | .ret => n
  | _ => fun _ _ => none

noncomputable def afun (c : Cx o) (rs : List ResultVar) (body : Code) (args : List (AV o)) (h : Heap o) : R o :=
  gd (Nat.ble args.length c.nt && Nat.beq c.base h.length) (code c body 0 (env0 args) h (endOn fun e h' => resv c rs e h' fun vs => done h.length (one1 vs) h'))

end
end Go.Ab
