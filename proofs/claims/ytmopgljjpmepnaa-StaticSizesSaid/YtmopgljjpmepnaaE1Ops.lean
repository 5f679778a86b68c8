/-
  The engine's operations: each reads values, may read or change the logical heap, and yields a value or nothing.
-/
import Derived.Test.YtmopgljjpmepnaaE1Heap
namespace Go.E1
open Go

inductive LO where
  | t (n : Nat)
  | c (v : Value)

/-- What is equal to what: kinds of types for '==' and '!='. -/
inductive EqT where
  | basic
  | bool
  | ptr | slice | map | func
  | typed (t : TypeId)

inductive LOp (α : Type) where
  | mov (x : α)
  | alloc (zero : List Value)
  | box (x : α)
  | build (zero : List Value) (parts : List (Nat × Nat × α))
  | buildSlice (len esz : Nat) (zero : List Value) (parts : List (Nat × Nat × α))
  | load1 (a : α)
  | loadN (n : Nat) (a : α)
  | store (n : Nat) (a x : α)
  | nilCheck (a : α)
  | bin (op : BinOp) (ty : EqT) (x y : α)
  | un (op : UnOp) (x : α)
  | convInt (k : IntKind) (x : α)
  | convStr (x : α)
  | strBytes (x : α)
  | bytesStr (x : α)
  | makeFunc (fn : Fn) (captured : List α)
  | makeMap
  | makeSlice (esz bytes : Nat) (zero : List Value) (len cap : α)
  | slice (esz : Nat) (x : α) (lo hi max : Option α)
  | sliceStr (x : α) (lo hi : Option α)
  | sliceArr (n esz : Nat) (x : α) (lo hi max : Option α)
  | fieldAddr (off : Nat) (x : α)
  | field1 (off : Nat) (x : α)
  | fieldN (off n : Nat) (x : α)
  | idxAddrA (len esz : Nat) (x i : α)
  | idxAddrS (esz : Nat) (x i : α)
  | idxA1 (len : Nat) (x i : α)
  | idxAN (len esz : Nat) (x i : α)
  | idxStr (x i : α)
  | extract (i : Nat) (x : α)
  | lenStr (x : α)
  | lenS (x : α)
  | append (esz bytes : Nat) (s x : α)
  | copy (esz : Nat) (d s : α)
  | minmax (mx : Bool) (xs : List α)

namespace LOp
variable {α β : Type}
def optM (f : α → Option β) : Option α → Option (Option β)
  | none => some none
  | some x => (f x).map some
def listM (f : α → Option β) : List α → Option (List β)
  | [] => some []
  | x :: l => match f x, listM f l with
    | some y, some m => some (y :: m)
    | _, _ => none
def partsM (f : α → Option β) : List (Nat × Nat × α) → Option (List (Nat × Nat × β))
  | [] => some []
  | (a, b, x) :: l => match f x, partsM f l with
    | some y, some m => some ((a, b, y) :: m)
    | _, _ => none

/-- The operands read. -/
def sub (f : α → Option β) : LOp α → Option (LOp β)
  | .mov x => (f x).map .mov
  | .alloc z => some (.alloc z)
  | .box x => (f x).map .box
  | .build z ps => (partsM f ps).map (.build z)
  | .buildSlice n e z ps => (partsM f ps).map (.buildSlice n e z)
  | .load1 x => (f x).map .load1
  | .loadN n x => (f x).map (.loadN n)
  | .store n a x => match f a, f x with | some a, some x => some (.store n a x) | _, _ => none
  | .nilCheck x => (f x).map .nilCheck
  | .bin op t x y => match f x, f y with | some x, some y => some (.bin op t x y) | _, _ => none
  | .un op x => (f x).map (.un op)
  | .convInt k x => (f x).map (.convInt k)
  | .convStr x => (f x).map .convStr
  | .strBytes x => (f x).map .strBytes
  | .bytesStr x => (f x).map .bytesStr
  | .makeFunc g c => (listM f c).map (.makeFunc g)
  | .makeMap => some .makeMap
  | .makeSlice e b z x y => match f x, f y with | some x, some y => some (.makeSlice e b z x y) | _, _ => none
  | .slice e x lo hi mx => match f x, optM f lo, optM f hi, optM f mx with | some x, some lo, some hi, some mx => some (.slice e x lo hi mx) | _, _, _, _ => none
  | .sliceStr x lo hi => match f x, optM f lo, optM f hi with | some x, some lo, some hi => some (.sliceStr x lo hi) | _, _, _ => none
  | .sliceArr n e x lo hi mx => match f x, optM f lo, optM f hi, optM f mx with | some x, some lo, some hi, some mx => some (.sliceArr n e x lo hi mx) | _, _, _, _ => none
  | .fieldAddr o x => (f x).map (.fieldAddr o)
  | .field1 o x => (f x).map (.field1 o)
  | .fieldN o n x => (f x).map (.fieldN o n)
  | .idxAddrA l e x i => match f x, f i with | some x, some i => some (.idxAddrA l e x i) | _, _ => none
  | .idxAddrS e x i => match f x, f i with | some x, some i => some (.idxAddrS e x i) | _, _ => none
  | .idxA1 l x i => match f x, f i with | some x, some i => some (.idxA1 l x i) | _, _ => none
  | .idxAN l e x i => match f x, f i with | some x, some i => some (.idxAN l e x i) | _, _ => none
  | .idxStr x i => match f x, f i with | some x, some i => some (.idxStr x i) | _, _ => none
  | .extract n x => (f x).map (.extract n)
  | .lenStr x => (f x).map .lenStr
  | .lenS x => (f x).map .lenS
  | .append e b s x => match f s, f x with | some s, some x => some (.append e b s x) | _, _ => none
  | .copy e d s => match f d, f s with | some d, some s => some (.copy e d s) | _, _ => none
  | .minmax m xs => (listM f xs).map (.minmax m)

inductive Cls where | pure | reader | effect
  deriving DecidableEq

/-- Does it only reckon, does it read memory, or does it change it or make some? -/
def cls : LOp α → Cls
  | .alloc _ | .box _ | .buildSlice .. | .store .. | .strBytes _ | .makeMap | .makeSlice .. | .append .. | .copy .. => .effect
  | .load1 _ | .loadN .. | .bytesStr _ | .sliceArr .. => .reader
  | _ => .pure
end LOp

/-! ### Numbers -/

def ibin (op : BinOp) (k : IntKind) (a b : Int) : Option Value :=
  match op with
  | .add => some (.int k (k.wrap (a + b)))
  | .sub => some (.int k (k.wrap (a - b)))
  | .mul => some (.int k (k.wrap (a * b)))
  | .quo => if b = 0 then none else some (.int k (k.wrap (a.tdiv b)))
  | .rem => if b = 0 then none else some (.int k (a.tmod b))
  | .and => some (.int k (k.wrap (BitVec.ofInt k.bits a &&& BitVec.ofInt k.bits b).toNat))
  | .or => some (.int k (k.wrap (BitVec.ofInt k.bits a ||| BitVec.ofInt k.bits b).toNat))
  | .xor => some (.int k (k.wrap (BitVec.ofInt k.bits a ^^^ BitVec.ofInt k.bits b).toNat))
  | .andNot => some (.int k (k.wrap (BitVec.ofInt k.bits a &&& ~~~ BitVec.ofInt k.bits b).toNat))
  | .eql => some (.bool (a == b))
  | .neq => some (.bool (a != b))
  | .lss => some (.bool (a < b))
  | .leq => some (.bool (a ≤ b))
  | .gtr => some (.bool (a > b))
  | .geq => some (.bool (a ≥ b))
  | _ => none

def ishift (op : BinOp) (k : IntKind) (a b : Int) : Option Value :=
  if b < 0 then none else
  match op with
  | .shl => some (.int k (k.wrap (a * 2 ^ (min b.toNat k.bits))))
  | .shr => some (.int k (a.fdiv (2 ^ (min b.toNat k.bits))))
  | _ => none

def BinOp.isShift : BinOp → Bool
  | .shl | .shr => true
  | _ => false

def sbin (op : BinOp) (a b : ByteArray) : Option Value :=
  match op with
  | .add => if a.size + b.size ≤ 4611686018427387904 then some (.string (a ++ b)) else none
  | .eql => some (.bool (a.data.toList == b.data.toList))
  | .neq => some (.bool (!(a.data.toList == b.data.toList)))
  | _ => none

def eqOr (op : BinOp) (b : Bool) : Option Value :=
  match op with
  | .eql => some (.bool b)
  | .neq => some (.bool (!b))
  | _ => none

abbrev EqF := TypeId → Value → Value → Option Bool

def lbin (q : EqF) (op : BinOp) (ty : EqT) (x y : Value) : Option Value :=
  match x, y with
  | .int k a, .int k' b => if BinOp.isShift op then ishift op k a b else if k = k' then ibin op k a b else none
  | .string a, .string b => sbin op a b
  | .bool a, .bool b => match ty with
    | .bool => eqOr op (a == b)
    | _ => none
  | .pointer a, .pointer b => match ty, a, b with
    | .ptr, none, b => eqOr op b.isNone
    | .ptr, some _, none => eqOr op false
    | _, _, _ => none
  | .slice a _ _, .slice b _ _ => match ty, a, b with
    | .slice, none, b => eqOr op b.isNone
    | .slice, some _, none => eqOr op false
    | _, _, _ => none
  | .map a, .map b => match ty, a, b with
    | .map, none, b => eqOr op b.isNone
    | .map, some _, none => eqOr op false
    | _, _, _ => none
  | .agg a, .agg b => match ty with
    | .typed t => match q t (.agg a) (.agg b) with
      | some r => eqOr op r
      | none => none
    | _ => none
  | _, _ => none

/-! ### Cells -/

def splice (cs : List Value) (o : Nat) (vs : List Value) : List Value := cs.take o ++ vs ++ cs.drop (o + vs.length)

def lfill : List Value → List (Nat × Nat × Value) → Option (List Value)
  | cs, [] => some cs
  | cs, (off, sz, v) :: r =>
    if v.cells.size = sz ∧ off + sz ≤ cs.length then lfill (splice cs off v.cells.toList) r else none

def oneCells (l : List Value) : Bool := l.all (·.oneCell')

def LHeap.loadCells (h : LHeap) (b o n : Nat) : Option (List Value) :=
  match h.get b with
  | some (.cells cs _ _) => if o + n ≤ cs.length then some ((cs.drop o).take n) else none
  | _ => none

def LHeap.load1 (h : LHeap) (b o : Nat) : Option Value :=
  match h.get b with
  | some (.cells cs _ _) => cs[o]?
  | _ => none

def LHeap.storeCells (h : LHeap) (b o : Nat) (vs : List Value) : Option LHeap :=
  match h.get b with
  | some (.cells cs tip true) => if o + vs.length ≤ cs.length ∧ oneCells vs = true then some (h.set b (.cells (splice cs o vs) tip true)) else none
  | _ => none

/-- The first 'n' elements of a slice, or a string's bytes. -/
def LHeap.firstCells (h : LHeap) (esz : Nat) : Value → Option (Nat × List Value)
  | .slice none 0 _ => some (0, [])
  | .slice (some ⟨b, o, none⟩) n E => if E = esz then (if n = 0 then some (0, []) else (h.loadCells b o (n * esz)).map (n, ·)) else none
  | .string s => if esz = 1 then some (s.size, s.data.toList.map fun b => .int .u8 b.toNat) else none
  | _ => none

def bytesOf : List Value → Option (List UInt8)
  | [] => some []
  | .int .u8 n :: l => (bytesOf l).map (UInt8.ofNat n.toNat :: ·)
  | _ => none

def roomOk (n bytes : Nat) : Bool := n * bytes ≤ 140737488355328 && n ≤ 140737488355328

def lo1 : Option Value → Option (Option Nat)
  | none => some none
  | some (.int _ i) => if 0 ≤ i then some (some i.toNat) else none
  | _ => none

/-- One operation: what it yields, and the heap then. Nothing: it panics, or isn't served. -/
def lexec (q : EqF) (o : LOp Value) (h : LHeap) : Option (Value × LHeap) :=
  match o with
  | .mov x => some (x, h)
  | .alloc z => some (.pointer (some ⟨h.size, 0, none⟩), h.push (.cells z true true))
  | .box x => some (.pointer (some ⟨h.size, 0, none⟩), h.push (.cells x.cells.toList true true))
  | .build z ps => (lfill z ps).map fun cs => (.agg cs.toArray, h)
  | .buildSlice n e z ps => if n * e ≤ 16777216 then (lfill z ps).map fun cs => (.slice (some ⟨h.size, 0, none⟩) n e, h.push (.cells cs true true)) else none
  | .load1 a => match a with
    | .pointer (some ⟨b, o, none⟩) => (h.load1 b o).map (·, h)
    | _ => none
  | .loadN n a => match a with
    | .pointer (some ⟨b, o, none⟩) => (h.loadCells b o n).map fun cs => (.agg cs.toArray, h)
    | _ => none
  | .store n a x => match a with
    | .pointer (some ⟨b, o, none⟩) => if x.cells.size = n then (h.storeCells b o x.cells.toList).map (.tuple #[], ·) else none
    | _ => none
  | .nilCheck a => match a with
    | .pointer (some p) => some (.pointer (some p), h)
    | .func (.func f) first c => if first.size = 0 then some (.func (.func f) first c, h) else none
    | _ => none
  | .bin op ty x y => (lbin q op ty x y).map (·, h)
  | .un op x => match op, x with
    | .neg, .int k n => some (.int k (k.wrap (0 - n)), h)
    | .xor, .int k n => (ibin .xor k (if k.signed then -1 else k.max) n).map (·, h)
    | .not, .bool b => some (.bool (!b), h)
    | _, _ => none
  | .convInt k x => match x with
    | .int _ n => some (.int k (k.wrap n), h)
    | _ => none
  | .convStr x => match x with
    | .string s => some (.string s, h)
    | _ => none
  | .strBytes x => match x with
    | .string s => some (.slice (some ⟨h.size, 0, none⟩) s.size 1, h.push (.cells (s.data.toList.map fun b => .int .u8 b.toNat) true true))
    | _ => none
  | .bytesStr x => match x with
    | .slice none 0 _ => some (.string ⟨#[]⟩, h)
    | .slice (some ⟨b, o, none⟩) n 1 => match (if n = 0 then some [] else h.loadCells b o n) with
      | some cs => (bytesOf cs).map fun l => (.string ⟨l.toArray⟩, h)
      | none => none
    | _ => none
  | .makeFunc f c => some (.func f #[] c.toArray, h)
  | .makeMap => some (.map (some h.size), h.push (.map []))
  | .makeSlice e bytes z n c => match n, c with
    | .int _ n, .int _ c => if 0 ≤ n ∧ n ≤ c ∧ roomOk c.toNat bytes = true ∧ z.length = e then
        some (.slice (some ⟨h.size, 0, none⟩) n.toNat e, h.push (.cells (List.replicate n.toNat z).flatten true true)) else none
    | _, _ => none
  | .slice e x lo hi mx => match x, lo1 lo, lo1 hi, mx with
    | .slice a n E, some lo, some hi, none =>
      if E = e ∨ a = none then
        if hi.getD n ≤ n ∧ lo.getD 0 ≤ hi.getD n then some (.slice (a.map fun p => ⟨p.block, p.off + lo.getD 0 * e, p.spot⟩) (hi.getD n - lo.getD 0) E, h) else none
      else none
    | .slice a n E, some lo, some (some hi), some (.int _ m) =>
      if E = e ∨ a = none then
        if hi ≤ n ∧ lo.getD 0 ≤ hi ∧ (m = (hi : Nat)) then some (.slice (a.map fun p => ⟨p.block, p.off + lo.getD 0 * e, p.spot⟩) (hi - lo.getD 0) E, h) else none
      else none
    | _, _, _, _ => none
  | .sliceStr x lo hi => match x, lo1 lo, lo1 hi with
    | .string s, some lo, some hi => if hi.getD s.size ≤ s.size ∧ lo.getD 0 ≤ hi.getD s.size then some (.string (s.extract (lo.getD 0) (hi.getD s.size)), h) else none
    | _, _, _ => none
  | .sliceArr n e x lo hi mx => match x, lo1 lo, lo1 hi, mx with
    | .pointer (some ⟨b, o, none⟩), some lo, some hi, none =>
      match h.get b with
      | some (.cells cs _ _) => if o + n * e ≤ cs.length ∧ hi.getD n ≤ n ∧ lo.getD 0 ≤ hi.getD n then some (.slice (some ⟨b, o + lo.getD 0 * e, none⟩) (hi.getD n - lo.getD 0) e, h) else none
      | _ => none
    | _, _, _, _ => none
  | .fieldAddr off x => match x with
    | .pointer (some ⟨b, o, none⟩) => some (.pointer (some ⟨b, o + off, none⟩), h)
    | _ => none
  | .field1 off x => match x with
    | .agg cs => (cs[off]?).map (·, h)
    | _ => none
  | .fieldN off n x => match x with
    | .agg cs => if off + n ≤ cs.size then some (.agg (cs.extract off (off + n)), h) else none
    | _ => none
  | .idxAddrA len e x i => match x, i with
    | .pointer (some ⟨b, o, none⟩), .int _ i => if 0 ≤ i ∧ i < len then some (.pointer (some ⟨b, o + i.toNat * e, none⟩), h) else none
    | _, _ => none
  | .idxAddrS e x i => match x, i with
    | .slice (some ⟨b, o, none⟩) n E, .int _ i => if 0 ≤ i ∧ i < n ∧ E = e then some (.pointer (some ⟨b, o + i.toNat * e, none⟩), h) else none
    | _, _ => none
  | .idxA1 len x i => match x, i with
    | .agg cs, .int _ i => if 0 ≤ i ∧ i < len then (cs[i.toNat]?).map (·, h) else none
    | _, _ => none
  | .idxAN len e x i => match x, i with
    | .agg cs, .int _ i => if 0 ≤ i ∧ i < len ∧ i.toNat * e + e ≤ cs.size then some (.agg (cs.extract (i.toNat * e) (i.toNat * e + e)), h) else none
    | _, _ => none
  | .idxStr x i => match x, i with
    | .string s, .int _ i => if 0 ≤ i then (s.data.toList[i.toNat]?).map fun b => (.int .u8 b.toNat, h) else none
    | _, _ => none
  | .extract i x => match x with
    | .tuple vs => (vs[i]?).map (·, h)
    | _ => none
  | .lenStr x => match x with
    | .string s => some (.int .i64 s.size, h)
    | _ => none
  | .lenS x => match x with
    | .slice _ n _ => some (.int .i64 n, h)
    | _ => none
  | .append e bytes s x => match s, h.firstCells e x with
    | .slice none 0 E, some (m, news) => if m = 0 then some (.slice none 0 E, h) else
      if roomOk m bytes = true ∧ oneCells news = true then some (.slice (some ⟨h.size, 0, none⟩) m e, h.push (.cells news true true)) else none
    | .slice (some ⟨b, o, none⟩) n E, some (m, news) =>
      if E = e ∧ oneCells news = true ∧ roomOk (n + m) bytes = true then
        match h.get b with
        | some (.cells cs tip _) =>
          if (tip = true ∧ o + n * e = cs.length) ∨ m = 0 then
            if m = 0 then some (.slice (some ⟨b, o, none⟩) n E, h) else
            some (.slice (some ⟨h.size, 0, none⟩) (n + m) e, (h.set b .dead).push (.cells (cs.drop o ++ news) true true))
          else none
        | _ => none
      else none
    | _, _ => none
  | .copy e d s => match d, h.firstCells e s with
    | .slice none 0 _, some _ => some (.int .i64 0, h)
    | .slice (some ⟨b, o, none⟩) n E, some (m, cs) =>
      if E = e then (if min m n = 0 then some (.int .i64 0, h) else (h.storeCells b o (cs.take (min m n * e))).map (.int .i64 (min m n : Nat), ·)) else none
    | _, _ => none
  | .minmax mx xs => match xs with
    | .int k a :: r => (r.foldl (fun acc v => match acc, v with
      | some (Value.int k x), .int k' y => if k = k' then some (Value.int k (if mx then (if y > x then y else x) else (if y < x then y else x))) else none
      | _, _ => none) (some (.int k a))).map (·, h)
    | _ => none

end Go.E1
