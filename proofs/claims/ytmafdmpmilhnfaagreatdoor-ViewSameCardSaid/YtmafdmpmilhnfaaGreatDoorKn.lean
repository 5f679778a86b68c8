/-
  Texts joined: M07, SpA, SpB, SpC, SpD, Str, Pl, Lns, GL, Cat, NA.
-/
import Derived.Test.YtmafdmpmilhnfaaGreatDoorKm
import Derived.Test.YtmafdmpmilhnfaaGreatDoorKe
/-
 Layers 2, 3, 4, 6, 7: what they reckon, in plain Lean.
-/
namespace Go.M
open Go.E1

abbrev Bytes := List UInt8
abbrev Fld := ByteArray × ByteArray

/-! ### Numbers behind some bits -/
def pfxGo : Nat → Nat → Bytes → Nat × Nat × Nat
 | _, _, [] => (0, 0, 16)
 | i, n, c :: r => if 5 ≤ i then (0, 0, 22) else
  if 2147483647 < n + c.toNat % 128 * 2 ^ (7 * i) then (0, 0, 22) else
  if c.toNat < 128 then (n + c.toNat % 128 * 2 ^ (7 * i), i + 2, 0) else pfxGo (i + 1) (n + c.toNat % 128 * 2 ^ (7 * i)) r

def pfx (bits : Nat) : Bytes → Nat × Nat × Nat
 | [] => (0, 0, 16)
 | c :: r => if c.toNat % 2 ^ bits < 2 ^ bits - 1 then (c.toNat % 2 ^ bits, 1, 0) else pfxGo 0 (c.toNat % 2 ^ bits) r

/-! ### The code -/
def cntAt (n : Nat) : Nat := huffCount.getD n 0
def fstAt (n : Nat) : Nat := huffFirst.getD n 0
def begAt (n : Nat) : Nat := huffBegins.getD n 0
def ordAt (n : Nat) : Nat := sortedSymbols.getD n 0

def symOf (code n : Nat) : Option Nat :=
 if n ≤ 30 ∧ 0 < cntAt n ∧ fstAt n ≤ code ∧ code - fstAt n < cntAt n then some (ordAt (begAt n + (code - fstAt n))) else none

def huffGo : List Bool → Nat → Nat → Bool → Bytes → Except Nat Bytes
 | [], _, n, ones, out => if 7 < n ∨ ones = false then .error 20 else .ok out
 | bit :: bs, code, n, ones, out => match symOf (2 * code + bit.toNat) (n + 1) with
  | none => huffGo bs (2 * code + bit.toNat) (n + 1) (ones && bit) out
  | some x => if x = 256 then .error 21 else huffGo bs 0 0 true (out ++ [UInt8.ofNat x])

def bits8 (c : UInt8) : List Bool := [c.toNat.testBit 7, c.toNat.testBit 6, c.toNat.testBit 5, c.toNat.testBit 4, c.toNat.testBit 3, c.toNat.testBit 2, c.toNat.testBit 1, c.toNat.testBit 0]
def bitsOf (l : Bytes) : List Bool := l.flatMap bits8
def huffDec (l : Bytes) : Except Nat Bytes := huffGo (bitsOf l) 0 0 true []

/-- The least number of so many bits that no code of at most so many bits begins. -/
def nxt : Nat → Nat
 | 0 => 0
 | n + 1 => 2 * nxt n + cntAt (n + 1)

/-! ### Texts -/
def litDec (limit : Nat) (b : Bytes) : Bytes × Nat × Nat :=
 if (pfx 7 b).2.2 ≠ 0 then ([], 0, (pfx 7 b).2.2) else
 if b.length - (pfx 7 b).2.1 < (pfx 7 b).1 then ([], 0, 16) else
 match (if 128 ≤ (b.headD 0).toNat then huffDec ((b.drop (pfx 7 b).2.1).take (pfx 7 b).1) else .ok ((b.drop (pfx 7 b).2.1).take (pfx 7 b).1)) with
 | .error e => ([], 0, e)
 | .ok s => if limit < s.length then ([], 0, 22) else (s, (pfx 7 b).2.1 + (pfx 7 b).1, 0)

/-! ### The table that moves: the oldest first -/
def fsz (f : Fld) : Nat := f.1.size + f.2.size + 32
def tsz (l : List Fld) : Nat := (l.map fsz).sum

def shrinkL (most : Int) : List Fld → List Fld
 | [] => []
 | e :: l => if most < (tsz (e :: l) : Int) then shrinkL most l else e :: l

def addL (limit : Nat) (l : List Fld) (f : Fld) : List Fld :=
 if fsz f ≤ limit then shrinkL ((limit : Int) - fsz f) l ++ [f] else shrinkL ((limit : Int) - fsz f) l

/-! ### Blocks -/
structure St where
 L : List Fld
 limit : Nat

structure Ln where
 f : Fld
 never : Bool

def entryOf (s : St) (i : Nat) : Option Fld :=
 if i = 0 then none else if i ≤ 61 then some (Go.E1.ent (i - 1)) else s.L.reverse[i - 62]?

def toBA (l : Bytes) : ByteArray := ⟨l.toArray⟩

/-- What a form's first byte says: how many bits its number has. -/
def kbits (c : UInt8) : Nat := if 128 ≤ c.toNat then 7 else if 64 ≤ c.toNat then 6 else if 32 ≤ c.toNat then 5 else 4

inductive Out where
 | fail (e : Nat)
 | none
 | line (x : Ln)

/-- A field behind its number: it, what stands behind it, an error's number. -/
def fieldOf (s : St) (indexed : Bool) (n : Nat) (b : Bytes) : Fld × Bytes × Nat :=
 if 0 < n ∨ indexed = true then
  match entryOf s n with
  | .none => ((⟨#[]⟩, ⟨#[]⟩), [], 23)
  | some f => if indexed = true then (f, b, 0) else
   if (litDec 4096 b).2.2 ≠ 0 then ((⟨#[]⟩, ⟨#[]⟩), [], (litDec 4096 b).2.2) else ((f.1, toBA (litDec 4096 b).1), b.drop (litDec 4096 b).2.1, 0)
 else
  if (litDec 4096 b).2.2 ≠ 0 then ((⟨#[]⟩, ⟨#[]⟩), [], (litDec 4096 b).2.2) else
  if (litDec 4096 (b.drop (litDec 4096 b).2.1)).2.2 ≠ 0 then ((⟨#[]⟩, ⟨#[]⟩), [], (litDec 4096 (b.drop (litDec 4096 b).2.1)).2.2) else
   ((toBA (litDec 4096 b).1, toBA (litDec 4096 (b.drop (litDec 4096 b).2.1)).1), (b.drop (litDec 4096 b).2.1).drop (litDec 4096 (b.drop (litDec 4096 b).2.1)).2.1, 0)

/-- One form: the table then, what stands behind it, what it is. -/
def form (most : Nat) (s : St) (first : Bool) (c : UInt8) (b : Bytes) : St × Bytes × Out :=
 if (pfx (kbits c) b).2.2 ≠ 0 then (s, [], .fail (pfx (kbits c) b).2.2) else
 if 32 ≤ c.toNat ∧ c.toNat < 64 then
  if first = false ∨ most < (pfx (kbits c) b).1 then (s, [], .fail 24) else
   (⟨shrinkL (pfx (kbits c) b).1 s.L, (pfx (kbits c) b).1⟩, b.drop (pfx (kbits c) b).2.1, .none)
 else
  if (fieldOf s (decide (128 ≤ c.toNat)) (pfx (kbits c) b).1 (b.drop (pfx (kbits c) b).2.1)).2.2 ≠ 0 then
   (s, [], .fail (fieldOf s (decide (128 ≤ c.toNat)) (pfx (kbits c) b).1 (b.drop (pfx (kbits c) b).2.1)).2.2)
  else
   (if 64 ≤ c.toNat ∧ c.toNat < 128 then ⟨addL s.limit s.L (fieldOf s (decide (128 ≤ c.toNat)) (pfx (kbits c) b).1 (b.drop (pfx (kbits c) b).2.1)).1, s.limit⟩ else s,
    (fieldOf s (decide (128 ≤ c.toNat)) (pfx (kbits c) b).1 (b.drop (pfx (kbits c) b).2.1)).2.1,
    .line ⟨(fieldOf s (decide (128 ≤ c.toNat)) (pfx (kbits c) b).1 (b.drop (pfx (kbits c) b).2.1)).1, decide (16 ≤ c.toNat ∧ c.toNat < 32)⟩)

/-- A block, form by form. -/
def decGo (most bound : Nat) : Nat → St → Bytes → List Ln → Nat → St × Except Nat (List Ln)
 | 0, s, _, out, _ => (s, .ok out)
 | _ + 1, s, [], out, _ => (s, .ok out)
 | k + 1, s, c :: b, out, size => match form most s out.isEmpty c (c :: b) with
  | (s', _, .fail e) => (s', .error e)
  | (s', r, .none) => decGo most bound k s' r out size
  | (s', r, .line x) => if bound < size + fsz x.f then (s', .error 22) else decGo most bound k s' r (out ++ [x]) (size + fsz x.f)

structure Dec where
 st : St
 dead : Bool

def decode (most bound : Nat) (d : Dec) (b : Bytes) : Dec × Except Nat (List Ln) :=
 if d.dead then (d, .error 25) else
 match decGo most bound b.length d.st b [] 0 with
 | (s, .ok l) => (⟨s, false⟩, .ok l)
 | (s, .error e) => (⟨s, true⟩, .error e)

end Go.M

/-
 Layers 2, 3, 4: what their functions answer, over slices of bytes.
-/
namespace Go.E1
open Go Go.Proofs Go.M
set_option linter.unusedSimpArgs false

def bv (l : Bytes) : List Value := l.map fun b => .int .u8 b.toNat
theorem bv_len (l : Bytes) : (bv l).length = l.length := by simp [bv]

/-- A slice holds these bytes. -/
def BytesAt (h : LHeap) (v : Value) (l : Bytes) : Prop :=
 (l = [] ∧ ∃ c, v = .slice none 0 c) ∨ ∃ b o cs t r, v = .slice (some ⟨b, o, none⟩) l.length 1 ∧ b < h.size ∧ h.get b = some (.cells cs t r) ∧ o + l.length ≤ cs.length ∧ (cs.drop o).take l.length = bv l

theorem BytesAt.ext {h h' : LHeap} {v : Value} {l : Bytes} (hv : BytesAt h v l) (hx : Ext h h') : BytesAt h' v l := by
 rcases hv with h1 | ⟨b, o, cs, t, r, h1, h2, h3, h4, h5⟩
 ·exact .inl h1
 ·exact .inr ⟨b, o, cs, t, r, h1, Nat.lt_of_lt_of_le h2 hx.size, by rw [hx.get b h2]; exact h3, h4, h5⟩

end Go.E1

/-
 Layer 2: the code, read.
-/
namespace Go.E1
open Go Go.Proofs Go.M
set_option linter.unusedSimpArgs false

/-! ### The tables -/
noncomputable def isAt (n : Nat) (v : Value) : Bool := match nthR coder1 n with
 | some u => veq u v
 | none => false
structure TabAt (n : Nat) : Prop where
 first : coder1[518 + n]? = some (.int .u32 (fstAt n))
 count : coder1[549 + n]? = some (.int .i64 (cntAt n))
 begins : coder1[580 + n]? = some (.int .i64 (begAt n))
 sum : begAt n + cntAt n ≤ 257
 small : fstAt n < 4294967296
 few : cntAt n ≤ 257
def symV (code n : Nat) : Value := .int .i64 (match symOf code n with | some x => (x : Int) | none => -1)
/-! ### Bits -/
theorem tabBit : (List.range 256).all (fun c => (List.range 8).all fun j => decide (andI .u32 (IntKind.u32.wrap (shrI .u8 (c : Nat) ((7 : Int) - (j : Nat)))) 1 = (((bits8 (UInt8.ofNat c)).getD j false).toNat : Int))) = true := by kernel_rfl
end Go.E1

/-
 Layer 2: a coded text's bytes.
-/
namespace Go.E1
open Go Go.Proofs Go.M
set_option linter.unusedSimpArgs false

/-- Bytes that were gathered: nothing yet, or a block of their own, above 'lo'. -/
def OutAt (hh : LHeap) (lo : Nat) (v : Value) (out : Bytes) : Prop :=
 (out = [] ∧ v = .slice none 0 0) ∨ ∃ b, v = .slice (some ⟨b, 0, none⟩) out.length 1 ∧ lo ≤ b ∧ b < hh.size ∧ hh.get b = some (.cells (bv out) true true)

/-- What lies below 'lo' is as it was. -/
structure Low (lo : Nat) (h h' : LHeap) : Prop where
 size : h.size ≤ h'.size
 get : ∀ b, b < lo → h'.get b = h.get b
theorem Low.refl (lo : Nat) (h : LHeap) : Low lo h h := ⟨Nat.le_refl _, fun _ _ => rfl⟩
theorem Low.trans {lo : Nat} {a b c : LHeap} (x : Low lo a b) (y : Low lo b c) : Low lo a c := ⟨Nat.le_trans x.size y.size, fun i hi => (y.get i hi).trans (x.get i hi)⟩
theorem Low.ext {lo : Nat} {h h' : LHeap} (x : Low lo h h') (hl : h.size ≤ lo) : Ext h h' := ⟨x.size, fun b hb => x.get b (Nat.lt_of_lt_of_le hb hl)⟩
theorem OutAt.bytes {hh : LHeap} {lo : Nat} {v : Value} {out : Bytes} (h : OutAt hh lo v out) : BytesAt hh v out := by
 rcases h with ⟨h1, h2⟩ | ⟨b, h1, h2, h3, h4⟩
 ·exact .inl ⟨h1, 0, h2⟩
 ·exact .inr ⟨b, 0, _, true, true, h1, h3, h4, by simp [bv], by rw [List.drop_zero, ← bv_len out, List.take_length]⟩

def hRes (h : LHeap) (lo : Nat) (r : Except Nat Bytes) (u : Value) : Prop := match r with
 | .error e => u = .tuple #[.slice none 0 0, .int .i64 e]
 | .ok s => ∃ v, u = .tuple #[v, .int .i64 0] ∧ OutAt h lo v s

end Go.E1

/-
 Layer 4: texts.
-/
namespace Go.E1
open Go Go.Proofs Go.M
set_option linter.unusedSimpArgs false

@[go_sem] theorem x_seqn (q : EqF) (h : LHeap) (a : Addr) (n c d : Nat) : lexec q (.bin .eql .slice (.slice (some a) n c) (.slice none 0 d)) h = some (.bool false, h) := Eq.trans rfl rfl
@[go_sem] theorem x_seqnn (q : EqF) (h : LHeap) (c d : Nat) : lexec q (.bin .eql .slice (.slice none 0 c) (.slice none 0 d)) h = some (.bool true, h) := Eq.trans rfl rfl

theorem bytes_sub {cs : List Value} {o : Nat} {l : Bytes} (hl : (cs.drop o).take l.length = bv l) (i n : Nat) (hn : i + n ≤ l.length) : (cs.drop (o + i)).take n = bv ((l.drop i).take n) := by
 have e : (cs.drop (o + i)).take n = (((cs.drop o).take l.length).drop i).take n := by
  rw [List.drop_take, List.take_take, List.drop_drop]
  congr 1
  omega
 rw [e, hl]
 simp [bv, List.map_drop, List.map_take]

theorem OutAt.ext {h h' : LHeap} {lo : Nat} {v : Value} {s : Bytes} (ho : OutAt h lo v s) (hx : Ext h h') : OutAt h' lo v s := by
 rcases ho with h1 | ⟨b, h1, h2, h3, h4⟩
 ·exact .inl h1
 ·exact .inr ⟨b, h1, h2, Nat.lt_of_lt_of_le h3 hx.size, by rw [hx.get b h3]; exact h4⟩
theorem OutAt.low {h : LHeap} {lo lo' : Nat} {v : Value} {s : Bytes} (ho : OutAt h lo v s) (hl : lo' ≤ lo) : OutAt h lo' v s := by
 rcases ho with h1 | ⟨b, h1, h2, h3⟩
 ·exact .inl h1
 ·exact .inr ⟨b, h1, Nat.le_trans hl h2, h3⟩

end Go.E1

/-
 Texts out of bytes.
-/
namespace Go.E1
open Go Go.Proofs Go.M
set_option linter.unusedSimpArgs false

theorem bytesOf_bv (l : Bytes) : bytesOf (bv l) = some l := by
 induction l with
 | nil => rfl
 | cons b l ih =>
  have : bv (b :: l) = .int .u8 b.toNat :: bv l := rfl
  rw [this]
  simp only [bytesOf, ih, Option.map_some, Int.toNat_natCast, UInt8.ofNat_toNat]
theorem toBA_size (l : Bytes) : (toBA l).size = l.length := by simp [toBA, ByteArray.size]
end Go.E1

/-
 Layer 7, in plain Lean: what a form and a block take.
-/
namespace Go.E1
open Go Go.Proofs Go.M
set_option linter.unusedSimpArgs false

/-- The value behind a name. -/
def valOf (nm : ByteArray) (b : Bytes) : Fld × Bytes × Nat :=
 if (litDec 4096 b).2.2 ≠ 0 then ((⟨#[]⟩, ⟨#[]⟩), [], (litDec 4096 b).2.2) else ((nm, toBA (litDec 4096 b).1), b.drop (litDec 4096 b).2.1, 0)

/-- A block read, or the rest of one. -/
def decAll (most bound : Nat) (s : St) (b : Bytes) (out : List Ln) (size : Nat) : St × Except Nat (List Ln) := decGo most bound b.length s b out size
end Go.E1

/-
 Lines, wherever they stand.
-/
namespace Go.E1
open Go Go.Proofs Go.M
set_option linter.unusedSimpArgs false

def lineV (f : Fld) (never : Bool) : Value := .agg #[.string f.1, .string f.2, .bool never]
def lc (x : Ln) : List Value := [.string x.f.1, .string x.f.2, .bool x.never]
def lcells (l : List Ln) : List Value := l.flatMap fun x => [.string x.f.1, .string x.f.2, .bool x.never]
theorem lcells_len (l : List Ln) : (lcells l).length = l.length * 3 := by
 induction l with
 | nil => rfl
 | cons p l ih => simp only [lcells, List.flatMap_cons, List.length_append, List.length_cons, List.length_nil] at ih ⊢; omega
theorem lcells_append (a b : List Ln) : lcells (a ++ b) = lcells a ++ lcells b := by simp [lcells, List.flatMap_append]

theorem lcells_get {l : List Ln} {i : Nat} {e : Ln} (hi : l[i]? = some e) : ((lcells l).drop (i * 3)).take 3 = [.string e.f.1, .string e.f.2, .bool e.never] := by
 have hlt : i < l.length := by
  rcases Nat.lt_or_ge i l.length with q | q
  ·exact q
  ·simp [List.getElem?_eq_none q] at hi
 have h1 : l = l.take i ++ e :: l.drop (i + 1) := by
  rw [List.getElem?_eq_getElem hlt] at hi
  rw [← Option.some.inj hi, List.getElem_cons_drop, List.take_append_drop]
 have h2 : ((lcells (l.take i ++ e :: l.drop (i + 1))).drop ((l.take i).length * 3)).take 3 = [.string e.f.1, .string e.f.2, .bool e.never] := by
  rw [lcells_append, ← lcells_len, List.drop_left]
  rfl
 rw [← h1, List.length_take, Nat.min_eq_left (by omega)] at h2
 exact h2

/-- Lines, wherever they stand. -/
def LS0 (h : LHeap) (v : Value) (l : List Ln) : Prop := (l = [] ∧ v = .slice none 0 0) ∨ ∃ b cs t r, v = .slice (some ⟨b, 0, none⟩) l.length 3 ∧ b < h.size ∧ h.get b = some (.cells cs t r) ∧ cs = lcells l
theorem LS0.len {q : EqF} {h hh : LHeap} {v : Value} {l : List Ln} (ho : LS0 hh v l) : lexec q (.lenS v) h = some (.int .i64 l.length, h) := by
 rcases ho with ⟨rfl, rfl⟩ | ⟨b, _, _, _, rfl, _⟩ <;> rfl
theorem LS0.ext {h h' : LHeap} {v : Value} {l : List Ln} (s : LS0 h v l) (X : Ext h h') : LS0 h' v l := by
 rcases s with h1 | ⟨b, cs, t, r, h1, h2, h3, h4⟩
 ·exact .inl h1
 ·exact .inr ⟨b, cs, t, r, h1, Nat.lt_of_lt_of_le h2 X.size, by rw [X.get b h2]; exact h3, h4⟩

theorem LS0.at {h : LHeap} {v : Value} {l : List Ln} (S : LS0 h v l) {i : Nat} (hi : i < l.length) : ∃ b x t r, v = .slice (some ⟨b, 0, none⟩) l.length 3 ∧ b < h.size ∧ h.get b = some (.cells (lcells l) t r) ∧ l[i]? = some x ∧ ((lcells l).drop (i * 3)).take 3 = [.string x.f.1, .string x.f.2, .bool x.never] := by
 rcases S with ⟨rfl, _⟩ | ⟨b, cs, t, r, h1, h2, h3, rfl⟩
 ·simp at hi
 ·have : l[i]? = some l[i] := by simp
  exact ⟨b, l[i], t, r, h1, h2, h3, this, lcells_get this⟩

end Go.E1

/-
 Lists that were gathered, of whatever cells.
-/
namespace Go.E1
open Go Go.Proofs Go.M
set_option linter.unusedSimpArgs false

/-- The block of a slice. -/
def blkOf : Value → Option Nat
 | .slice (some a) _ _ => some a.block
 | _ => none
@[simp] theorem blkOf_nil (n E : Nat) : blkOf (.slice none n E) = none := rfl
@[simp] theorem blkOf_some (a : Addr) (n E : Nat) : blkOf (.slice (some a) n E) = some a.block := rfl

/-- So many cells each, none of them of more than one. -/
structure Cel {α : Type} (k : Nat) (c : α → List Value) : Prop where
 len : ∀ x, (c x).length = k
 one : ∀ x, oneCells (c x) = true
 pos : 0 < k

theorem one_append {a b : List Value} (ha : oneCells a = true) (hb : oneCells b = true) : oneCells (a ++ b) = true := by
 unfold oneCells at *
 rw [List.all_append, ha, hb]; rfl
theorem Cel.flat_one {α : Type} {k : Nat} {c : α → List Value} (C : Cel k c) : ∀ l : List α, oneCells (l.flatMap c) = true
 | [] => rfl
 | x :: l => by
  rw [List.flatMap_cons]
  exact one_append (C.one x) (C.flat_one l)
theorem Cel.flat_len {α : Type} {k : Nat} {c : α → List Value} (C : Cel k c) : ∀ l : List α, (l.flatMap c).length = l.length * k
 | [] => by simp
 | x :: l => by
  rw [List.flatMap_cons, List.length_append, C.len, C.flat_len l, List.length_cons, Nat.add_mul]; omega
theorem Cel.get {α : Type} {k : Nat} {c : α → List Value} (C : Cel k c) {l : List α} {i : Nat} {x : α} (hi : l[i]? = some x) : ((l.flatMap c).drop (i * k)).take k = c x ∧ i * k + k ≤ (l.flatMap c).length := by
 have hlt : i < l.length := by
  rcases Nat.lt_or_ge i l.length with q | q
  ·exact q
  ·simp [List.getElem?_eq_none q] at hi
 have h1 : l = l.take i ++ x :: l.drop (i + 1) := by
  rw [List.getElem?_eq_getElem hlt] at hi
  rw [← Option.some.inj hi, List.getElem_cons_drop, List.take_append_drop]
 have h2 : (((l.take i ++ x :: l.drop (i + 1)).flatMap c).drop ((l.take i).length * k)).take k = c x := by
  rw [List.flatMap_append, ← C.flat_len, List.drop_left, List.flatMap_cons, ← C.len x, List.take_left]
 rw [← h1, List.length_take, Nat.min_eq_left (by omega)] at h2
 refine ⟨h2, ?_⟩
 rw [C.flat_len, ← Nat.succ_mul]
 exact Nat.mul_le_mul_right _ hlt
theorem Cel.cell {α : Type} {k : Nat} {c : α → List Value} (C : Cel k c) {l : List α} {i j : Nat} {x : α} (hi : l[i]? = some x) (hj : j < k) : (l.flatMap c)[i * k + j]? = (c x)[j]? := by
 obtain ⟨h1, h2⟩ := C.get hi
 rw [← h1, List.getElem?_take_of_lt hj, List.getElem?_drop]

/-- A list that was gathered: its cells. -/
def GL {α : Type} (k : Nat) (c : α → List Value) (h : LHeap) (v : Value) (l : List α) : Prop :=
 (l = [] ∧ v = .slice none 0 0) ∨ ∃ b, v = .slice (some ⟨b, 0, none⟩) l.length k ∧ b < h.size ∧ h.get b = some (.cells (l.flatMap c) true true)
theorem GL.nil {α : Type} {k : Nat} {c : α → List Value} {h : LHeap} : GL k c h (.slice none 0 0) ([] : List α) := .inl ⟨rfl, rfl⟩
theorem GL.blk {α : Type} {k : Nat} {c : α → List Value} {h : LHeap} {v : Value} {l : List α} (g : GL k c h v l) {x : Nat} (hx : blkOf v = some x) : x < h.size ∧ v = .slice (some ⟨x, 0, none⟩) l.length k ∧ h.get x = some (.cells (l.flatMap c) true true) := by
 rcases g with ⟨_, rfl⟩ | ⟨b, rfl, h2, h3⟩
 ·cases hx
 ·cases hx; exact ⟨h2, rfl, h3⟩
theorem GL.move {α : Type} {k : Nat} {c : α → List Value} {h h' : LHeap} {v : Value} {l : List α} (g : GL k c h v l) (hs : h.size ≤ h'.size) (hg : ∀ x, blkOf v = some x → h'.get x = h.get x) : GL k c h' v l := by
 rcases g with h1 | ⟨b, rfl, h2, h3⟩
 ·exact .inl h1
 ·exact .inr ⟨b, rfl, by omega, by rw [hg b rfl]; exact h3⟩
theorem GL.ext {α : Type} {k : Nat} {c : α → List Value} {h h' : LHeap} {v : Value} {l : List α} (g : GL k c h v l) (X : Ext h h') : GL k c h' v l :=
 g.move X.size fun x hx => X.get x (g.blk hx).1
theorem GL.len {α : Type} {k : Nat} {c : α → List Value} {q : EqF} {h hh : LHeap} {v : Value} {l : List α} (g : GL k c hh v l) : lexec q (.lenS v) h = some (.int .i64 l.length, h) := by
 rcases g with ⟨rfl, rfl⟩ | ⟨b, rfl, _⟩ <;> rfl
theorem GL.at {α : Type} {k : Nat} {c : α → List Value} {h : LHeap} {v : Value} {l : List α} (g : GL k c h v l) {i : Nat} {x : α} (hx : l[i]? = some x) : ∃ b, v = .slice (some ⟨b, 0, none⟩) l.length k ∧ b < h.size ∧ h.get b = some (.cells (l.flatMap c) true true) := by
 rcases g with ⟨rfl, _⟩ | h1
 ·simp at hx
 ·exact h1

theorem gl_append {α : Type} {k by' : Nat} {c : α → List Value} (C : Cel k c) {q : EqF} {hh : LHeap} {v : Value} {l : List α} (g : GL k c hh v l) (x : α) (hn : l.length < 1000000) (hb : by' ≤ 1000) :
  ∃ v' hh', lexec q (.append k by' v (.slice (some ⟨hh.size, 0, none⟩) 1 k)) (hh.push (.cells (c x) true true)) = some (v', hh') ∧ GL k c hh' v' (l ++ [x]) ∧ hh.size ≤ hh'.size ∧
   (∀ b, b < hh.size → blkOf v ≠ some b → hh'.get b = hh.get b) ∧ (∀ b, blkOf v' = some b → hh.size ≤ b) := by
 have hm : (l.length + 1) * by' ≤ 1000000 * 1000 := Nat.mul_le_mul (by omega) hb
 have hr : roomOk (l.length + 1) by' = true := by
  simp only [roomOk, Bool.and_eq_true, decide_eq_true_eq]
  omega
 have hf : (hh.push (.cells (c x) true true)).firstCells k (.slice (some ⟨hh.size, 0, none⟩) 1 k) = some (1, c x) := by
  rw [first_some (cs := c x) (t := true) (r := true) (by simp) (by rw [C.len]; omega) (by simp), List.drop_zero, Nat.one_mul]
  rw [← C.len x, List.take_length]
 rcases g with ⟨rfl, rfl⟩ | ⟨b, rfl, h3, h4⟩
 ·refine ⟨_, _, x_append_none hf (by simp) (C.one x) (by simpa using hr), .inr ⟨hh.size + 1, by simp, by simp, by simp⟩, by simp; omega, ?_, ?_⟩
  ·intro i hi _
   simp [show i ≠ hh.size + 1 by omega, show i ≠ hh.size by omega]
  ·intro b he
   simp only [LHeap.size_push, blkOf_some, Option.some.injEq] at he
   omega
 ·have hbn : b ≠ hh.size := by omega
  refine ⟨_, _, x_append_some (cs := l.flatMap c) (r := true) hf (by simp) (by simp [hbn, h4]) (by rw [C.flat_len]; omega) (C.one x) hr, .inr ⟨hh.size + 1, by simp, by simp, by simp⟩, by simp; omega, ?_, ?_⟩
  ·intro i hi hno
   have : i ≠ b := fun h => hno (by rw [h]; rfl)
   simp [show i ≠ hh.size + 1 by omega, show i ≠ hh.size by omega, this]
  ·intro b he
   simp only [LHeap.size_push, LHeap.size_set, blkOf_some, Option.some.injEq] at he
   omega

end Go.E1

/-
 Slices of bytes, joined.
-/
namespace Go.E1
open Go Go.Proofs Go.M
set_option linter.unusedSimpArgs false

theorem bv_ones (l : Bytes) : oneCells (bv l) = true := by
 simp only [oneCells, bv, List.all_map]
 exact List.all_eq_true.2 fun x _ => rfl
theorem bv_append (a b : Bytes) : bv (a ++ b) = bv a ++ bv b := by simp [bv]
theorem BytesAt.len {q : EqF} {h hh : LHeap} {v : Value} {l : Bytes} (a : BytesAt hh v l) : lexec q (.lenS v) h = some (.int .i64 l.length, h) := by
 rcases a with ⟨rfl, c, rfl⟩ | ⟨b, o, cs, t, r, rfl, _⟩ <;> rfl
theorem BytesAt.first {h : LHeap} {v : Value} {l : Bytes} (a : BytesAt h v l) : h.firstCells 1 v = some (l.length, bv l) := by
 rcases a with ⟨rfl, c, rfl⟩ | ⟨b, o, cs, t, r, rfl, h0, h1, h2, h3⟩
 ·rfl
 ·by_cases h0 : l.length = 0
  ·obtain rfl : l = [] := List.length_eq_zero_iff.1 h0
   simp [LHeap.firstCells, bv]
  ·rw [first_some h1 (by omega) h0, Nat.mul_one, h3]
theorem out_cat {q : EqF} {hh : LHeap} {lo : Nat} {v w : Value} {out l : Bytes} (h : OutAt hh lo v out) (hlo : lo ≤ hh.size) (hw : hh.firstCells 1 w = some (l.length, bv l)) (hn : out.length + l.length ≤ 1000000000) :
  ∃ v' hh', lexec q (.append 1 1 v w) hh = some (v', hh') ∧ OutAt hh' lo v' (out ++ l) ∧ Low lo hh hh' ∧ (∀ b, b < hh.size → blkOf v ≠ some b → hh'.get b = hh.get b) ∧ (∀ b, blkOf v' = some b → blkOf v = some b ∨ hh.size ≤ b) := by
 by_cases h0 : l.length = 0
 ·obtain rfl : l = [] := List.length_eq_zero_iff.1 h0
  refine ⟨v, hh, ?_, by simpa using h, Low.refl _ _, fun b _ _ => rfl, fun b hb => .inl hb⟩
  rcases h with ⟨rfl, rfl⟩ | ⟨b, rfl, h1, h2, h3⟩
  ·exact x_append_zero (c := 0) hw
  ·have e1 : oneCells (bv []) = true := rfl
   have e2 : roomOk (out.length + 0) 1 = true := by simp only [roomOk, Bool.and_eq_true, decide_eq_true_eq]; omega
   simp only [List.length_nil] at hw
   simp [lexec, hw, e1, e2, h3, bv_len]
   simpa using e2
 ·have hr : ∀ k, k ≤ 1000000000 → roomOk k 1 = true := fun k hk => by simp only [roomOk, Bool.and_eq_true, decide_eq_true_eq]; omega
  rcases h with ⟨rfl, rfl⟩ | ⟨b, rfl, h1, h2, h3⟩
  ·refine ⟨_, _, x_append_none hw h0 (bv_ones l) (hr _ (by omega)), .inr ⟨hh.size, rfl, hlo, by simp, by simp⟩, ⟨by simp, fun i hi => by simp [show i ≠ hh.size by omega]⟩, fun b hb _ => by simp [show b ≠ hh.size by omega], fun b hb => .inr (by simp only [blkOf_some, Option.some.injEq] at hb; omega)⟩
  ·refine ⟨_, _, x_append_some hw h0 h3 (by rw [bv_len]; omega) (bv_ones l) (hr _ hn), .inr ⟨hh.size, by rw [List.length_append], hlo, by simp, by simp [bv_append]⟩, ⟨by simp, fun i hi => by simp [show i ≠ hh.size by omega, show i ≠ b by omega]⟩, fun i hi hne => by simp [show i ≠ hh.size by omega, show i ≠ b from fun h => hne (by rw [h]; rfl)], fun b hb => .inr (by simp only [blkOf_some, Option.some.injEq] at hb; omega)⟩
theorem Ext.low {h h2 h' : LHeap} {lo : Nat} (X : Ext h h2) (L : Low lo h2 h') (hl : h.size ≤ lo) : Ext h h' :=
 ⟨Nat.le_trans X.size L.size, fun b hb => (L.get b (Nat.lt_of_lt_of_le hb hl)).trans (X.get b hb)⟩

/-- Slices of bytes. -/
def BLB (h : LHeap) (v : Value) (ls : List Bytes) : Prop := (ls = [] ∧ v = .slice none 0 0) ∨ ∃ b vs t r, v = .slice (some ⟨b, 0, none⟩) ls.length 1 ∧ b < h.size ∧ h.get b = some (.cells vs t r) ∧ vs.length = ls.length ∧ ∀ (i : Nat) (u : Value) (l : Bytes), vs[i]? = some u → ls[i]? = some l → BytesAt h u l
theorem BLB.len {q : EqF} {h hh : LHeap} {v : Value} {ls : List Bytes} (a : BLB hh v ls) : lexec q (.lenS v) h = some (.int .i64 ls.length, h) := by
 rcases a with ⟨rfl, rfl⟩ | ⟨b, _, _, _, rfl, _⟩ <;> rfl
theorem BLB.ext {h h' : LHeap} {v : Value} {ls : List Bytes} (a : BLB h v ls) (X : Ext h h') : BLB h' v ls := by
 rcases a with h1 | ⟨b, vs, t, r, h1, h2, h3, h4, h5⟩
 ·exact .inl h1
 ·exact .inr ⟨b, vs, t, r, h1, Nat.lt_of_lt_of_le h2 X.size, by rw [X.get b h2]; exact h3, h4, fun i u l a b => (h5 i u l a b).ext X⟩
theorem BLB.at {h : LHeap} {v : Value} {ls : List Bytes} (B : BLB h v ls) {i : Nat} (hi : i < ls.length) : ∃ b vs t r u l, v = .slice (some ⟨b, 0, none⟩) ls.length 1 ∧ b < h.size ∧ h.get b = some (.cells vs t r) ∧ vs[i]? = some u ∧ ls[i]? = some l ∧ BytesAt h u l := by
 rcases B with ⟨rfl, _⟩ | ⟨b, vs, t, r, h1, h2, h3, h4, h5⟩
 ·simp at hi
 ·exact ⟨b, vs, t, r, vs[i]'(by omega), ls[i], h1, h2, h3, by simp, by simp, h5 i _ _ (by simp) (by simp)⟩

/-- A list of slices, being gathered. -/
abbrev SlT := Option Addr × Nat × Nat
end Go.E1

/-
 Layer 1: numbers in bytes; what reads bytes.
-/
namespace Go.M
open Go.E1
def big (l : Bytes) : Nat := l.foldl (fun n c => n * 256 + c.toNat) 0
end Go.M
namespace Go.E1
open Go Go.Proofs Go.M
set_option linter.unusedSimpArgs false

/-! ### Parts of bytes -/
theorem ba_lohi {q : EqF} {h : LHeap} {v : Value} {l : Bytes} (hv : BytesAt h v l) {i j : Nat} (hij : i ≤ j) (hj : j ≤ l.length) {k k' : IntKind} :
  ∃ w, (∀ hh : LHeap, lexec q (.slice 1 v (some (.int k (i : Nat))) (some (.int k' (j : Nat))) none) hh = some (w, hh)) ∧ BytesAt h w ((l.drop i).take (j - i)) ∧ ∀ b, blkOf w = some b → blkOf v = some b := by
 rcases hv with ⟨rfl, c, rfl⟩ | ⟨b, o, cs, t, r, rfl, h1, h2, h3, h4⟩
 ·simp only [List.length_nil] at hj
  obtain rfl : j = 0 := by omega
  obtain rfl : i = 0 := by omega
  exact ⟨.slice none 0 c, fun hh => x_slice_lohi_nil, .inl ⟨rfl, c, rfl⟩, fun b hb => hb⟩
 ·refine ⟨_, fun hh => x_slice_lohi hij hj, .inr ⟨b, o + i * 1, cs, t, r, by rw [List.length_take, List.length_drop, Nat.min_eq_left (by omega)], h1, h2, ?_, ?_⟩, fun b hb => hb⟩
  ·rw [List.length_take, List.length_drop]; omega
  ·rw [List.length_take, List.length_drop, Nat.min_eq_left (by omega), Nat.mul_one]
   exact bytes_sub h4 i (j - i) (by omega)
/-! ### Numbers -/
theorem or_nat {k : IntKind} {a c : Nat} (ha : a < 2 ^ k.bits) (hc : c < 2 ^ k.bits) : orI k (a : Int) (c : Int) = k.wrap ((a ||| c : Nat) : Int) := by
 have e : ∀ x : Nat, BitVec.ofInt k.bits (x : Int) = BitVec.ofNat k.bits x := fun x => by simp
 unfold orI
 rw [e, e]
 congr 2
 simp only [BitVec.toNat_or, BitVec.toNat_ofNat]
 rw [Nat.mod_eq_of_lt ha, Nat.mod_eq_of_lt hc]
end Go.E1
