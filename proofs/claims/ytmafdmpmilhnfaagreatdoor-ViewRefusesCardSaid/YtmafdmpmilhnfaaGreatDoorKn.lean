/-
  Texts joined: M07, SpA, SpB, SpC, SpD, Str, Pl, Lns, GL, Cat.
-/
import Derived.Test.YtmafdmpmilhnfaaGreatDoorKs
import Derived.Test.YtmafdmpmilhnfaaGreatDoorKe
/-
 Layers 2, 3, 4, 6, 7: what they reckon, in plain Lean.
-/
namespace Go.M
open Go.E1

abbrev Bytes := List UInt8
abbrev Fld := ByteArray × ByteArray

/-! ### Numbers behind some bits -/
def pfxGo : Nat → Nat → Bytes → Nat × Nat × Nat
 | _, _, [] => (0, 0, 16)
 | i, n, c :: r => if 5 ≤ i then (0, 0, 22) else
  if 2147483647 < n + c.toNat % 128 * 2 ^ (7 * i) then (0, 0, 22) else
  if c.toNat < 128 then (n + c.toNat % 128 * 2 ^ (7 * i), i + 2, 0) else pfxGo (i + 1) (n + c.toNat % 128 * 2 ^ (7 * i)) r

def pfx (bits : Nat) : Bytes → Nat × Nat × Nat
 | [] => (0, 0, 16)
 | c :: r => if c.toNat % 2 ^ bits < 2 ^ bits - 1 then (c.toNat % 2 ^ bits, 1, 0) else pfxGo 0 (c.toNat % 2 ^ bits) r

theorem pfxGo_used : ∀ (i n : Nat) (l : Bytes), (pfxGo i n l).2.2 = 0 → (pfxGo i n l).2.1 ≤ l.length + i + 1 ∧ 2 ≤ (pfxGo i n l).2.1 ∧ (pfxGo i n l).1 ≤ 2147483647
 | i, n, [] => by simp [pfxGo]
 | i, n, c :: r => by
  simp only [pfxGo]
  split
  ·simp
  ·split
   ·simp
   ·split
    ·intro _; simp; omega
    ·intro h
     have := pfxGo_used (i + 1) _ r h
     simp only [List.length_cons]
     omega
theorem pfx_used (bits : Nat) (l : Bytes) (h : (pfx bits l).2.2 = 0) : (pfx bits l).2.1 ≤ l.length ∧ 1 ≤ (pfx bits l).2.1 ∧ (pfx bits l).1 ≤ 2147483647 := by
 cases l with
 | nil => simp [pfx] at h
 | cons c r =>
  simp only [pfx] at h ⊢
  have hc := c.toNat_lt
  split
  ·refine ⟨by simp, Nat.le_refl _, ?_⟩
   have : c.toNat % 2 ^ bits ≤ c.toNat := Nat.mod_le _ _
   simp only; omega
  ·rename_i hn
   rw [if_neg hn] at h
   have := pfxGo_used 0 _ r h
   simp only [List.length_cons]
   omega
theorem pfxGo_err : ∀ (i n : Nat) (l : Bytes), (pfxGo i n l).2.2 = 0 ∨ ((pfxGo i n l).1 = 0 ∧ (pfxGo i n l).2.1 = 0)
 | i, n, [] => by simp [pfxGo]
 | i, n, c :: r => by
  simp only [pfxGo]
  split
  ·simp
  ·split
   ·simp
   ·split
    ·simp
    ·exact pfxGo_err (i + 1) _ r
theorem pfx_err (bits : Nat) (l : Bytes) : (pfx bits l).2.2 = 0 ∨ ((pfx bits l).1 = 0 ∧ (pfx bits l).2.1 = 0) := by
 cases l with
 | nil => simp [pfx]
 | cons c r =>
  simp only [pfx]
  split
  ·simp
  ·exact pfxGo_err _ _ _

/-! ### The code -/
def cntAt (n : Nat) : Nat := huffCount.getD n 0
def fstAt (n : Nat) : Nat := huffFirst.getD n 0
def begAt (n : Nat) : Nat := huffBegins.getD n 0
def ordAt (n : Nat) : Nat := sortedSymbols.getD n 0

def symOf (code n : Nat) : Option Nat :=
 if n ≤ 30 ∧ 0 < cntAt n ∧ fstAt n ≤ code ∧ code - fstAt n < cntAt n then some (ordAt (begAt n + (code - fstAt n))) else none

def huffGo : List Bool → Nat → Nat → Bool → Bytes → Except Nat Bytes
 | [], _, n, ones, out => if 7 < n ∨ ones = false then .error 20 else .ok out
 | bit :: bs, code, n, ones, out => match symOf (2 * code + bit.toNat) (n + 1) with
  | none => huffGo bs (2 * code + bit.toNat) (n + 1) (ones && bit) out
  | some x => if x = 256 then .error 21 else huffGo bs 0 0 true (out ++ [UInt8.ofNat x])

def bits8 (c : UInt8) : List Bool := [c.toNat.testBit 7, c.toNat.testBit 6, c.toNat.testBit 5, c.toNat.testBit 4, c.toNat.testBit 3, c.toNat.testBit 2, c.toNat.testBit 1, c.toNat.testBit 0]
def bitsOf (l : Bytes) : List Bool := l.flatMap bits8
def huffDec (l : Bytes) : Except Nat Bytes := huffGo (bitsOf l) 0 0 true []

/-- The least number of so many bits that no code of at most so many bits begins. -/
def nxt : Nat → Nat
 | 0 => 0
 | n + 1 => 2 * nxt n + cntAt (n + 1)

/-! ### Texts -/
def litDec (limit : Nat) (b : Bytes) : Bytes × Nat × Nat :=
 if (pfx 7 b).2.2 ≠ 0 then ([], 0, (pfx 7 b).2.2) else
 if b.length - (pfx 7 b).2.1 < (pfx 7 b).1 then ([], 0, 16) else
 match (if 128 ≤ (b.headD 0).toNat then huffDec ((b.drop (pfx 7 b).2.1).take (pfx 7 b).1) else .ok ((b.drop (pfx 7 b).2.1).take (pfx 7 b).1)) with
 | .error e => ([], 0, e)
 | .ok s => if limit < s.length then ([], 0, 22) else (s, (pfx 7 b).2.1 + (pfx 7 b).1, 0)

/-! ### The table that moves: the oldest first -/
def fsz (f : Fld) : Nat := f.1.size + f.2.size + 32
def tsz (l : List Fld) : Nat := (l.map fsz).sum

def shrinkL (most : Int) : List Fld → List Fld
 | [] => []
 | e :: l => if most < (tsz (e :: l) : Int) then shrinkL most l else e :: l

def addL (limit : Nat) (l : List Fld) (f : Fld) : List Fld :=
 if fsz f ≤ limit then shrinkL ((limit : Int) - fsz f) l ++ [f] else shrinkL ((limit : Int) - fsz f) l

theorem tsz_shrink (most : Int) : ∀ l : List Fld, (tsz (shrinkL most l) : Int) ≤ most ∨ shrinkL most l = []
 | [] => .inr rfl
 | e :: l => by
  simp only [shrinkL]
  split
  ·exact tsz_shrink most l
  ·exact .inl (by omega)

/-! ### Blocks -/
structure St where
 L : List Fld
 limit : Nat

structure Ln where
 f : Fld
 never : Bool

def entryOf (s : St) (i : Nat) : Option Fld :=
 if i = 0 then none else if i ≤ 61 then some (Go.E1.ent (i - 1)) else s.L.reverse[i - 62]?

def toBA (l : Bytes) : ByteArray := ⟨l.toArray⟩

/-- What a form's first byte says: how many bits its number has. -/
def kbits (c : UInt8) : Nat := if 128 ≤ c.toNat then 7 else if 64 ≤ c.toNat then 6 else if 32 ≤ c.toNat then 5 else 4

inductive Out where
 | fail (e : Nat)
 | none
 | line (x : Ln)

/-- A field behind its number: it, what stands behind it, an error's number. -/
def fieldOf (s : St) (indexed : Bool) (n : Nat) (b : Bytes) : Fld × Bytes × Nat :=
 if 0 < n ∨ indexed = true then
  match entryOf s n with
  | .none => ((⟨#[]⟩, ⟨#[]⟩), [], 23)
  | some f => if indexed = true then (f, b, 0) else
   if (litDec 4096 b).2.2 ≠ 0 then ((⟨#[]⟩, ⟨#[]⟩), [], (litDec 4096 b).2.2) else ((f.1, toBA (litDec 4096 b).1), b.drop (litDec 4096 b).2.1, 0)
 else
  if (litDec 4096 b).2.2 ≠ 0 then ((⟨#[]⟩, ⟨#[]⟩), [], (litDec 4096 b).2.2) else
  if (litDec 4096 (b.drop (litDec 4096 b).2.1)).2.2 ≠ 0 then ((⟨#[]⟩, ⟨#[]⟩), [], (litDec 4096 (b.drop (litDec 4096 b).2.1)).2.2) else
   ((toBA (litDec 4096 b).1, toBA (litDec 4096 (b.drop (litDec 4096 b).2.1)).1), (b.drop (litDec 4096 b).2.1).drop (litDec 4096 (b.drop (litDec 4096 b).2.1)).2.1, 0)

/-- One form: the table then, what stands behind it, what it is. -/
def form (most : Nat) (s : St) (first : Bool) (c : UInt8) (b : Bytes) : St × Bytes × Out :=
 if (pfx (kbits c) b).2.2 ≠ 0 then (s, [], .fail (pfx (kbits c) b).2.2) else
 if 32 ≤ c.toNat ∧ c.toNat < 64 then
  if first = false ∨ most < (pfx (kbits c) b).1 then (s, [], .fail 24) else
   (⟨shrinkL (pfx (kbits c) b).1 s.L, (pfx (kbits c) b).1⟩, b.drop (pfx (kbits c) b).2.1, .none)
 else
  if (fieldOf s (decide (128 ≤ c.toNat)) (pfx (kbits c) b).1 (b.drop (pfx (kbits c) b).2.1)).2.2 ≠ 0 then
   (s, [], .fail (fieldOf s (decide (128 ≤ c.toNat)) (pfx (kbits c) b).1 (b.drop (pfx (kbits c) b).2.1)).2.2)
  else
   (if 64 ≤ c.toNat ∧ c.toNat < 128 then ⟨addL s.limit s.L (fieldOf s (decide (128 ≤ c.toNat)) (pfx (kbits c) b).1 (b.drop (pfx (kbits c) b).2.1)).1, s.limit⟩ else s,
    (fieldOf s (decide (128 ≤ c.toNat)) (pfx (kbits c) b).1 (b.drop (pfx (kbits c) b).2.1)).2.1,
    .line ⟨(fieldOf s (decide (128 ≤ c.toNat)) (pfx (kbits c) b).1 (b.drop (pfx (kbits c) b).2.1)).1, decide (16 ≤ c.toNat ∧ c.toNat < 32)⟩)

/-- A block, form by form. -/
def decGo (most bound : Nat) : Nat → St → Bytes → List Ln → Nat → St × Except Nat (List Ln)
 | 0, s, _, out, _ => (s, .ok out)
 | _ + 1, s, [], out, _ => (s, .ok out)
 | k + 1, s, c :: b, out, size => match form most s out.isEmpty c (c :: b) with
  | (s', _, .fail e) => (s', .error e)
  | (s', r, .none) => decGo most bound k s' r out size
  | (s', r, .line x) => if bound < size + fsz x.f then (s', .error 22) else decGo most bound k s' r (out ++ [x]) (size + fsz x.f)

structure Dec where
 st : St
 dead : Bool

def decode (most bound : Nat) (d : Dec) (b : Bytes) : Dec × Except Nat (List Ln) :=
 if d.dead then (d, .error 25) else
 match decGo most bound b.length d.st b [] 0 with
 | (s, .ok l) => (⟨s, false⟩, .ok l)
 | (s, .error e) => (⟨s, true⟩, .error e)

end Go.M

/-
 Layers 2, 3, 4: what their functions answer, over slices of bytes.
-/
namespace Go.E1
open Go Go.Proofs Go.M
set_option linter.unusedSimpArgs false

def bv (l : Bytes) : List Value := l.map fun b => .int .u8 b.toNat
theorem bv_len (l : Bytes) : (bv l).length = l.length := by simp [bv]

/-- A slice holds these bytes. -/
def BytesAt (h : LHeap) (v : Value) (l : Bytes) : Prop :=
 (l = [] ∧ ∃ c, v = .slice none 0 c) ∨ ∃ b o cs t r, v = .slice (some ⟨b, o, none⟩) l.length 1 ∧ b < h.size ∧ h.get b = some (.cells cs t r) ∧ o + l.length ≤ cs.length ∧ (cs.drop o).take l.length = bv l

theorem bytes_get {cs : List Value} {o : Nat} {l : Bytes} (hl : (cs.drop o).take l.length = bv l) {i : Nat} {c : UInt8} (hi : l[i]? = some c) : cs[o + i]? = some (.int .u8 c.toNat) := by
 have h1 : ((cs.drop o).take l.length)[i]? = some (.int .u8 c.toNat) := by rw [hl]; simp [bv, hi]
 have hlt : i < l.length := by
  rcases Nat.lt_or_ge i l.length with q | q
  ·exact q
  ·simp [List.getElem?_eq_none q] at hi
 rw [List.getElem?_take, if_pos hlt, List.getElem?_drop] at h1
 exact h1

theorem BytesAt.ext {h h' : LHeap} {v : Value} {l : Bytes} (hv : BytesAt h v l) (hx : Ext h h') : BytesAt h' v l := by
 rcases hv with h1 | ⟨b, o, cs, t, r, h1, h2, h3, h4, h5⟩
 ·exact .inl h1
 ·exact .inr ⟨b, o, cs, t, r, h1, Nat.lt_of_lt_of_le h2 hx.size, by rw [hx.get b h2]; exact h3, h4, h5⟩

theorem and_full : (List.range 256).all (fun c => (List.range 9).all fun k => decide (andI .i64 (c : Nat) ((2 ^ k - 1 : Nat) : Int) = ((c % 2 ^ k : Nat) : Int))) = true := by kernel_rfl
theorem and_full' {c k : Nat} (hc : c < 256) (hk : k ≤ 8) : andI .i64 (c : Nat) ((2 ^ k - 1 : Nat) : Int) = ((c % 2 ^ k : Nat) : Int) := by
 have := all_range and_full hc
 have := all_range this (i := k) (by omega)
 exact of_decide_eq_true this

theorem sPfx {h : LHeap} {v : Value} {l : Bytes} (hv : BytesAt h v l) (hl : l.length < 4611686018427387904) {bits : Nat} (hb1 : 1 ≤ bits) (hb2 : bits ≤ 8) :
  LCalls EC 173 [v, .int .i64 bits] h fun u h' => u = .tuple #[.int .i64 (pfx bits l).1, .int .i64 (pfx bits l).2.1, .int .i64 (pfx bits l).2.2] ∧ h' = h := by
 refine LCalls.enter (lf := lf173) rfl rfl (by simp [lf173]) ?_
 have b1 : (1 : Int) ≤ (bits : Int) := by omega
 have b2 : (bits : Int) ≤ 8 := by omega
 have b3 : (0 : Int) ≤ (bits : Int) := by omega
 rcases hv with ⟨rfl, c, rfl⟩ | ⟨b, o, cs, t, r, rfl, hbs, hg, hle, hcs⟩
 ·simp only [go_sem, lf173, ↓reduceIte, b1, b2, b3, pfx]
 ·cases l with
  | nil => simp only [go_sem, lf173, ↓reduceIte, b1, b2, b3, pfx, List.length_nil]
  | cons c rest =>
   have hc := bytes_get hcs (i := 0) (c := c) rfl
   have hl0 : ¬ ((rest.length + 1 : Nat) : Int) = 0 := by omega
   have hl1 : (0 : Int) < ((rest.length + 1 : Nat) : Int) := by omega
   have e0 : (((rest.length + 1 : Nat) : Int) == 0) = false := by simp; omega
   have hcl := c.toNat_lt
   have hand := and_full' (c := c.toNat) (k := bits) (by omega) hb2
   have hcw : IntKind.i64.wrap (c.toNat : Int) = (c.toNat : Int) := IntWalk.i64_in _ (by omega)
   simp only [Nat.add_zero] at hc
   simp only [go_sem, lf173, ↓reduceIte, b1, b2, b3, List.length_cons, e0]
   refine MC.dregion ?_
   simp only [go_sem, ↓reduceIte, b1, b2, b3, hl1, hg, hc, hcw, hand]
   have hpow : 2 ^ bits ≤ 2 ^ 8 := Nat.pow_le_pow_right (by decide) hb2
   have hpow1 : 2 ≤ 2 ^ bits := (Nat.pow_le_pow_right (by decide) hb1 : 2 ^ 1 ≤ 2 ^ bits)
   have hmod : c.toNat % 2 ^ bits < 2 ^ bits := Nat.mod_lt _ (by omega)
   by_cases hsm : c.toNat % 2 ^ bits < 2 ^ bits - 1
   ·have hsm' : ((c.toNat % 2 ^ bits : Nat) : Int) < ((2 ^ bits - 1 : Nat) : Int) := by omega
    simp only [go_sem, ↓reduceIte, b1, b2, b3, hsm']
    simp only [pfx, hsm, if_true]
    simp
   ·have hsm' : ¬ ((c.toNat % 2 ^ bits : Nat) : Int) < ((2 ^ bits - 1 : Nat) : Int) := by omega
    simp only [go_sem, ↓reduceIte, b1, b2, b3, hsm']
    simp only [pfx, hsm, if_false]
    refine MC.loop (fun m fr hh => ∃ (i n : Nat), fr = [(0, .slice (some ⟨b, o, none⟩) (rest.length + 1) 1), (4, .int .i64 n), (7, .int .i64 i)] ∧ hh = h ∧ i ≤ 5 ∧ n ≤ 2147483647 ∧ m = 6 - i ∧
     pfxGo i n (rest.drop i) = pfxGo 0 (c.toNat % 2 ^ bits) rest) 6 ⟨0, _, rfl, rfl, by omega, by omega, rfl, rfl⟩ ?_
    rintro m fr hh J ⟨i, n, rfl, rfl, hi, hn, rfl, hgo⟩ hJ
    have w1 : IntKind.i64.wrap ((i : Int) + 1) = ((i + 1 : Nat) : Int) := by rw [IntWalk.i64_in _ (by omega)]; rfl
    by_cases hend : rest.length ≤ i
    ·have c1 : ((rest.length + 1 : Nat) : Int) ≤ ((i + 1 : Nat) : Int) := by omega
     rw [List.drop_eq_nil_of_le hend] at hgo
     simp only [pfxGo] at hgo
     simp only [go_sem, ↓reduceIte, w1, c1]
     rw [← hgo]
     simp
    ·have c1 : ¬ ((rest.length + 1 : Nat) : Int) ≤ ((i + 1 : Nat) : Int) := by omega
     obtain ⟨d, hd⟩ : ∃ d, rest[i]? = some d := ⟨rest[i], by simp [show i < rest.length by omega]⟩
     have hdrop : rest.drop i = d :: rest.drop (i + 1) := by
      rw [List.drop_eq_getElem_cons (by omega)]
      rw [List.getElem?_eq_getElem (by omega)] at hd
      rw [Option.some.inj hd]
     rw [hdrop] at hgo
     simp only [pfxGo] at hgo
     by_cases h5 : 5 ≤ i
     ·have c2 : (5 : Int) ≤ (i : Int) := by omega
      rw [if_pos h5] at hgo
      simp only [go_sem, ↓reduceIte, w1, c1, c2]
      rw [← hgo]
      simp
     ·have c2 : ¬ (5 : Int) ≤ (i : Int) := by omega
      rw [if_neg h5] at hgo
      have hdc := bytes_get hcs (i := i + 1) (c := d) (by simpa using hd)
      have hdl := d.toNat_lt
      have c3 : (0 : Int) ≤ ((i + 1 : Nat) : Int) := by omega
      have c4 : ((i + 1 : Nat) : Int) < ((rest.length + 1 : Nat) : Int) := by omega
      have w2 : IntKind.i64.wrap (d.toNat : Int) = (d.toNat : Int) := IntWalk.i64_in _ (by omega)
      have w3 : IntKind.i64.wrap (7 * (i : Int)) = ((7 * i : Nat) : Int) := by rw [IntWalk.i64_in _ (by omega)]; omega
      have c5 : ¬ ((7 * i : Nat) : Int) < 0 := by omega
      have hp : 2 ^ (7 * i) ≤ 2 ^ 28 := Nat.pow_le_pow_right (by decide) (by omega)
      have hq : d.toNat % 128 * 2 ^ (7 * i) ≤ 127 * 2 ^ 28 := Nat.mul_le_mul (by omega) hp
      have w4 : (d.toNat : Int).tmod 128 = ((d.toNat % 128 : Nat) : Int) := rfl
      have w5 : shlI .i64 ((d.toNat % 128 : Nat) : Int) ((7 * i : Nat) : Int) = ((d.toNat % 128 * 2 ^ (7 * i) : Nat) : Int) := by
       unfold shlI
       have : min ((7 * i : Nat) : Int).toNat IntKind.i64.bits = 7 * i := by
        simp only [Int.toNat_natCast]
        exact Nat.min_eq_left (by show 7 * i ≤ 64; omega)
       rw [this]
       have e : ((d.toNat % 128 : Nat) : Int) * 2 ^ (7 * i) = ((d.toNat % 128 * 2 ^ (7 * i) : Nat) : Int) := by push_cast; rfl
       rw [e, IntWalk.i64_in _ (by omega)]
      have w6 : IntKind.i64.wrap ((n : Int) + ((d.toNat % 128 * 2 ^ (7 * i) : Nat) : Int)) = ((n + d.toNat % 128 * 2 ^ (7 * i) : Nat) : Int) := by rw [IntWalk.i64_in _ (by omega)]; omega
      simp only [go_sem, ↓reduceIte, w1, c1, c2, c3, c4, hg, hdc, w2, w3, w4, c5, w5, w6]
      by_cases h6 : 2147483647 < n + d.toNat % 128 * 2 ^ (7 * i)
      ·have c6 : (2147483647 : Int) < ((n + d.toNat % 128 * 2 ^ (7 * i) : Nat) : Int) := by omega
       rw [if_pos h6] at hgo
       simp only [go_sem, ↓reduceIte, c6]
       rw [← hgo]
       simp
      ·have c6 : ¬ (2147483647 : Int) < ((n + d.toNat % 128 * 2 ^ (7 * i) : Nat) : Int) := by omega
       rw [if_neg h6] at hgo
       by_cases h7 : d.toNat < 128
       ·have c7 : (d.toNat : Int) < 128 := by omega
        have w7 : IntKind.i64.wrap ((i : Int) + 2) = ((i + 2 : Nat) : Int) := by rw [IntWalk.i64_in _ (by omega)]; rfl
        rw [if_pos h7] at hgo
        simp only [go_sem, ↓reduceIte, c6, c7, w7]
        rw [← hgo]
        simp
       ·have c7 : ¬ (d.toNat : Int) < 128 := by omega
        rw [if_neg h7] at hgo
        simp only [go_sem, ↓reduceIte, c6, c7, w1]
        exact hJ (6 - (i + 1)) _ _ (by omega) ⟨i + 1, _, rfl, rfl, by omega, by omega, rfl, hgo⟩
end Go.E1

/-
 Layer 2: the code, read.
-/
namespace Go.E1
open Go Go.Proofs Go.M
set_option linter.unusedSimpArgs false

/-! ### The tables -/
noncomputable def isAt (n : Nat) (v : Value) : Bool := match nthR coder1 n with
 | some u => veq u v
 | none => false
theorem isAt_eq {n : Nat} {v : Value} (h : isAt n v = true) : coder1[n]? = some v := by
 unfold isAt at h
 split at h
 ·rename_i u hu
  rw [nthR_eq] at hu
  rw [hu, veq_eq _ _ h]
 ·cases h
theorem tabFirst : (List.range 31).all (fun n => isAt (518 + n) (.int .u32 (fstAt n)) && isAt (549 + n) (.int .i64 (cntAt n)) && isAt (580 + n) (.int .i64 (begAt n)) && decide (begAt n + cntAt n ≤ 257) && decide (fstAt n < 4294967296) && decide (cntAt n ≤ 257)) = true := by kernel_rfl
theorem tabOrder : (List.range 257).all (fun n => isAt (261 + n) (.int .i64 (ordAt n)) && decide (ordAt n < 257)) = true := by kernel_rfl
theorem tabNxt : (List.range 30).all (fun n => (decide (cntAt (n + 1) = 0) || decide (fstAt (n + 1) = 2 * nxt n))) = true := by kernel_rfl
theorem nxt30 : nxt 30 = 2 ^ 30 := by kernel_rfl
structure TabAt (n : Nat) : Prop where
 first : coder1[518 + n]? = some (.int .u32 (fstAt n))
 count : coder1[549 + n]? = some (.int .i64 (cntAt n))
 begins : coder1[580 + n]? = some (.int .i64 (begAt n))
 sum : begAt n + cntAt n ≤ 257
 small : fstAt n < 4294967296
 few : cntAt n ≤ 257
theorem tabAt {n : Nat} (hn : n ≤ 30) : TabAt n := by
 have := all_range tabFirst (i := n) (by omega)
 simp only [Bool.and_eq_true, decide_eq_true_eq] at this
 obtain ⟨⟨⟨⟨⟨h1, h2⟩, h3⟩, h4⟩, h5⟩, h6⟩ := this
 exact ⟨isAt_eq h1, isAt_eq h2, isAt_eq h3, h4, h5, h6⟩
theorem ordAt_at {n : Nat} (hn : n < 257) : coder1[261 + n]? = some (.int .i64 (ordAt n)) ∧ ordAt n < 257 := by
 have := all_range tabOrder (i := n) hn
 simp only [Bool.and_eq_true, decide_eq_true_eq] at this
 exact ⟨isAt_eq this.1, this.2⟩

def symV (code n : Nat) : Value := .int .i64 (match symOf code n with | some x => (x : Int) | none => -1)
theorem symOf_lt {code n x : Nat} (h : symOf code n = some x) : x < 257 := by
 unfold symOf at h
 split at h
 ·rename_i hc
  have := tabAt hc.1
  cases h
  exact (ordAt_at (by have := this.sum; omega)).2
 ·cases h

theorem sSym {h : LHeap} {sb : Nat} (hg : h.get sb = some (.cells coder1 true true)) {code n : Nat} (hc : code < 4294967296) (hn : n ≤ 30) :
  LCalls EC 257 [.pointer (some ⟨sb, 0, none⟩), .int .u32 code, .int .i64 n] h fun u h' => u = symV code n ∧ h' = h := by
 refine LCalls.enter (lf := lf257) rfl rfl (by simp [lf257]) ?_
 have ht := tabAt hn
 have h1 : (0 : Int) ≤ (n : Int) := by omega
 have h2 : (n : Int) < 31 := by omega
 have w1 : IntKind.i64.wrap (code : Int) = code := IntWalk.i64_in _ (by omega)
 have w2 : IntKind.i64.wrap (fstAt n : Int) = fstAt n := IntWalk.i64_in _ (by have := ht.small; omega)
 have w3 : IntKind.i64.wrap ((code : Int) - fstAt n) = (code : Int) - fstAt n := IntWalk.i64_in _ (by have := ht.small; omega)
 by_cases c1 : 0 < cntAt n
 ·have c1' : (0 : Int) < (cntAt n : Int) := by omega
  by_cases c2 : fstAt n ≤ code
  ·have c2' : (0 : Int) ≤ (code : Int) - fstAt n := by omega
   by_cases c3 : code - fstAt n < cntAt n
   ·have c3' : (code : Int) - fstAt n < (cntAt n : Int) := by omega
    have w4 : IntKind.i64.wrap ((begAt n : Int) + ((code : Int) - fstAt n)) = ((begAt n + (code - fstAt n) : Nat) : Int) := by rw [IntWalk.i64_in _ (by have := ht.sum; omega)]; omega
    have h3 : (0 : Int) ≤ ((begAt n + (code - fstAt n) : Nat) : Int) := by omega
    have h4 : ((begAt n + (code - fstAt n) : Nat) : Int) < 257 := by have := ht.sum; omega
    have ho := (ordAt_at (n := begAt n + (code - fstAt n)) (by have := ht.sum; omega)).1
    have hs : symOf code n = some (ordAt (begAt n + (code - fstAt n))) := by unfold symOf; rw [if_pos ⟨hn, c1, c2, c3⟩]
    simp only [go_sem, lf257, ↓reduceIte, h1, h2, w1, w2, w3, hg, ht.first, ht.count, c1', c2', c3']
    refine MC.dregion ?_
    simp only [go_sem, ↓reduceIte, h1, h2, hg, ht.begins, w4, h3, h4, ho]
    simp only [symV, hs]
   ·have c3' : ¬ (code : Int) - fstAt n < (cntAt n : Int) := by omega
    have hs : symOf code n = none := by unfold symOf; rw [if_neg fun h => c3 h.2.2.2]
    simp only [go_sem, lf257, ↓reduceIte, h1, h2, w1, w2, w3, hg, ht.first, ht.count, c1', c2', c3']
    simp only [symV, hs]
  ·have c2' : ¬ (0 : Int) ≤ (code : Int) - fstAt n := by omega
   have hs : symOf code n = none := by unfold symOf; rw [if_neg fun h => c2 h.2.2.1]
   simp only [go_sem, lf257, ↓reduceIte, h1, h2, w1, w2, w3, hg, ht.first, ht.count, c1', c2']
   simp only [symV, hs]
 ·have c1' : ¬ (0 : Int) < (cntAt n : Int) := by omega
  have hs : symOf code n = none := by unfold symOf; rw [if_neg fun h => c1 h.2.1]
  simp only [go_sem, lf257, ↓reduceIte, h1, h2, w1, w2, w3, hg, ht.first, ht.count, c1']
  simp only [symV, hs]

/-! ### Bits -/
theorem tabBit : (List.range 256).all (fun c => (List.range 8).all fun j => decide (andI .u32 (IntKind.u32.wrap (shrI .u8 (c : Nat) ((7 : Int) - (j : Nat)))) 1 = (((bits8 (UInt8.ofNat c)).getD j false).toNat : Int))) = true := by kernel_rfl
theorem bit_at (c : UInt8) {j : Nat} (hj : j < 8) : andI .u32 (IntKind.u32.wrap (shrI .u8 (c.toNat : Int) ((7 : Int) - (j : Nat)))) 1 = (((bits8 c).getD j false).toNat : Int) := by
 have := all_range tabBit (i := c.toNat) (by have := c.toNat_lt; omega)
 have := of_decide_eq_true (all_range this hj)
 rw [UInt8.ofNat_toNat] at this
 exact this

theorem or_bit {a : Nat} (ha : a < 2147483648) (b : Bool) : orI .u32 ((2 * a : Nat) : Int) (b.toNat : Int) = ((2 * a + b.toNat : Nat) : Int) := by
 have hb : b.toNat < 2 := by cases b <;> decide
 unfold orI
 have h1 : (BitVec.ofInt IntKind.u32.bits ((2 * a : Nat) : Int) ||| BitVec.ofInt IntKind.u32.bits (b.toNat : Int)).toNat = 2 * a + b.toNat := by
  rw [BitVec.toNat_or]
  have e : IntKind.u32.bits = 32 := rfl
  simp only [e, BitVec.toNat_ofInt]
  have e1 : ((((2 * a : Nat) : Int) % ((2 ^ 32 : Nat) : Int))).toNat = 2 * a := by omega
  have e2 : (((b.toNat : Int) % ((2 ^ 32 : Nat) : Int))).toNat = b.toNat := by omega
  rw [e1, e2]
  have := Nat.shiftLeft_add_eq_or_of_lt (i := 1) (b := b.toNat) (by omega) a
  rw [Nat.shiftLeft_eq, show a * 2 ^ 1 = 2 * a by omega] at this
  exact this.symm
 rw [h1]
 exact IntWalk.u32_in _ (by omega)

theorem nxt_step {n code : Nat} (hn : n ≤ 29) (h1 : nxt n ≤ code) (h2 : code < 2 ^ n) (b : Bool) (hs : symOf (2 * code + b.toNat) (n + 1) = none) :
  n + 1 ≤ 29 ∧ nxt (n + 1) ≤ 2 * code + b.toNat ∧ 2 * code + b.toNat < 2 ^ (n + 1) := by
 have hb : b.toNat < 2 := by cases b <;> decide
 have h3 : 2 * code + b.toNat < 2 ^ (n + 1) := by rw [Nat.pow_succ]; omega
 have ht := all_range tabNxt (i := n) (by omega)
 simp only [Bool.or_eq_true, decide_eq_true_eq] at ht
 have h4 : nxt (n + 1) ≤ 2 * code + b.toNat := by
  simp only [nxt]
  rcases Nat.eq_zero_or_pos (cntAt (n + 1)) with h | h
  ·omega
  ·have hf := ht.resolve_left (by omega)
   unfold symOf at hs
   split at hs
   ·cases hs
   ·rename_i hno
    have : ¬ 2 * code + b.toNat - fstAt (n + 1) < cntAt (n + 1) := fun hh => hno ⟨by omega, h, by omega, hh⟩
    omega
 refine ⟨?_, h4, h3⟩
 rcases Nat.lt_or_ge (n + 1) 30 with h | h
 ·omega
 ·have e : n + 1 = 30 := by omega
  rw [e, nxt30] at h4
  rw [e] at h3
  omega
end Go.E1

/-
 Layer 2: a coded text's bytes.
-/
namespace Go.E1
open Go Go.Proofs Go.M
set_option linter.unusedSimpArgs false

/-- Bytes that were gathered: nothing yet, or a block of their own, above 'lo'. -/
def OutAt (hh : LHeap) (lo : Nat) (v : Value) (out : Bytes) : Prop :=
 (out = [] ∧ v = .slice none 0 0) ∨ ∃ b, v = .slice (some ⟨b, 0, none⟩) out.length 1 ∧ lo ≤ b ∧ b < hh.size ∧ hh.get b = some (.cells (bv out) true true)

/-- What lies below 'lo' is as it was. -/
structure Low (lo : Nat) (h h' : LHeap) : Prop where
 size : h.size ≤ h'.size
 get : ∀ b, b < lo → h'.get b = h.get b
theorem Low.refl (lo : Nat) (h : LHeap) : Low lo h h := ⟨Nat.le_refl _, fun _ _ => rfl⟩
theorem Low.trans {lo : Nat} {a b c : LHeap} (x : Low lo a b) (y : Low lo b c) : Low lo a c := ⟨Nat.le_trans x.size y.size, fun i hi => (y.get i hi).trans (x.get i hi)⟩
theorem Low.ext {lo : Nat} {h h' : LHeap} (x : Low lo h h') (hl : h.size ≤ lo) : Ext h h' := ⟨x.size, fun b hb => x.get b (Nat.lt_of_lt_of_le hb hl)⟩
theorem OutAt.bytes {hh : LHeap} {lo : Nat} {v : Value} {out : Bytes} (h : OutAt hh lo v out) : BytesAt hh v out := by
 rcases h with ⟨h1, h2⟩ | ⟨b, h1, h2, h3, h4⟩
 ·exact .inl ⟨h1, 0, h2⟩
 ·exact .inr ⟨b, 0, _, true, true, h1, h3, h4, by simp [bv], by rw [List.drop_zero, ← bv_len out, List.take_length]⟩

theorem out_append {q : EqF} {hh : LHeap} {lo : Nat} {v : Value} {out : Bytes} (h : OutAt hh lo v out) (hlo : lo ≤ hh.size) (c : UInt8) (hn : out.length < 100000000) :
  ∃ v' hh', lexec q (.append 1 1 v (.slice (some ⟨hh.size, 0, none⟩) 1 1)) (hh.push (.cells [.int .u8 c.toNat] true true)) = some (v', hh') ∧ OutAt hh' lo v' (out ++ [c]) ∧ Low lo hh hh' := by
 have hf : (hh.push (.cells [.int .u8 c.toNat] true true)).firstCells 1 (.slice (some ⟨hh.size, 0, none⟩) 1 1) = some (1, [.int .u8 c.toNat]) := first_some (cs := [.int .u8 c.toNat]) (t := true) (r := true) (by simp) (by simp) (by simp)
 rcases h with ⟨rfl, rfl⟩ | ⟨b, rfl, h2, h3, h4⟩
 ·refine ⟨_, _, x_append_none hf (by simp) (by simp [oneCells, Value.oneCell']) (by simp [roomOk]), .inr ⟨hh.size + 1, by simp, by omega, by simp, by simp [bv]⟩, by simp; omega, ?_⟩
  intro i hi
  simp [show i ≠ hh.size + 1 by omega, show i ≠ hh.size by omega]
 ·have hb : b ≠ hh.size := by omega
  refine ⟨_, _, x_append_some (cs := bv out) (r := true) hf (by simp) (by simp [hb, h4]) (by simp [bv]) (by simp [oneCells, Value.oneCell']) (by simp only [roomOk]; simp; omega), .inr ⟨hh.size + 1, by simp, by omega, by simp, by simp [bv]⟩, by simp; omega, ?_⟩
  intro i hi
  simp [show i ≠ hh.size + 1 by omega, show i ≠ hh.size by omega, show i ≠ b by omega]

theorem bits8_len (c : UInt8) : (bits8 c).length = 8 := rfl

theorem bits_drop (c : UInt8) {j : Nat} (hj : j < 8) : (bits8 c).drop j = (bits8 c).getD j false :: (bits8 c).drop (j + 1) := by
 rw [List.drop_eq_getElem_cons (by rw [bits8_len]; exact hj)]
 congr 1
 simp [List.getD, show j < (bits8 c).length from hj]

theorem u8_of {x : Nat} (hx : x < 256) : IntKind.u8.wrap (x : Int) = ((UInt8.ofNat x).toNat : Int) := by
 have e : (UInt8.ofNat x).toNat = x := by simp [UInt8.toNat_ofNat']; omega
 rw [e]
 exact IntWalk.u8_in _ (by omega)

theorem huffGo_nil {code n : Nat} {ones : Bool} {out : Bytes} : huffGo [] code n ones out = if 7 < n ∨ ones = false then .error 20 else .ok out := rfl

def hRes (h : LHeap) (lo : Nat) (r : Except Nat Bytes) (u : Value) : Prop := match r with
 | .error e => u = .tuple #[.slice none 0 0, .int .i64 e]
 | .ok s => ∃ v, u = .tuple #[v, .int .i64 0] ∧ OutAt h lo v s

theorem new_ev (k : Nat) (h : LHeap) : evF EC (k + 4) 204 [] h = some (.pointer (some ⟨h.size, 0, none⟩), h.push (.cells coder0 true true)) := by kernel_rfl
theorem sNew (h : LHeap) : LCalls EC 204 [] h fun u h' => u = .pointer (some ⟨h.size, 0, none⟩) ∧ h' = h.push (.cells coder0 true true) :=
 ⟨4, _, _, fun k hk => by
  obtain ⟨k, rfl⟩ : ∃ k', k = k' + 4 := ⟨k - 4, by omega⟩
  exact new_ev k h, rfl, rfl⟩

theorem shl_one {code : Nat} (h : code < 1073741824) : shlI .u32 (code : Int) 1 = ((2 * code : Nat) : Int) := by
 unfold shlI
 have : min (1 : Int).toNat IntKind.u32.bits = 1 := rfl
 rw [this, IntWalk.u32_in _ (by omega)]
 omega

theorem bitsOf_cons (c : UInt8) (l : Bytes) : bitsOf (c :: l) = bits8 c ++ bitsOf l := rfl

theorem sCoder {h : LHeap} {sb : Nat} {v : Value} {l : Bytes} (hs : h.size = sb + 1) (hg : h.get sb = some (.cells coder0 true true)) (hv : BytesAt h v l) (hvs : ∀ b o n E, v = .slice (some ⟨b, o, none⟩) n E → b < sb) (hl : l.length < 1000000) :
  LCalls EC 241 [.pointer (some ⟨sb, 0, none⟩), v] h fun u h' => hRes h' (sb + 1) (huffDec l) u ∧ Low sb h h' := by
 refine LCalls.enter (lf := lf241) rfl rfl (by simp [lf241]) ?_
 have hget := getP_mk hg
 rcases hv with ⟨rfl, c, rfl⟩ | ⟨b, o, cs, t, r, rfl, hbs, hgb, hle, hcs⟩
 ·simp only [go_sem, lf241, ↓reduceIte, hget]
  refine MC.loop (fun m fr hh => fr = [(0, .pointer (some ⟨sb, 0, none⟩)), (6, .slice none 0 0), (7, .int .u32 0), (8, .int .i64 0), (9, .bool true), (17, .slice none 0 c), (18, .int .i64 0), (19, .int .i64 0)] ∧ hh = h.set sb (.cells coder1 true true)) 0 ⟨rfl, rfl⟩ ?_
  rintro m fr hh J ⟨rfl, rfl⟩ hJ
  simp only [go_sem, ↓reduceIte]
  refine ⟨⟨_, rfl, .inl ⟨rfl, rfl⟩⟩, by simp, fun i hi => by simp [show i ≠ sb by omega]⟩
 ·have hbsb : b < sb := hvs b o _ _ rfl
  simp only [go_sem, lf241, ↓reduceIte, hget]
  refine MC.loop (fun m fr hh => ∃ (i code n : Nat) (ones : Bool) (out : Bytes) (ov : Value), fr = [(0, .pointer (some ⟨sb, 0, none⟩)), (6, ov), (7, .int .u32 code), (8, .int .i64 n), (9, .bool ones), (17, .slice (some ⟨b, o, none⟩) l.length 1), (18, .int .i64 l.length), (19, .int .i64 i)] ∧
   i ≤ l.length ∧ m = l.length - i ∧ OutAt hh (sb + 1) ov out ∧ Low (sb + 1) (h.set sb (.cells coder1 true true)) hh ∧ n ≤ 29 ∧ nxt n ≤ code ∧ code < 2 ^ n ∧ out.length ≤ 8 * i ∧ huffGo (bitsOf (l.drop i)) code n ones out = huffDec l) l.length
   ⟨0, 0, 0, true, [], _, rfl, by omega, rfl, .inl ⟨rfl, rfl⟩, Low.refl _ _, by omega, Nat.le_refl _, by decide, by simp, rfl⟩ ?_
  rintro m fr hh J ⟨i, code, n, ones, out, ov, rfl, hi, rfl, hout, hlow, hn, hc1, hc2, hol, hgo⟩ hJ
  by_cases hend : l.length ≤ i
  ·have c1 : ¬ (i : Int) < (l.length : Int) := by omega
   rw [List.drop_eq_nil_of_le hend] at hgo
   have hlow' : Low sb h hh := ⟨by have := hlow.size; simpa using this, fun j hj => by rw [hlow.get j (by omega)]; simp [show j ≠ sb by omega]⟩
   simp only [go_sem, ↓reduceIte, c1]
   have hgo' : huffGo [] code n ones out = huffDec l := hgo
   rw [huffGo_nil] at hgo'
   by_cases h7 : 7 < n
   ·have c2 : (7 : Int) < (n : Int) := by omega
    rw [if_pos (.inl h7)] at hgo'
    simp only [go_sem, ↓reduceIte, c2]
    rw [← hgo']
    exact ⟨rfl, hlow'⟩
   ·have c2 : ¬ (7 : Int) < (n : Int) := by omega
    cases ones with
    | false =>
     rw [if_pos (.inr rfl)] at hgo'
     simp only [go_sem, ↓reduceIte, c2]
     rw [← hgo']
     exact ⟨rfl, hlow'⟩
    | true =>
     rw [if_neg (by simp [h7])] at hgo'
     simp only [go_sem, ↓reduceIte, c2]
     rw [← hgo']
     exact ⟨⟨_, rfl, hout⟩, hlow'⟩
  ·have c1 : (i : Int) < (l.length : Int) := by omega
   have c2 : (0 : Int) ≤ (i : Int) := by omega
   obtain ⟨c, hc⟩ : ∃ c, l[i]? = some c := ⟨l[i], by simp [show i < l.length by omega]⟩
   have hdrop : l.drop i = c :: l.drop (i + 1) := by
    rw [List.drop_eq_getElem_cons (by omega)]
    rw [List.getElem?_eq_getElem (by omega)] at hc
    rw [Option.some.inj hc]
   rw [hdrop, bitsOf_cons] at hgo
   have hgb' : hh.get b = some (.cells cs t r) := by rw [hlow.get b (by omega)]; simp [show b ≠ sb by omega, hgb]
   have hcell := bytes_get hcs hc
   simp only [go_sem, ↓reduceIte, c1, c2, hgb', hcell]
   refine MC.loop (fun m fr hh => ∃ (j code n : Nat) (ones : Bool) (out : Bytes) (ov : Value), fr = [(0, .pointer (some ⟨sb, 0, none⟩)), (6, ov), (7, .int .u32 code), (8, .int .i64 n), (9, .bool ones), (11, .int .u8 c.toNat), (12, .int .i64 (7 - (j : Nat))), (17, .slice (some ⟨b, o, none⟩) l.length 1), (18, .int .i64 l.length), (19, .int .i64 i)] ∧
    j ≤ 8 ∧ m = 8 - j ∧ OutAt hh (sb + 1) ov out ∧ Low (sb + 1) (h.set sb (.cells coder1 true true)) hh ∧ n ≤ 29 ∧ nxt n ≤ code ∧ code < 2 ^ n ∧ out.length ≤ 8 * i + j ∧ huffGo ((bits8 c).drop j ++ bitsOf (l.drop (i + 1))) code n ones out = huffDec l) 8
    ⟨0, code, n, ones, out, ov, rfl, by omega, rfl, hout, hlow, hn, hc1, hc2, by omega, hgo⟩ ?_
   clear hout hlow hn hc1 hc2 hol hgo hgb'
   rintro m fr hh J2 ⟨j, code, n, ones, out, ov, rfl, hj, rfl, hout, hlow, hn, hc1, hc2, hol, hgo⟩ hJ2
   by_cases hj8 : j = 8
   ·subst hj8
    have w1 : IntKind.i64.wrap ((i : Int) + 1) = ((i + 1 : Nat) : Int) := by rw [IntWalk.i64_in _ (by omega)]; rfl
    simp only [go_sem, ↓reduceIte, w1]
    exact hJ (l.length - (i + 1)) _ _ (by omega) ⟨i + 1, code, n, ones, out, ov, rfl, by omega, rfl, hout, hlow, hn, hc1, hc2, by omega, hgo⟩
   ·have c3 : (0 : Int) ≤ 7 - (j : Nat) := by omega
    have c4 : ¬ (7 - (j : Nat) : Int) < 0 := by omega
    have hbit := bit_at c (j := j) (by omega)
    rw [bits_drop c (by omega)] at hgo
    generalize hbe : (bits8 c).getD j false = bit at hbit hgo
    have hcp : code < 2 ^ 29 := Nat.lt_of_lt_of_le hc2 (Nat.pow_le_pow_right (by decide) hn)
    have e1 := shl_one (code := code) (by omega)
    have e2 := or_bit (a := code) (by omega) bit
    have e3 : (((bit.toNat : Nat) : Int) == 1) = bit := by cases bit <;> rfl
    have w1 : IntKind.i64.wrap ((n : Int) + 1) = ((n + 1 : Nat) : Int) := by rw [IntWalk.i64_in _ (by omega)]; rfl
    have w2 : IntKind.i64.wrap (7 - (j : Nat) - 1 : Int) = 7 - ((j + 1 : Nat) : Int) := by rw [IntWalk.i64_in _ (by omega)]; omega
    have hbl : bit.toNat < 2 := by cases bit <;> decide
    have hsg : hh.get sb = some (.cells coder1 true true) := by rw [hlow.get sb (by omega)]; simp
    have hgo2 : huffGo (bit :: ((bits8 c).drop (j + 1) ++ bitsOf (l.drop (i + 1)))) code n ones out = huffDec l := hgo
    simp only [huffGo] at hgo2
    have hhs : sb + 1 ≤ hh.size := by have := hlow.size; simp at this; omega
    have hsym := sSym hsg (code := 2 * code + bit.toNat) (n := n + 1) (by omega) (by omega)
    cases ones with
    | true =>
     simp only [go_sem, ↓reduceIte, c3, c4, hbit, e1, e2, e3, w1]
     refine MCall.by hsym ?_
     rintro u h' ⟨rfl, rfl⟩
     cases hs : symOf (2 * code + bit.toNat) (n + 1) with
     | none =>
      have hst := nxt_step hn hc1 hc2 bit hs
      rw [hs] at hgo2
      simp only [go_sem, ↓reduceIte, symV, hs, w2]
      exact hJ2 (8 - (j + 1)) _ _ (by omega) ⟨j + 1, _, _, _, out, ov, rfl, by omega, rfl, hout, hlow, hst.1, hst.2.1, hst.2.2, by omega, hgo2⟩
     | some x =>
      have hx := symOf_lt hs
      rw [hs] at hgo2
      have c5 : ¬ (x : Int) < 0 := by omega
      by_cases h256 : x = 256
      ·have c6 : ((x : Int) == 256) = true := by subst h256; rfl
       simp only [h256, if_true] at hgo2
       simp only [go_sem, ↓reduceIte, symV, hs, c5, c6]
       rw [← hgo2]
       exact ⟨rfl, ⟨by have := hlow.size; simpa using this, fun q hq => by rw [hlow.get q (by omega)]; simp [show q ≠ sb by omega]⟩⟩
      ·have c6 : ((x : Int) == 256) = false := by simp; omega
       simp only [h256, if_false] at hgo2
       have w3 := u8_of (x := x) (by omega)
       obtain ⟨ov', hh', ha, hb', hc'⟩ := out_append (q := EC.q) hout hhs (UInt8.ofNat x) (by omega)
       simp only [go_sem, ↓reduceIte, symV, hs, c5, c6, w3, ha, w2]
       exact hJ2 (8 - (j + 1)) _ _ (by omega) ⟨j + 1, 0, 0, true, out ++ [UInt8.ofNat x], ov', rfl, by omega, rfl, hb', hlow.trans hc', by omega, Nat.le_refl _, by decide, by simp; omega, hgo2⟩
    | false =>
     simp only [go_sem, ↓reduceIte, c3, c4, hbit, e1, e2, e3, w1]
     refine MCall.by hsym ?_
     rintro u h' ⟨rfl, rfl⟩
     cases hs : symOf (2 * code + bit.toNat) (n + 1) with
     | none =>
      have hst := nxt_step hn hc1 hc2 bit hs
      rw [hs] at hgo2
      simp only [go_sem, ↓reduceIte, symV, hs, w2]
      exact hJ2 (8 - (j + 1)) _ _ (by omega) ⟨j + 1, _, _, _, out, ov, rfl, by omega, rfl, hout, hlow, hst.1, hst.2.1, hst.2.2, by omega, hgo2⟩
     | some x =>
      have hx := symOf_lt hs
      rw [hs] at hgo2
      have c5 : ¬ (x : Int) < 0 := by omega
      by_cases h256 : x = 256
      ·have c6 : ((x : Int) == 256) = true := by subst h256; rfl
       simp only [h256, if_true] at hgo2
       simp only [go_sem, ↓reduceIte, symV, hs, c5, c6]
       rw [← hgo2]
       exact ⟨rfl, ⟨by have := hlow.size; simpa using this, fun q hq => by rw [hlow.get q (by omega)]; simp [show q ≠ sb by omega]⟩⟩
      ·have c6 : ((x : Int) == 256) = false := by simp; omega
       simp only [h256, if_false] at hgo2
       have w3 := u8_of (x := x) (by omega)
       obtain ⟨ov', hh', ha, hb', hc'⟩ := out_append (q := EC.q) hout hhs (UInt8.ofNat x) (by omega)
       simp only [go_sem, ↓reduceIte, symV, hs, c5, c6, w3, ha, w2]
       exact hJ2 (8 - (j + 1)) _ _ (by omega) ⟨j + 1, 0, 0, true, out ++ [UInt8.ofNat x], ov', rfl, by omega, rfl, hb', hlow.trans hc', by omega, Nat.le_refl _, by decide, by simp; omega, hgo2⟩

theorem sHuff {h : LHeap} {v : Value} {l : Bytes} (hv : BytesAt h v l) (hl : l.length < 1000000) :
  LCalls EC 218 [v] h fun u h' => hRes h' h.size (huffDec l) u ∧ Ext h h' := by
 refine LCalls.enter (lf := lf218) rfl rfl (by simp [lf218]) ?_
 simp only [go_sem, lf218, ↓reduceIte]
 refine MCall.by (sNew h) ?_
 rintro u h1 ⟨rfl, rfl⟩
 simp only [go_sem, ↓reduceIte]
 refine MCall.by (sCoder (sb := h.size) (by simp) (by simp) (hv.ext (Ext.push h _)) ?_ hl) ?_
 ·rintro b o n E rfl
  rcases hv with ⟨_, c, hc⟩ | ⟨b', o', cs, t, r, hc, hb, _⟩
  ·cases hc
  ·cases hc; exact hb
 ·rintro u h' ⟨hr, hlow⟩
  have hx : Ext h h' := ⟨by have := hlow.size; simp at this; omega, fun b hb => by rw [hlow.get b hb]; simp [Nat.ne_of_lt hb]⟩
  ·cases hd : huffDec l with
   | error e =>
    rw [hd] at hr
    have hr' : u = .tuple #[.slice none 0 0, .int .i64 e] := hr
    subst hr'
    simp only [go_sem, ↓reduceIte]
    exact ⟨rfl, hx⟩
   | ok s =>
    rw [hd] at hr
    obtain ⟨v', rfl, ho⟩ := hr
    simp only [go_sem, ↓reduceIte]
    refine ⟨⟨_, rfl, ?_⟩, hx⟩
    rcases ho with h1 | ⟨b, h1, h2, h3⟩
    ·exact .inl h1
    ·exact .inr ⟨b, h1, by omega, h3⟩
end Go.E1

/-
 Layer 4: texts.
-/
namespace Go.E1
open Go Go.Proofs Go.M
set_option linter.unusedSimpArgs false

@[go_sem] theorem x_seqn (q : EqF) (h : LHeap) (a : Addr) (n c d : Nat) : lexec q (.bin .eql .slice (.slice (some a) n c) (.slice none 0 d)) h = some (.bool false, h) := Eq.trans rfl rfl
@[go_sem] theorem x_seqnn (q : EqF) (h : LHeap) (c d : Nat) : lexec q (.bin .eql .slice (.slice none 0 c) (.slice none 0 d)) h = some (.bool true, h) := Eq.trans rfl rfl

theorem bytes_sub {cs : List Value} {o : Nat} {l : Bytes} (hl : (cs.drop o).take l.length = bv l) (i n : Nat) (hn : i + n ≤ l.length) : (cs.drop (o + i)).take n = bv ((l.drop i).take n) := by
 have e : (cs.drop (o + i)).take n = (((cs.drop o).take l.length).drop i).take n := by
  rw [List.drop_take, List.take_take, List.drop_drop]
  congr 1
  omega
 rw [e, hl]
 simp [bv, List.map_drop, List.map_take]

theorem sClone {h : LHeap} {v : Value} {l : Bytes} (hv : BytesAt h v l) (hl : l.length < 1000000) :
  LCalls EC 43 [v] h fun u h' => OutAt h' h.size u l ∧ Ext h h' := by
 refine LCalls.enter (lf := lf43) rfl rfl (by simp [lf43]) ?_
 rcases hv with ⟨rfl, c, rfl⟩ | ⟨b, o, cs, t, r, rfl, hbs, hgb, hle, hcs⟩
 ·simp only [go_sem, lf43, ↓reduceIte]
  exact ⟨.inl ⟨rfl, rfl⟩, Ext.refl h⟩
 ·by_cases h0 : l.length = 0
  ·obtain rfl : l = [] := List.length_eq_zero_iff.1 h0
   have ha : lexec EC.q (.append 1 1 (.slice (some ⟨h.size, 0, none⟩) 0 1) (.slice (some ⟨b, o, none⟩) 0 1)) (h.push (.cells [] true true)) = some (.slice (some ⟨h.size, 0, none⟩) 0 1, h.push (.cells [] true true)) := by
    simp [lexec, LHeap.firstCells, roomOk, oneCells]
   simp only [go_sem, lf43, ↓reduceIte, List.length_nil, ha]
   exact ⟨.inr ⟨h.size, rfl, Nat.le_refl _, by simp, by simp [bv]⟩, Ext.push h _⟩
  ·have hne : b ≠ h.size := by omega
   have hf : (h.push (.cells [] true true)).firstCells 1 (.slice (some ⟨b, o, none⟩) l.length 1) = some (l.length, bv l) := by
    rw [first_some (cs := cs) (t := t) (r := r) (by simp [hne, hgb]) (by omega) h0, Nat.mul_one, hcs]
   have ho : oneCells (bv l) = true := by simp [oneCells, bv, Value.oneCell']
   have ha := x_append_some (q := EC.q) (by' := 1) (b := h.size) (o := 0) (n := 0) (e := 1) (cs := []) (r := true) hf h0 (by simp) rfl ho (by simp [roomOk]; omega)
   simp only [go_sem, lf43, ↓reduceIte, ha]
   refine ⟨.inr ⟨h.size + 1, by simp, by omega, by simp, by simp⟩, by simp; omega, fun i hi => ?_⟩
   simp [show i ≠ h.size + 1 by omega, show i ≠ h.size by omega]

theorem tabMark : (List.range 256).all (fun c => decide (shrI .i64 (c : Nat) 7 = if 128 ≤ c then 1 else 0)) = true := by kernel_rfl
theorem mark_at (c : UInt8) : shrI .i64 (c.toNat : Int) 7 = if 128 ≤ c.toNat then 1 else 0 := of_decide_eq_true (all_range tabMark (i := c.toNat) (by have := c.toNat_lt; omega))

theorem sMark {h : LHeap} {v : Value} {c : UInt8} {l : Bytes} (hv : BytesAt h v l) (hc0 : l[0]? = some c) :
  LCalls EC 217 [v, .int .i64 7] h fun u h' => u = .tuple #[.int .i64 (if 128 ≤ c.toNat then 1 else 0), .bool true] ∧ h' = h := by
 refine LCalls.enter (lf := lf217) rfl rfl (by simp [lf217]) ?_
 rcases hv with ⟨h0, _⟩ | ⟨b, o, cs, t, r, rfl, hbs, hgb, hle, hcs⟩
 ·subst h0; cases hc0
 ·have hc := bytes_get hcs hc0
  simp only [Nat.add_zero] at hc
  have hlen : 0 < l.length := by
   rcases Nat.eq_zero_or_pos l.length with q | q
   ·rw [List.length_eq_zero_iff.1 q] at hc0; cases hc0
   ·exact q
  have e0 : ((l.length : Int) == 0) = false := beq_eq_false_iff_ne.2 (by omega)
  have c1 : (0 : Int) < (l.length : Int) := by omega
  have hcl := c.toNat_lt
  have w1 : IntKind.i64.wrap (c.toNat : Int) = (c.toNat : Int) := IntWalk.i64_in _ (by omega)
  simp only [go_sem, lf217, ↓reduceIte, e0, c1, hgb, hc, w1, mark_at]

theorem out_len {q : EqF} {h hh : LHeap} {lo : Nat} {v : Value} {s : Bytes} (ho : OutAt hh lo v s) : lexec q (.lenS v) h = some (.int .i64 s.length, h) := by
 rcases ho with ⟨rfl, rfl⟩ | ⟨b, rfl, _⟩ <;> rfl

theorem huffGo_err : ∀ (bs : List Bool) (code n : Nat) (ones : Bool) (out : Bytes) (e : Nat), huffGo bs code n ones out = .error e → e = 20 ∨ e = 21
 | [], code, n, ones, out, e, h => by
  rw [huffGo_nil] at h
  split at h
  ·cases h; exact .inl rfl
  ·cases h
 | b :: bs, code, n, ones, out, e, h => by
  simp only [huffGo] at h
  split at h
  ·exact huffGo_err bs _ _ _ _ e h
  ·split at h
   ·cases h; exact .inr rfl
   ·exact huffGo_err bs _ _ _ _ e h

theorem OutAt.ext {h h' : LHeap} {lo : Nat} {v : Value} {s : Bytes} (ho : OutAt h lo v s) (hx : Ext h h') : OutAt h' lo v s := by
 rcases ho with h1 | ⟨b, h1, h2, h3, h4⟩
 ·exact .inl h1
 ·exact .inr ⟨b, h1, h2, Nat.lt_of_lt_of_le h3 hx.size, by rw [hx.get b h3]; exact h4⟩
theorem OutAt.low {h : LHeap} {lo lo' : Nat} {v : Value} {s : Bytes} (ho : OutAt h lo v s) (hl : lo' ≤ lo) : OutAt h lo' v s := by
 rcases ho with h1 | ⟨b, h1, h2, h3⟩
 ·exact .inl h1
 ·exact .inr ⟨b, h1, Nat.le_trans hl h2, h3⟩

theorem sLit {h : LHeap} {v : Value} {l : Bytes} (hv : BytesAt h v l) (hl : l.length < 1000000) {limit : Nat} (_hlim : limit < 1000000) :
  LCalls EC 198 [v, .int .i64 limit] h fun u h' => ∃ sv, u = .tuple #[sv, .int .i64 (litDec limit l).2.1, .int .i64 (litDec limit l).2.2] ∧ OutAt h' h.size sv (litDec limit l).1 ∧ Ext h h' := by
 refine LCalls.enter (lf := lf198) rfl rfl (by simp [lf198]) ?_
 simp only [go_sem, lf198, ↓reduceIte]
 refine MCall.by (sPfx hv (by omega) (bits := 7) (by decide) (by decide)) ?_
 rintro u h1 ⟨rfl, rfl⟩
 by_cases he : (pfx 7 l).2.2 = 0
 ·have hu := pfx_used 7 l he
  have e1 : (((pfx 7 l).2.2 : Int) != 0) = false := by simp [he]
  have w1 : IntKind.i64.wrap ((l.length : Int) - ((pfx 7 l).2.1 : Int)) = ((l.length - (pfx 7 l).2.1 : Nat) : Int) := by rw [IntWalk.i64_in _ (by omega)]; omega
  by_cases hsh : l.length - (pfx 7 l).2.1 < (pfx 7 l).1
  ·have c1 : ((l.length - (pfx 7 l).2.1 : Nat) : Int) < ((pfx 7 l).1 : Int) := by omega
   have hlit : litDec limit l = ([], 0, 16) := by simp [litDec, he, hsh]
   rcases hv with ⟨rfl, c, rfl⟩ | ⟨b, o, cs, t, r, rfl, hbs, hgb, hle, hcs⟩
   ·simp [pfx] at he
   ·simp only [go_sem, ↓reduceIte, e1, w1, c1]
    rw [hlit]
    exact ⟨_, rfl, .inl ⟨rfl, rfl⟩, Ext.refl _⟩
  ·have c1 : ¬ ((l.length - (pfx 7 l).2.1 : Nat) : Int) < ((pfx 7 l).1 : Int) := by omega
   rcases hv with ⟨rfl, c, rfl⟩ | ⟨b, o, cs, t, r, rfl, hbs, hgb, hle, hcs⟩
   ·simp [pfx] at he
   ·obtain ⟨c, hc0, hhd⟩ : ∃ c, l[0]? = some c ∧ l.headD 0 = c := by
     cases l with
     | nil => simp [pfx] at he
     | cons c rest => exact ⟨c, rfl, rfl⟩
    have w2 : IntKind.i64.wrap (((pfx 7 l).2.1 : Int) + ((pfx 7 l).1 : Int)) = (((pfx 7 l).2.1 + (pfx 7 l).1 : Nat) : Int) := by rw [IntWalk.i64_in _ (by omega)]; omega
    have hsl : lexec EC.q (.slice 1 (.slice (some ⟨b, o, none⟩) l.length 1) (some (.int .i64 ((pfx 7 l).2.1 : Nat))) (some (.int .i64 (((pfx 7 l).2.1 + (pfx 7 l).1 : Nat) : Int))) none) h1 =
      some (.slice (some ⟨b, o + (pfx 7 l).2.1, none⟩) (pfx 7 l).1 1, h1) := by
     rw [x_slice_lohi (by omega) (by omega), Nat.add_sub_cancel_left, Nat.mul_one]
    generalize hn : (pfx 7 l).1 = n at *
    generalize hat : (pfx 7 l).2.1 = a at *
    have hsub : BytesAt h1 (.slice (some ⟨b, o + a, none⟩) n 1) ((l.drop a).take n) := by
     have hlen : ((l.drop a).take n).length = n := by rw [List.length_take, List.length_drop]; omega
     refine .inr ⟨b, o + a, cs, t, r, by rw [hlen], hbs, hgb, by rw [hlen]; omega, ?_⟩
     rw [hlen]
     exact bytes_sub hcs a n (by omega)
    have hraw : ((l.drop a).take n).length < 1000000 := by rw [List.length_take]; omega
    simp only [go_sem, ↓reduceIte, e1, w1, c1, w2, hsl]
    refine MCall.by (sClone hsub hraw) ?_
    rintro u h2 ⟨hout, hx⟩
    simp only [go_sem, ↓reduceIte]
    refine MCall.by (sMark (c := c) (BytesAt.ext (.inr ⟨b, o, cs, t, r, rfl, hbs, hgb, hle, hcs⟩) hx) hc0) ?_
    rintro u2 h3 ⟨rfl, rfl⟩
    have hlit0 : litDec limit l = match (if 128 ≤ c.toNat then huffDec ((l.drop a).take n) else .ok ((l.drop a).take n)) with
      | .error e => ([], 0, e)
      | .ok s => if limit < s.length then ([], 0, 22) else (s, a + n, 0) := by
     unfold litDec
     rw [hn, hat, hhd]
     refine (if_neg (by simpa using he)).trans ((if_neg hsh).trans ?_)
     rfl
    by_cases h128 : 128 ≤ c.toNat
    ·rw [if_pos h128] at hlit0
     simp only [go_sem, ↓reduceIte, h128]
     refine MCall.by (sHuff hout.bytes hraw) ?_
     rintro u4 h4 ⟨hr, hx4⟩
     cases hd : huffDec ((l.drop a).take n) with
     | error e =>
      rw [hd] at hr hlit0
      have hr' : u4 = .tuple #[.slice none 0 0, .int .i64 e] := hr
      subst hr'
      have he0 := huffGo_err _ _ _ _ _ e hd
      have e2 : ((e : Int) != 0) = true := by rcases he0 with rfl | rfl <;> rfl
      simp only [go_sem, ↓reduceIte, e2]
      rw [hlit0]
      exact ⟨_, rfl, .inl ⟨rfl, rfl⟩, hx.trans hx4⟩
     | ok s =>
      rw [hd] at hr hlit0
      obtain ⟨sv, rfl, ho⟩ := hr
      have e3 := out_len (q := EC.q) (h := h4) ho
      by_cases hbig : limit < s.length
      ·have c3 : (limit : Int) < (s.length : Int) := by omega
       simp only [hbig, if_true] at hlit0
       simp only [go_sem, ↓reduceIte, e3, c3]
       rw [hlit0]
       exact ⟨_, rfl, .inl ⟨rfl, rfl⟩, hx.trans hx4⟩
      ·have c3 : ¬ (limit : Int) < (s.length : Int) := by omega
       simp only [hbig, if_false] at hlit0
       simp only [go_sem, ↓reduceIte, e3, c3, w2]
       rw [hlit0]
       exact ⟨_, rfl, ho.low hx.size, hx.trans hx4⟩
    ·rw [if_neg h128] at hlit0
     have e3 := out_len (q := EC.q) (h := h3) hout
     simp only at hlit0
     by_cases hbig : limit < ((l.drop a).take n).length
     ·have c3 : (limit : Int) < (((l.drop a).take n).length : Int) := by omega
      rw [if_pos hbig] at hlit0
      simp only [go_sem, ↓reduceIte, h128, e3, c3]
      rw [hlit0]
      exact ⟨_, rfl, .inl ⟨rfl, rfl⟩, hx⟩
     ·have c3 : ¬ (limit : Int) < (((l.drop a).take n).length : Int) := by omega
      rw [if_neg hbig] at hlit0
      simp only [go_sem, ↓reduceIte, h128, e3, c3, w2]
      rw [hlit0]
      exact ⟨_, rfl, hout, hx⟩
 ·have hlit : litDec limit l = ([], 0, (pfx 7 l).2.2) := by simp [litDec, he]
  have e1 : (((pfx 7 l).2.2 : Int) != 0) = true := by simp; omega
  simp only [go_sem, ↓reduceIte, e1]
  rw [hlit]
  exact ⟨_, rfl, .inl ⟨rfl, rfl⟩, Ext.refl _⟩
end Go.E1

/-
 Texts out of bytes.
-/
namespace Go.E1
open Go Go.Proofs Go.M
set_option linter.unusedSimpArgs false

theorem bytesOf_bv (l : Bytes) : bytesOf (bv l) = some l := by
 induction l with
 | nil => rfl
 | cons b l ih =>
  have : bv (b :: l) = .int .u8 b.toNat :: bv l := rfl
  rw [this]
  simp only [bytesOf, ih, Option.map_some, Int.toNat_natCast, UInt8.ofNat_toNat]
theorem out_str {q : EqF} {h : LHeap} {lo : Nat} {v : Value} {s : Bytes} (ho : OutAt h lo v s) : lexec q (.bytesStr v) h = some (.string (toBA s), h) := by
 rcases ho with ⟨rfl, rfl⟩ | ⟨b, rfl, h1, h2, h3⟩
 ·rfl
 ·have e : (if s.length = 0 then some [] else h.loadCells b 0 s.length) = some (bv s) := by
   by_cases h0 : s.length = 0
   ·rw [if_pos h0, List.length_eq_zero_iff.1 h0]; rfl
   ·rw [if_neg h0]
    simp only [LHeap.loadCells, h3, bv_len, Nat.zero_add, Nat.le_refl, if_true, List.drop_zero]
    rw [← bv_len s, List.take_length]
  simp only [lexec, e, bytesOf_bv, Option.map_some, toBA]

theorem toBA_size (l : Bytes) : (toBA l).size = l.length := by simp [toBA, ByteArray.size]
end Go.E1

/-
 Layer 7, in plain Lean: what a form and a block take.
-/
namespace Go.E1
open Go Go.Proofs Go.M
set_option linter.unusedSimpArgs false

/-- The value behind a name. -/
def valOf (nm : ByteArray) (b : Bytes) : Fld × Bytes × Nat :=
 if (litDec 4096 b).2.2 ≠ 0 then ((⟨#[]⟩, ⟨#[]⟩), [], (litDec 4096 b).2.2) else ((nm, toBA (litDec 4096 b).1), b.drop (litDec 4096 b).2.1, 0)

theorem field_ix (s : St) (n : Nat) (b : Bytes) : fieldOf s true n b = match entryOf s n with
  | .none => ((⟨#[]⟩, ⟨#[]⟩), [], 23)
  | some f => (f, b, 0) := by
 unfold fieldOf
 rw [if_pos (.inr rfl)]
 cases entryOf s n <;> rfl
theorem field_name (s : St) {n : Nat} (hn : 0 < n) (b : Bytes) : fieldOf s false n b = match entryOf s n with
  | .none => ((⟨#[]⟩, ⟨#[]⟩), [], 23)
  | some f => valOf f.1 b := by
 unfold fieldOf
 rw [if_pos (.inl hn)]
 cases entryOf s n <;> rfl
theorem field_text (s : St) (b : Bytes) : fieldOf s false 0 b = if (litDec 4096 b).2.2 ≠ 0 then ((⟨#[]⟩, ⟨#[]⟩), [], (litDec 4096 b).2.2) else valOf (toBA (litDec 4096 b).1) (b.drop (litDec 4096 b).2.1) := by
 unfold fieldOf
 rw [if_neg (by simp)]
 rfl

theorem tsz_cons (e : Fld) (l : List Fld) : tsz (e :: l) = fsz e + tsz l := by simp [tsz]
theorem tsz_append (a b : List Fld) : tsz (a ++ b) = tsz a + tsz b := by simp [tsz]

theorem litDec_used (limit : Nat) (l : Bytes) : (litDec limit l).2.1 ≤ l.length := by
 unfold litDec
 split
 ·simp
 ·rename_i he
  split
  ·simp
  ·rename_i hsh
   have := pfx_used 7 l (by simpa using he)
   split
   ·simp
   ·split
    ·simp
    ·simp only; omega

theorem litDec_len (limit : Nat) (b : Bytes) : (litDec limit b).1.length ≤ limit := by
 unfold litDec
 split
 ·simp
 ·split
  ·simp
  ·split
   ·simp
   ·split
    ·simp
    ·rename_i h; simp only; omega
theorem ents_sz : ents.all (fun e => decide (fsz e < 200)) = true := by kernel_rfl
theorem ent_sz (i : Nat) : fsz (ent i) < 200 := by
 unfold ent
 rcases Nat.lt_or_ge i ents.length with h | h
 ·have := List.all_eq_true.1 ents_sz ents[i] (List.getElem_mem h)
  simp only [decide_eq_true_eq] at this
  simpa [List.getD, h] using this
 ·simp only [List.getD, List.getElem?_eq_none h, Option.getD_none, fsz]; decide
theorem mem_tsz {L : List Fld} {f : Fld} (h : f ∈ L) : fsz f ≤ tsz L := by
 induction L with
 | nil => cases h
 | cons e l ih =>
  rw [tsz_cons]
  rcases List.mem_cons.1 h with rfl | h
  ·omega
  ·have := ih h; omega
theorem entry_sz {s : St} (hs : tsz s.L ≤ 65536) {i : Nat} {f : Fld} (h : entryOf s i = some f) : fsz f ≤ 65536 := by
 unfold entryOf at h
 split at h
 ·cases h
 ·split at h
  ·cases h; have := ent_sz (i - 1); omega
  ·have := List.mem_of_getElem? h
   have := mem_tsz (List.mem_reverse.1 this)
   omega
theorem fieldOf_sz {s : St} (hs : tsz s.L ≤ 65536) {ix : Bool} {n : Nat} {b : Bytes} : fsz (fieldOf s ix n b).1 ≤ 200000 := by
 unfold fieldOf
 have hb : ∀ b', (toBA (litDec 4096 b').1).size ≤ 4096 := fun b' => by rw [toBA_size]; exact litDec_len 4096 b'
 have hz : fsz ((⟨#[]⟩, ⟨#[]⟩) : Fld) ≤ 200000 := by decide
 split
 ·cases he : entryOf s n with
  | none => exact hz
  | some f =>
   have := entry_sz hs he
   simp only
   split
   ·simp only; omega
   ·split
    ·exact hz
    ·have h1 := hb b
     simp only [fsz] at this ⊢
     omega
 ·split
  ·exact hz
  ·split
   ·exact hz
   ·have h1 := hb b
    have h2 := hb (b.drop (litDec 4096 b).2.1)
    simp only [fsz]
    omega

theorem fieldOf_rest (s : St) (ix : Bool) (n : Nat) (b : Bytes) : (fieldOf s ix n b).2.1.length ≤ b.length := by
 unfold fieldOf
 split
 ·cases entryOf s n with
  | none => simp
  | some f =>
   simp only
   split
   ·simp
   ·split
    ·simp
    ·simp only [List.length_drop]; omega
 ·split
  ·simp
  ·split
   ·simp
   ·simp only [List.length_drop]; omega

theorem form_rest {most : Nat} {s : St} {first : Bool} {c : UInt8} {b : Bytes} (h : ∀ e, (form most s first c b).2.2 ≠ .fail e) : (form most s first c b).2.1.length < b.length := by
 unfold form at h ⊢
 split
 ·rename_i h1; rw [if_pos h1] at h; exact absurd rfl (h _)
 ·rename_i h1
  rw [if_neg h1] at h
  have hu := pfx_used (kbits c) b (by simpa using h1)
  split
  ·rename_i h2
   rw [if_pos h2] at h
   split
   ·rename_i h3; rw [if_pos h3] at h; exact absurd rfl (h _)
   ·simp only [List.length_drop]; omega
  ·rename_i h2
   rw [if_neg h2] at h
   split
   ·rename_i h3; rw [if_pos h3] at h; exact absurd rfl (h _)
   ·have := fieldOf_rest s (decide (128 ≤ c.toNat)) (pfx (kbits c) b).1 (b.drop (pfx (kbits c) b).2.1)
    rw [List.length_drop] at this
    simp only; omega

theorem form_line_sz {most : Nat} {s : St} {first : Bool} {c : UInt8} {b : Bytes} {x : Ln} (hs : tsz s.L ≤ 65536) (h : (form most s first c b).2.2 = .line x) : fsz x.f ≤ 200000 := by
 unfold form at h
 split at h
 ·cases h
 ·split at h
  ·split at h <;> cases h
  ·split at h
   ·cases h
   ·cases h; exact fieldOf_sz hs

/-- More turns than bytes change nothing. -/
theorem decGo_fuel (most bound : Nat) : ∀ (k : Nat) (s : St) (b : Bytes) (out : List Ln) (size : Nat), b.length ≤ k → decGo most bound k s b out size = decGo most bound b.length s b out size := by
 intro k
 induction k using Nat.strongRecOn with
 | _ k ih =>
  intro s b out size hk
  cases b with
  | nil => cases k <;> rfl
  | cons c b =>
   cases k with
   | zero => simp at hk
   | succ k =>
    simp only [List.length_cons, decGo]
    cases hf : form most s out.isEmpty c (c :: b) with
    | mk s' p =>
     obtain ⟨r, o⟩ := p
     cases o with
     | fail e => rfl
     | none =>
      have hr := form_rest (most := most) (s := s) (first := out.isEmpty) (c := c) (b := c :: b) (by rw [hf]; intro e h; cases h)
      rw [hf] at hr
      simp only [List.length_cons] at hr hk
      simp only
      rw [ih k (by omega) s' r out size (by omega), ih b.length (by omega) s' r out size (by omega)]
     | line x =>
      have hr := form_rest (most := most) (s := s) (first := out.isEmpty) (c := c) (b := c :: b) (by rw [hf]; intro e h; cases h)
      rw [hf] at hr
      simp only [List.length_cons] at hr hk
      simp only
      split
      ·rfl
      ·rw [ih k (by omega) s' r _ _ (by omega), ih b.length (by omega) s' r _ _ (by omega)]

/-- A block read, or the rest of one. -/
def decAll (most bound : Nat) (s : St) (b : Bytes) (out : List Ln) (size : Nat) : St × Except Nat (List Ln) := decGo most bound b.length s b out size
theorem decAll_nil (most bound : Nat) (s : St) (out : List Ln) (size : Nat) : decAll most bound s [] out size = (s, .ok out) := rfl
theorem decAll_cons (most bound : Nat) (s : St) (c : UInt8) (b : Bytes) (out : List Ln) (size : Nat) : decAll most bound s (c :: b) out size = match form most s out.isEmpty c (c :: b) with
  | (s', _, .fail e) => (s', .error e)
  | (s', r, .none) => decAll most bound s' r out size
  | (s', r, .line x) => if bound < size + fsz x.f then (s', .error 22) else decAll most bound s' r (out ++ [x]) (size + fsz x.f) := by
 unfold decAll
 simp only [List.length_cons, decGo]
 cases hf : form most s out.isEmpty c (c :: b) with
 | mk s' p =>
  obtain ⟨r, o⟩ := p
  cases o with
  | fail e => rfl
  | none =>
   have hr := form_rest (most := most) (s := s) (first := out.isEmpty) (c := c) (b := c :: b) (by rw [hf]; intro e h; cases h)
   rw [hf] at hr
   simp only [List.length_cons] at hr
   exact decGo_fuel _ _ _ _ _ _ _ (by omega)
  | line x =>
   have hr := form_rest (most := most) (s := s) (first := out.isEmpty) (c := c) (b := c :: b) (by rw [hf]; intro e h; cases h)
   rw [hf] at hr
   simp only [List.length_cons] at hr
   simp only
   split
   ·rfl
   ·exact decGo_fuel _ _ _ _ _ _ _ (by omega)
end Go.E1

/-
 Lines, wherever they stand.
-/
namespace Go.E1
open Go Go.Proofs Go.M
set_option linter.unusedSimpArgs false

def lineV (f : Fld) (never : Bool) : Value := .agg #[.string f.1, .string f.2, .bool never]
def lc (x : Ln) : List Value := [.string x.f.1, .string x.f.2, .bool x.never]
def lcells (l : List Ln) : List Value := l.flatMap fun x => [.string x.f.1, .string x.f.2, .bool x.never]
theorem lcells_len (l : List Ln) : (lcells l).length = l.length * 3 := by
 induction l with
 | nil => rfl
 | cons p l ih => simp only [lcells, List.flatMap_cons, List.length_append, List.length_cons, List.length_nil] at ih ⊢; omega
theorem lcells_append (a b : List Ln) : lcells (a ++ b) = lcells a ++ lcells b := by simp [lcells, List.flatMap_append]

theorem lcells_get {l : List Ln} {i : Nat} {e : Ln} (hi : l[i]? = some e) : ((lcells l).drop (i * 3)).take 3 = [.string e.f.1, .string e.f.2, .bool e.never] := by
 have hlt : i < l.length := by
  rcases Nat.lt_or_ge i l.length with q | q
  ·exact q
  ·simp [List.getElem?_eq_none q] at hi
 have h1 : l = l.take i ++ e :: l.drop (i + 1) := by
  rw [List.getElem?_eq_getElem hlt] at hi
  rw [← Option.some.inj hi, List.getElem_cons_drop, List.take_append_drop]
 have h2 : ((lcells (l.take i ++ e :: l.drop (i + 1))).drop ((l.take i).length * 3)).take 3 = [.string e.f.1, .string e.f.2, .bool e.never] := by
  rw [lcells_append, ← lcells_len, List.drop_left]
  rfl
 rw [← h1, List.length_take, Nat.min_eq_left (by omega)] at h2
 exact h2

/-- Lines, wherever they stand. -/
def LS0 (h : LHeap) (v : Value) (l : List Ln) : Prop := (l = [] ∧ v = .slice none 0 0) ∨ ∃ b cs t r, v = .slice (some ⟨b, 0, none⟩) l.length 3 ∧ b < h.size ∧ h.get b = some (.cells cs t r) ∧ cs = lcells l
theorem LS0.len {q : EqF} {h hh : LHeap} {v : Value} {l : List Ln} (ho : LS0 hh v l) : lexec q (.lenS v) h = some (.int .i64 l.length, h) := by
 rcases ho with ⟨rfl, rfl⟩ | ⟨b, _, _, _, rfl, _⟩ <;> rfl
theorem LS0.ext {h h' : LHeap} {v : Value} {l : List Ln} (s : LS0 h v l) (X : Ext h h') : LS0 h' v l := by
 rcases s with h1 | ⟨b, cs, t, r, h1, h2, h3, h4⟩
 ·exact .inl h1
 ·exact .inr ⟨b, cs, t, r, h1, Nat.lt_of_lt_of_le h2 X.size, by rw [X.get b h2]; exact h3, h4⟩

theorem LS0.at {h : LHeap} {v : Value} {l : List Ln} (S : LS0 h v l) {i : Nat} (hi : i < l.length) : ∃ b x t r, v = .slice (some ⟨b, 0, none⟩) l.length 3 ∧ b < h.size ∧ h.get b = some (.cells (lcells l) t r) ∧ l[i]? = some x ∧ ((lcells l).drop (i * 3)).take 3 = [.string x.f.1, .string x.f.2, .bool x.never] := by
 rcases S with ⟨rfl, _⟩ | ⟨b, cs, t, r, h1, h2, h3, rfl⟩
 ·simp at hi
 ·have : l[i]? = some l[i] := by simp
  exact ⟨b, l[i], t, r, h1, h2, h3, this, lcells_get this⟩

end Go.E1

/-
 Lists that were gathered, of whatever cells.
-/
namespace Go.E1
open Go Go.Proofs Go.M
set_option linter.unusedSimpArgs false

/-- The block of a slice. -/
def blkOf : Value → Option Nat
 | .slice (some a) _ _ => some a.block
 | _ => none
@[simp] theorem blkOf_nil (n E : Nat) : blkOf (.slice none n E) = none := rfl
@[simp] theorem blkOf_some (a : Addr) (n E : Nat) : blkOf (.slice (some a) n E) = some a.block := rfl

/-- So many cells each, none of them of more than one. -/
structure Cel {α : Type} (k : Nat) (c : α → List Value) : Prop where
 len : ∀ x, (c x).length = k
 one : ∀ x, oneCells (c x) = true
 pos : 0 < k

theorem one_append {a b : List Value} (ha : oneCells a = true) (hb : oneCells b = true) : oneCells (a ++ b) = true := by
 unfold oneCells at *
 rw [List.all_append, ha, hb]; rfl
theorem Cel.flat_one {α : Type} {k : Nat} {c : α → List Value} (C : Cel k c) : ∀ l : List α, oneCells (l.flatMap c) = true
 | [] => rfl
 | x :: l => by
  rw [List.flatMap_cons]
  exact one_append (C.one x) (C.flat_one l)
theorem Cel.flat_len {α : Type} {k : Nat} {c : α → List Value} (C : Cel k c) : ∀ l : List α, (l.flatMap c).length = l.length * k
 | [] => by simp
 | x :: l => by
  rw [List.flatMap_cons, List.length_append, C.len, C.flat_len l, List.length_cons, Nat.add_mul]; omega
theorem Cel.get {α : Type} {k : Nat} {c : α → List Value} (C : Cel k c) {l : List α} {i : Nat} {x : α} (hi : l[i]? = some x) : ((l.flatMap c).drop (i * k)).take k = c x ∧ i * k + k ≤ (l.flatMap c).length := by
 have hlt : i < l.length := by
  rcases Nat.lt_or_ge i l.length with q | q
  ·exact q
  ·simp [List.getElem?_eq_none q] at hi
 have h1 : l = l.take i ++ x :: l.drop (i + 1) := by
  rw [List.getElem?_eq_getElem hlt] at hi
  rw [← Option.some.inj hi, List.getElem_cons_drop, List.take_append_drop]
 have h2 : (((l.take i ++ x :: l.drop (i + 1)).flatMap c).drop ((l.take i).length * k)).take k = c x := by
  rw [List.flatMap_append, ← C.flat_len, List.drop_left, List.flatMap_cons, ← C.len x, List.take_left]
 rw [← h1, List.length_take, Nat.min_eq_left (by omega)] at h2
 refine ⟨h2, ?_⟩
 rw [C.flat_len, ← Nat.succ_mul]
 exact Nat.mul_le_mul_right _ hlt
theorem Cel.cell {α : Type} {k : Nat} {c : α → List Value} (C : Cel k c) {l : List α} {i j : Nat} {x : α} (hi : l[i]? = some x) (hj : j < k) : (l.flatMap c)[i * k + j]? = (c x)[j]? := by
 obtain ⟨h1, h2⟩ := C.get hi
 rw [← h1, List.getElem?_take_of_lt hj, List.getElem?_drop]

/-- A list that was gathered: its cells. -/
def GL {α : Type} (k : Nat) (c : α → List Value) (h : LHeap) (v : Value) (l : List α) : Prop :=
 (l = [] ∧ v = .slice none 0 0) ∨ ∃ b, v = .slice (some ⟨b, 0, none⟩) l.length k ∧ b < h.size ∧ h.get b = some (.cells (l.flatMap c) true true)
theorem GL.nil {α : Type} {k : Nat} {c : α → List Value} {h : LHeap} : GL k c h (.slice none 0 0) ([] : List α) := .inl ⟨rfl, rfl⟩
theorem GL.blk {α : Type} {k : Nat} {c : α → List Value} {h : LHeap} {v : Value} {l : List α} (g : GL k c h v l) {x : Nat} (hx : blkOf v = some x) : x < h.size ∧ v = .slice (some ⟨x, 0, none⟩) l.length k ∧ h.get x = some (.cells (l.flatMap c) true true) := by
 rcases g with ⟨_, rfl⟩ | ⟨b, rfl, h2, h3⟩
 ·cases hx
 ·cases hx; exact ⟨h2, rfl, h3⟩
theorem GL.move {α : Type} {k : Nat} {c : α → List Value} {h h' : LHeap} {v : Value} {l : List α} (g : GL k c h v l) (hs : h.size ≤ h'.size) (hg : ∀ x, blkOf v = some x → h'.get x = h.get x) : GL k c h' v l := by
 rcases g with h1 | ⟨b, rfl, h2, h3⟩
 ·exact .inl h1
 ·exact .inr ⟨b, rfl, by omega, by rw [hg b rfl]; exact h3⟩
theorem GL.ext {α : Type} {k : Nat} {c : α → List Value} {h h' : LHeap} {v : Value} {l : List α} (g : GL k c h v l) (X : Ext h h') : GL k c h' v l :=
 g.move X.size fun x hx => X.get x (g.blk hx).1
theorem GL.len {α : Type} {k : Nat} {c : α → List Value} {q : EqF} {h hh : LHeap} {v : Value} {l : List α} (g : GL k c hh v l) : lexec q (.lenS v) h = some (.int .i64 l.length, h) := by
 rcases g with ⟨rfl, rfl⟩ | ⟨b, rfl, _⟩ <;> rfl
theorem GL.at {α : Type} {k : Nat} {c : α → List Value} {h : LHeap} {v : Value} {l : List α} (g : GL k c h v l) {i : Nat} {x : α} (hx : l[i]? = some x) : ∃ b, v = .slice (some ⟨b, 0, none⟩) l.length k ∧ b < h.size ∧ h.get b = some (.cells (l.flatMap c) true true) := by
 rcases g with ⟨rfl, _⟩ | h1
 ·simp at hx
 ·exact h1

theorem gl_append {α : Type} {k by' : Nat} {c : α → List Value} (C : Cel k c) {q : EqF} {hh : LHeap} {v : Value} {l : List α} (g : GL k c hh v l) (x : α) (hn : l.length < 1000000) (hb : by' ≤ 1000) :
  ∃ v' hh', lexec q (.append k by' v (.slice (some ⟨hh.size, 0, none⟩) 1 k)) (hh.push (.cells (c x) true true)) = some (v', hh') ∧ GL k c hh' v' (l ++ [x]) ∧ hh.size ≤ hh'.size ∧
   (∀ b, b < hh.size → blkOf v ≠ some b → hh'.get b = hh.get b) ∧ (∀ b, blkOf v' = some b → hh.size ≤ b) := by
 have hm : (l.length + 1) * by' ≤ 1000000 * 1000 := Nat.mul_le_mul (by omega) hb
 have hr : roomOk (l.length + 1) by' = true := by
  simp only [roomOk, Bool.and_eq_true, decide_eq_true_eq]
  omega
 have hf : (hh.push (.cells (c x) true true)).firstCells k (.slice (some ⟨hh.size, 0, none⟩) 1 k) = some (1, c x) := by
  rw [first_some (cs := c x) (t := true) (r := true) (by simp) (by rw [C.len]; omega) (by simp), List.drop_zero, Nat.one_mul]
  rw [← C.len x, List.take_length]
 rcases g with ⟨rfl, rfl⟩ | ⟨b, rfl, h3, h4⟩
 ·refine ⟨_, _, x_append_none hf (by simp) (C.one x) (by simpa using hr), .inr ⟨hh.size + 1, by simp, by simp, by simp⟩, by simp; omega, ?_, ?_⟩
  ·intro i hi _
   simp [show i ≠ hh.size + 1 by omega, show i ≠ hh.size by omega]
  ·intro b he
   simp only [LHeap.size_push, blkOf_some, Option.some.injEq] at he
   omega
 ·have hbn : b ≠ hh.size := by omega
  refine ⟨_, _, x_append_some (cs := l.flatMap c) (r := true) hf (by simp) (by simp [hbn, h4]) (by rw [C.flat_len]; omega) (C.one x) hr, .inr ⟨hh.size + 1, by simp, by simp, by simp⟩, by simp; omega, ?_, ?_⟩
  ·intro i hi hno
   have : i ≠ b := fun h => hno (by rw [h]; rfl)
   simp [show i ≠ hh.size + 1 by omega, show i ≠ hh.size by omega, this]
  ·intro b he
   simp only [LHeap.size_push, LHeap.size_set, blkOf_some, Option.some.injEq] at he
   omega

end Go.E1

/-
 Slices of bytes, joined.
-/
namespace Go.E1
open Go Go.Proofs Go.M
set_option linter.unusedSimpArgs false

theorem bv_ones (l : Bytes) : oneCells (bv l) = true := by
 simp only [oneCells, bv, List.all_map]
 exact List.all_eq_true.2 fun x _ => rfl
theorem bv_append (a b : Bytes) : bv (a ++ b) = bv a ++ bv b := by simp [bv]
theorem BytesAt.len {q : EqF} {h hh : LHeap} {v : Value} {l : Bytes} (a : BytesAt hh v l) : lexec q (.lenS v) h = some (.int .i64 l.length, h) := by
 rcases a with ⟨rfl, c, rfl⟩ | ⟨b, o, cs, t, r, rfl, _⟩ <;> rfl
theorem BytesAt.first {h : LHeap} {v : Value} {l : Bytes} (a : BytesAt h v l) : h.firstCells 1 v = some (l.length, bv l) := by
 rcases a with ⟨rfl, c, rfl⟩ | ⟨b, o, cs, t, r, rfl, h0, h1, h2, h3⟩
 ·rfl
 ·by_cases h0 : l.length = 0
  ·obtain rfl : l = [] := List.length_eq_zero_iff.1 h0
   simp [LHeap.firstCells, bv]
  ·rw [first_some h1 (by omega) h0, Nat.mul_one, h3]
theorem out_cat {q : EqF} {hh : LHeap} {lo : Nat} {v w : Value} {out l : Bytes} (h : OutAt hh lo v out) (hlo : lo ≤ hh.size) (hw : hh.firstCells 1 w = some (l.length, bv l)) (hn : out.length + l.length ≤ 1000000000) :
  ∃ v' hh', lexec q (.append 1 1 v w) hh = some (v', hh') ∧ OutAt hh' lo v' (out ++ l) ∧ Low lo hh hh' ∧ (∀ b, b < hh.size → blkOf v ≠ some b → hh'.get b = hh.get b) ∧ (∀ b, blkOf v' = some b → blkOf v = some b ∨ hh.size ≤ b) := by
 by_cases h0 : l.length = 0
 ·obtain rfl : l = [] := List.length_eq_zero_iff.1 h0
  refine ⟨v, hh, ?_, by simpa using h, Low.refl _ _, fun b _ _ => rfl, fun b hb => .inl hb⟩
  rcases h with ⟨rfl, rfl⟩ | ⟨b, rfl, h1, h2, h3⟩
  ·exact x_append_zero (c := 0) hw
  ·have e1 : oneCells (bv []) = true := rfl
   have e2 : roomOk (out.length + 0) 1 = true := by simp only [roomOk, Bool.and_eq_true, decide_eq_true_eq]; omega
   simp only [List.length_nil] at hw
   simp [lexec, hw, e1, e2, h3, bv_len]
   simpa using e2
 ·have hr : ∀ k, k ≤ 1000000000 → roomOk k 1 = true := fun k hk => by simp only [roomOk, Bool.and_eq_true, decide_eq_true_eq]; omega
  rcases h with ⟨rfl, rfl⟩ | ⟨b, rfl, h1, h2, h3⟩
  ·refine ⟨_, _, x_append_none hw h0 (bv_ones l) (hr _ (by omega)), .inr ⟨hh.size, rfl, hlo, by simp, by simp⟩, ⟨by simp, fun i hi => by simp [show i ≠ hh.size by omega]⟩, fun b hb _ => by simp [show b ≠ hh.size by omega], fun b hb => .inr (by simp only [blkOf_some, Option.some.injEq] at hb; omega)⟩
  ·refine ⟨_, _, x_append_some hw h0 h3 (by rw [bv_len]; omega) (bv_ones l) (hr _ hn), .inr ⟨hh.size, by rw [List.length_append], hlo, by simp, by simp [bv_append]⟩, ⟨by simp, fun i hi => by simp [show i ≠ hh.size by omega, show i ≠ b by omega]⟩, fun i hi hne => by simp [show i ≠ hh.size by omega, show i ≠ b from fun h => hne (by rw [h]; rfl)], fun b hb => .inr (by simp only [blkOf_some, Option.some.injEq] at hb; omega)⟩
theorem Ext.low {h h2 h' : LHeap} {lo : Nat} (X : Ext h h2) (L : Low lo h2 h') (hl : h.size ≤ lo) : Ext h h' :=
 ⟨Nat.le_trans X.size L.size, fun b hb => (L.get b (Nat.lt_of_lt_of_le hb hl)).trans (X.get b hb)⟩

/-- Slices of bytes. -/
def BLB (h : LHeap) (v : Value) (ls : List Bytes) : Prop := (ls = [] ∧ v = .slice none 0 0) ∨ ∃ b vs t r, v = .slice (some ⟨b, 0, none⟩) ls.length 1 ∧ b < h.size ∧ h.get b = some (.cells vs t r) ∧ vs.length = ls.length ∧ ∀ (i : Nat) (u : Value) (l : Bytes), vs[i]? = some u → ls[i]? = some l → BytesAt h u l
theorem BLB.len {q : EqF} {h hh : LHeap} {v : Value} {ls : List Bytes} (a : BLB hh v ls) : lexec q (.lenS v) h = some (.int .i64 ls.length, h) := by
 rcases a with ⟨rfl, rfl⟩ | ⟨b, _, _, _, rfl, _⟩ <;> rfl
theorem BLB.ext {h h' : LHeap} {v : Value} {ls : List Bytes} (a : BLB h v ls) (X : Ext h h') : BLB h' v ls := by
 rcases a with h1 | ⟨b, vs, t, r, h1, h2, h3, h4, h5⟩
 ·exact .inl h1
 ·exact .inr ⟨b, vs, t, r, h1, Nat.lt_of_lt_of_le h2 X.size, by rw [X.get b h2]; exact h3, h4, fun i u l a b => (h5 i u l a b).ext X⟩
theorem BLB.at {h : LHeap} {v : Value} {ls : List Bytes} (B : BLB h v ls) {i : Nat} (hi : i < ls.length) : ∃ b vs t r u l, v = .slice (some ⟨b, 0, none⟩) ls.length 1 ∧ b < h.size ∧ h.get b = some (.cells vs t r) ∧ vs[i]? = some u ∧ ls[i]? = some l ∧ BytesAt h u l := by
 rcases B with ⟨rfl, _⟩ | ⟨b, vs, t, r, h1, h2, h3, h4, h5⟩
 ·simp at hi
 ·exact ⟨b, vs, t, r, vs[i]'(by omega), ls[i], h1, h2, h3, by simp, by simp, h5 i _ _ (by simp) (by simp)⟩

theorem flat_take (ls : List Bytes) {i : Nat} {l : Bytes} (hl : ls[i]? = some l) : (ls.take (i + 1)).flatten = (ls.take i).flatten ++ l := by
 rw [List.take_add_one, hl]; simp
theorem flat_take_le (ls : List Bytes) (i : Nat) : (ls.take i).flatten.length ≤ ls.flatten.length := by
 conv => rhs; rw [← List.take_append_drop i ls, List.flatten_append, List.length_append]
 omega

theorem sConcat {h : LHeap} {v : Value} {ls : List Bytes} (B : BLB h v ls) (hs : ls.flatten.length ≤ 1000000) (hn : ls.length ≤ 1000000) :
  LCalls EC 27 [v] h fun u h' => OutAt h' h.size u ls.flatten ∧ Ext h h' := by
 refine LCalls.enter (lf := lf27) rfl rfl (by simp [lf27]) ?_
 have el := fun h => B.len (q := EC.q) (h := h)
 simp only [go_sem, lf27, ↓reduceIte, el]
 refine MC.cutb (fun fr hh => ∃ tl, fr = (0, v) :: (3, .int .i64 (ls.flatten.length : Int)) :: tl ∧ hh = h) ?_ ?_
 ·refine MC.loop (fun m fr hh => ∃ i, m = ls.length - i ∧ i ≤ ls.length ∧ fr = [(0, v), (3, .int .i64 ((ls.take i).flatten.length : Int)), (9, v), (10, .int .i64 (ls.length : Int)), (11, .int .i64 (i : Int))] ∧ hh = h) ls.length ⟨0, rfl, Nat.zero_le _, rfl, rfl⟩ ?_
  rintro m fr hh J ⟨i, rfl, hi, rfl, rfl⟩ hJ
  by_cases hlt : i < ls.length
  ·obtain ⟨b, vs, t, r, u, l, rfl, h1, h2, h3, h4, A⟩ := B.at hlt
   have c0 : (0 : Int) ≤ (i : Int) := by omega
   have c1 : (i : Int) < (ls.length : Int) := by omega
   have ea := fun h => A.len (q := EC.q) (h := h)
   have hft := flat_take ls h4
   have hle := flat_take_le ls (i + 1)
   rw [hft, List.length_append] at hle
   have w1 : IntKind.i64.wrap (((ls.take i).flatten.length : Int) + (l.length : Int)) = ((ls.take (i + 1)).flatten.length : Int) := by rw [IntWalk.i64_in _ (by omega), hft, List.length_append]; omega
   have c2 : ¬ ((ls.take (i + 1)).flatten.length : Int) < 0 := by omega
   have w3 : IntKind.i64.wrap ((i : Int) + 1) = ((i + 1 : Nat) : Int) := by rw [IntWalk.i64_in _ (by omega)]; omega
   simp only [go_sem, ↓reduceIte, c0, c1, h2, h3, ea, w1, c2, w3]
   exact hJ (ls.length - (i + 1)) _ _ (by omega) ⟨i + 1, rfl, by omega, rfl, rfl⟩
  ·have c1 : ¬ (i : Int) < (ls.length : Int) := by omega
   obtain rfl : i = ls.length := by omega
   simp only [go_sem, ↓reduceIte, c1]
   rw [List.take_length]
   exact ⟨_, rfl⟩
 ·rintro fr hh ⟨tl, rfl, rfl⟩
  rw [MC_seq]
  refine MC.cut (fun fr h2 => ∃ w, fr = [(0, v), (6, w)] ∧ OutAt h2 hh.size w [] ∧ Ext hh h2) ?_ ?_
  ·by_cases h0 : ls.flatten.length = 0
   ·have c1 : (ls.flatten.length : Int) = 0 := by omega
    simp only [go_sem, ↓reduceIte, c1]
    exact ⟨_, rfl, .inl ⟨rfl, rfl⟩, Ext.refl _⟩
   ·have c1 : ¬ (ls.flatten.length : Int) = 0 := by omega
    have c2 : (0 : Int) < (ls.flatten.length : Int) := by omega
    have c3 : (ls.flatten.length : Int) ≤ 1099511627776 := by omega
    simp only [go_sem, ↓reduceIte, c1, c2, c3]
    exact ⟨_, rfl, .inr ⟨hh.size, rfl, Nat.le_refl _, by simp, by simp [bv]⟩, Ext.push _ _⟩
  rintro fr h2 ⟨w, rfl, O, X2⟩
  simp only [go_sem, ↓reduceIte, el]
  refine MC.cutb (fun fr h3 => ∃ w tl, fr = (6, w) :: tl ∧ OutAt h3 hh.size w ls.flatten ∧ Ext hh h3) ?_ ?_
  ·refine MC.loop (fun m fr h3 => ∃ i w, m = ls.length - i ∧ i ≤ ls.length ∧ fr = [(6, w), (25, v), (26, .int .i64 (ls.length : Int)), (27, .int .i64 (i : Int))] ∧ OutAt h3 hh.size w (ls.take i).flatten ∧ Ext hh h3) ls.length ⟨0, w, rfl, Nat.zero_le _, rfl, O, X2⟩ ?_
   clear O X2
   rintro m fr h3 J ⟨i, w, rfl, hi, rfl, O, X⟩ hJ
   by_cases hlt : i < ls.length
   ·obtain ⟨b, vs, t, r, u, l, rfl, h1, g2, g3, g4, A⟩ := B.at hlt
    have c0 : (0 : Int) ≤ (i : Int) := by omega
    have c1 : (i : Int) < (ls.length : Int) := by omega
    have hft := flat_take ls g4
    have hle := flat_take_le ls (i + 1)
    rw [hft, List.length_append] at hle
    have g2' : h3.get b = some (.cells vs t r) := by rw [X.get b h1]; exact g2
    obtain ⟨w', h4, ha, O4, X4, _, _⟩ := out_cat (q := EC.q) O X.size (A.ext X).first (by omega)
    have w3 : IntKind.i64.wrap ((i : Int) + 1) = ((i + 1 : Nat) : Int) := by rw [IntWalk.i64_in _ (by omega)]; omega
    simp only [go_sem, ↓reduceIte, c0, c1, g2', g3, ha, w3]
    exact hJ (ls.length - (i + 1)) _ _ (by omega) ⟨i + 1, w', rfl, by omega, rfl, by rw [hft]; exact O4, X.low X4 (Nat.le_refl _)⟩
   ·have c1 : ¬ (i : Int) < (ls.length : Int) := by omega
    obtain rfl : i = ls.length := by omega
    simp only [go_sem, ↓reduceIte, c1]
    rw [List.take_length] at O
    exact ⟨w, _, rfl, O, X⟩
  ·rintro fr h3 ⟨w, tl, rfl, O, X⟩
   simp only [go_sem, ↓reduceIte]
   exact ⟨O, X⟩

/-- A list of slices, being gathered. -/
abbrev SlT := Option Addr × Nat × Nat
end Go.E1
