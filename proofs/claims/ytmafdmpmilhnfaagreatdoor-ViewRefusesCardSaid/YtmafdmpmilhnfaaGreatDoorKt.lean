/-
  Texts joined: NA, NM, NB, NC, ND, NE, NF, NG, NH, NI, NJ.
-/
import Derived.Test.YtmafdmpmilhnfaaGreatDoorKn
/-
 Layer 1: numbers in bytes; what reads bytes.
-/
namespace Go.M
open Go.E1
def big (l : Bytes) : Nat := l.foldl (fun n c => n * 256 + c.toNat) 0
theorem big_snoc (l : Bytes) (c : UInt8) : big (l ++ [c]) = big l * 256 + c.toNat := by simp [big]
theorem big_lt : ∀ (n : Nat) (l : Bytes), l.length = n → big l < 256 ^ n
 | 0, l, h => by rw [List.length_eq_zero_iff.1 h]; decide
 | n + 1, l, h => by
  have hne : l ≠ [] := fun e => by rw [e] at h; simp at h
  rw [← List.dropLast_concat_getLast hne, big_snoc]
  have := big_lt n l.dropLast (by simp [h])
  have hc := (l.getLast hne).toNat_lt
  rw [Nat.pow_succ]; omega
end Go.M
namespace Go.E1
open Go Go.Proofs Go.M
set_option linter.unusedSimpArgs false

/-! ### Parts of bytes -/
theorem ba_lohi {q : EqF} {h : LHeap} {v : Value} {l : Bytes} (hv : BytesAt h v l) {i j : Nat} (hij : i ≤ j) (hj : j ≤ l.length) {k k' : IntKind} :
  ∃ w, (∀ hh : LHeap, lexec q (.slice 1 v (some (.int k (i : Nat))) (some (.int k' (j : Nat))) none) hh = some (w, hh)) ∧ BytesAt h w ((l.drop i).take (j - i)) ∧ ∀ b, blkOf w = some b → blkOf v = some b := by
 rcases hv with ⟨rfl, c, rfl⟩ | ⟨b, o, cs, t, r, rfl, h1, h2, h3, h4⟩
 ·simp only [List.length_nil] at hj
  obtain rfl : j = 0 := by omega
  obtain rfl : i = 0 := by omega
  exact ⟨.slice none 0 c, fun hh => x_slice_lohi_nil, .inl ⟨rfl, c, rfl⟩, fun b hb => hb⟩
 ·refine ⟨_, fun hh => x_slice_lohi hij hj, .inr ⟨b, o + i * 1, cs, t, r, by rw [List.length_take, List.length_drop, Nat.min_eq_left (by omega)], h1, h2, ?_, ?_⟩, fun b hb => hb⟩
  ·rw [List.length_take, List.length_drop]; omega
  ·rw [List.length_take, List.length_drop, Nat.min_eq_left (by omega), Nat.mul_one]
   exact bytes_sub h4 i (j - i) (by omega)
theorem ba_lo {q : EqF} {h : LHeap} {v : Value} {l : Bytes} (hv : BytesAt h v l) {i : Nat} (hi : i ≤ l.length) {k : IntKind} :
  ∃ w, (∀ hh : LHeap, lexec q (.slice 1 v (some (.int k (i : Nat))) none none) hh = some (w, hh)) ∧ BytesAt h w (l.drop i) ∧ ∀ b, blkOf w = some b → blkOf v = some b := by
 rcases hv with ⟨rfl, c, rfl⟩ | ⟨b, o, cs, t, r, rfl, h1, h2, h3, h4⟩
 ·simp only [List.length_nil] at hi
  obtain rfl : i = 0 := by omega
  exact ⟨.slice none 0 c, fun hh => x_slice_lo_nil, .inl ⟨rfl, c, rfl⟩, fun b hb => hb⟩
 ·refine ⟨_, fun hh => x_slice_lo hi, .inr ⟨b, o + i * 1, cs, t, r, by rw [List.length_drop], h1, h2, by rw [List.length_drop]; omega, ?_⟩, fun b hb => hb⟩
  rw [List.length_drop, Nat.mul_one]
  have := bytes_sub h4 i (l.length - i) (by omega)
  rw [this, List.take_of_length_le (by rw [List.length_drop]; omega)]
theorem ba_hi {q : EqF} {h : LHeap} {v : Value} {l : Bytes} (hv : BytesAt h v l) {j : Nat} (hj : j ≤ l.length) {k : IntKind} :
  ∃ w, (∀ hh : LHeap, lexec q (.slice 1 v none (some (.int k (j : Nat))) none) hh = some (w, hh)) ∧ BytesAt h w (l.take j) ∧ ∀ b, blkOf w = some b → blkOf v = some b := by
 rcases hv with ⟨rfl, c, rfl⟩ | ⟨b, o, cs, t, r, rfl, h1, h2, h3, h4⟩
 ·simp only [List.length_nil] at hj
  obtain rfl : j = 0 := by omega
  exact ⟨.slice none 0 c, fun hh => by simp [lexec, lo1], .inl ⟨rfl, c, rfl⟩, fun b hb => hb⟩
 ·refine ⟨_, fun hh => x_slice_hi hj, .inr ⟨b, o, cs, t, r, by rw [List.length_take, Nat.min_eq_left hj], h1, h2, by rw [List.length_take]; omega, ?_⟩, fun b hb => hb⟩
  rw [List.length_take, Nat.min_eq_left hj]
  have := bytes_sub h4 0 j (by omega)
  simpa using this
/-- With three indices. -/
theorem ba_hi3 {q : EqF} {h : LHeap} {v : Value} {l : Bytes} (hv : BytesAt h v l) {j : Nat} (hj : j ≤ l.length) {k k' : IntKind} :
  ∃ w, (∀ hh : LHeap, lexec q (.slice 1 v none (some (.int k (j : Nat))) (some (.int k' (j : Nat)))) hh = some (w, hh)) ∧ BytesAt h w (l.take j) ∧ ∀ b, blkOf w = some b → blkOf v = some b := by
 rcases hv with ⟨rfl, c, rfl⟩ | ⟨b, o, cs, t, r, rfl, h1, h2, h3, h4⟩
 ·simp only [List.length_nil] at hj
  obtain rfl : j = 0 := by omega
  exact ⟨.slice none 0 c, fun hh => by simp [lexec, lo1], .inl ⟨rfl, c, rfl⟩, fun b hb => hb⟩
 ·refine ⟨.slice (some ⟨b, o, none⟩) j 1, fun hh => by simp [lexec, lo1]; omega, .inr ⟨b, o, cs, t, r, by rw [List.length_take, Nat.min_eq_left hj], h1, h2, by rw [List.length_take]; omega, ?_⟩, fun b hb => hb⟩
  rw [List.length_take, Nat.min_eq_left hj]
  have := bytes_sub h4 0 j (by omega)
  simpa using this

/-! ### Numbers -/
theorem or_nat {k : IntKind} {a c : Nat} (ha : a < 2 ^ k.bits) (hc : c < 2 ^ k.bits) : orI k (a : Int) (c : Int) = k.wrap ((a ||| c : Nat) : Int) := by
 have e : ∀ x : Nat, BitVec.ofInt k.bits (x : Int) = BitVec.ofNat k.bits x := fun x => by simp
 unfold orI
 rw [e, e]
 congr 2
 simp only [BitVec.toNat_or, BitVec.toNat_ofNat]
 rw [Nat.mod_eq_of_lt ha, Nat.mod_eq_of_lt hc]
theorem or_low {a c : Nat} (hc : c < 256) : a * 256 ||| c = a * 256 + c := by
 have := Nat.two_pow_add_eq_or_of_lt (i := 8) hc a
 rw [show (2 : Nat) ^ 8 = 256 by decide, Nat.mul_comm 256 a] at this
 exact this.symm
theorem u64_in {n : Nat} (h : n < 18446744073709551616) : IntKind.u64.wrap (n : Int) = (n : Int) := by
 simp only [IntKind.wrap, IntKind.signed, IntKind.bits]
 simp
 omega
theorem big_step {n c : Nat} (hn : n < 72057594037927936) (hc : c < 256) : orI .u64 (shlI .u64 (n : Int) 8) (IntKind.u64.wrap (c : Int)) = ((n * 256 + c : Nat) : Int) := by
 have e1 : shlI .u64 (n : Int) 8 = ((n * 256 : Nat) : Int) := by
  unfold shlI
  rw [show (2 : Int) ^ (min (8 : Int).toNat IntKind.u64.bits) = 256 by decide, show (n : Int) * 256 = ((n * 256 : Nat) : Int) by omega]
  exact u64_in (by omega)
 rw [e1, u64_in (by omega), or_nat (by show n * 256 < 2 ^ 64; omega) (by show c < 2 ^ 64; omega), or_low hc]
 exact u64_in (by omega)

theorem sNumB {h : LHeap} {v : Value} {l : Bytes} (hv : BytesAt h v l) (hl : l.length ≤ 8) : LCalls EC 142 [v] h fun u h' => u = .tuple #[.int .u64 (big l : Nat), .bool true] ∧ h' = h := by
 refine LCalls.enter (lf := lf142) rfl rfl (by simp [lf142]) ?_
 have eL := fun hh => hv.len (q := EC.q) (h := hh)
 have c1 : ¬ ((l.length : Int) > 8) := by omega
 have c2 : ¬ ((8 : Int) < (l.length : Int)) := by omega
 simp only [go_sem, lf142, ↓reduceIte, eL, c1, c2]
 refine MC.cutb (fun fr hh => ∃ tl, fr = (4, .int .u64 (big l : Nat)) :: tl ∧ hh = h) ?_ ?_
 ·refine MC.loop (fun m fr hh => ∃ i tl, m = l.length - i ∧ fr = (4, .int .u64 (big (l.take i) : Nat)) :: (10, v) :: (11, .int .i64 l.length) :: (12, .int .i64 (i : Nat)) :: tl ∧ i ≤ l.length ∧ hh = h) l.length ⟨0, [], rfl, rfl, Nat.zero_le _, rfl⟩ ?_
  rintro m fr hh J ⟨i, tl, rfl, rfl, hi, rfl⟩ hJ
  by_cases hlt : i < l.length
  ·have d1 : (i : Int) < (l.length : Int) := by omega
   have d0 : (0 : Int) ≤ (i : Int) := by omega
   obtain ⟨c, hc⟩ : ∃ c, l[i]? = some c := ⟨l[i], by simp [hlt]⟩
   rcases hv with ⟨rfl, _⟩ | ⟨b, o, cs, t, r, rfl, h1, h2, h3, h4⟩
   ·simp at hlt
   have hcell := bytes_get h4 hc
   have w1 : IntKind.i64.wrap ((i : Int) + 1) = ((i + 1 : Nat) : Int) := by rw [IntWalk.i64_in _ (by omega)]; omega
   have tk : big (l.take (i + 1)) = big (l.take i) * 256 + c.toNat := by rw [List.take_add_one, hc]; exact big_snoc _ _
   simp only [go_sem, ↓reduceIte, d1, d0, Int.toNat_natCast, h2, Nat.mul_one, hcell, w1]
   have hb := big_lt i (l.take i) (by rw [List.length_take]; omega)
   have hp : 256 ^ i ≤ 256 ^ 7 := Nat.pow_le_pow_right (by decide) (by omega)
   rw [show (256 : Nat) ^ 7 = 72057594037927936 by decide] at hp
   have hc8 := c.toNat_lt
   rw [big_step (by omega) (by omega)]
   exact hJ _ _ _ (by omega) ⟨i + 1, _, rfl, by rw [tk], by omega, rfl⟩
  ·have d1 : ¬ (i : Int) < (l.length : Int) := by omega
   obtain rfl : i = l.length := by omega
   simp only [go_sem, ↓reduceIte, d1, List.take_length]
   exact ⟨_, rfl⟩
 ·rintro fr hh ⟨tl, rfl, rfl⟩
  simp only [go_sem, ↓reduceIte]
end Go.E1

/-
 What the backend says, plainly: frames, items, blocks, events.
-/
namespace Go.M
open Go.E1

structure Frm where
 ty : Nat
 fl : Nat
 st : Nat
 pl : Bytes
abbrev Flt := Nat × Bool
def okF : Flt := (0, false)
def hasF (fl k : Nat) : Bool := (fl &&& k) != 0
def frOk (f : Frm) : Prop := f.ty ≤ 255 ∧ f.fl ≤ 255 ∧ f.st ≤ 2147483647 ∧ f.pl.length ≤ 16777215
def bytesOfN (n : Nat) : Nat → Bytes
 | 0 => []
 | k + 1 => bytesOfN (n / 256) k ++ [UInt8.ofNat (n % 256)]
def frBytes (f : Frm) : Bytes := bytesOfN f.pl.length 3 ++ ([UInt8.ofNat f.ty, UInt8.ofNat f.fl] ++ (bytesOfN f.st 4 ++ f.pl))

inductive PRes where
 | short
 | big
 | ok (f : Frm) (used : Nat)
def parseF (most : Nat) (b : Bytes) : PRes :=
 if b.length < 9 then .short else
 if most < M.big (b.take 3) then .big else
 if b.length < 9 + M.big (b.take 3) then .short else
 .ok ⟨M.big ((b.drop 3).take 1), M.big ((b.drop 4).take 1), M.big ((b.drop 5).take 4) % 2147483648, (b.drop 9).take (M.big (b.take 3))⟩ (9 + M.big (b.take 3))
/-- All frames, and what is left; none: one is too great. -/
def allF (most : Nat) : Nat → Bytes → Option (List Frm × Bytes)
 | 0, _ => none
 | k + 1, b => match parseF most b with
  | .short => some ([], b)
  | .big => none
  | .ok f n => (allF most k (b.drop n)).map fun p => (f :: p.1, p.2)

def placeF (f : Frm) : Flt :=
 if f.ty = 4 ∨ f.ty = 6 ∨ f.ty = 7 then (if f.st ≠ 0 then (101, true) else okF)
 else if f.ty = 0 ∨ f.ty = 1 ∨ f.ty = 2 ∨ f.ty = 3 ∨ f.ty = 9 then (if f.st = 0 then (101, true) else okF)
 else if f.ty = 5 then (101, true) else okF
def lengthF (f : Frm) : Flt :=
 if f.ty = 3 then (if f.pl.length ≠ 4 then (106, true) else okF)
 else if f.ty = 4 then (if f.pl.length % 6 ≠ 0 ∨ hasF f.fl 1 = true ∧ 0 < f.pl.length then (106, true) else okF)
 else if f.ty = 6 then (if f.pl.length ≠ 8 then (106, true) else okF)
 else if f.ty = 7 then (if f.pl.length < 8 then (106, true) else okF)
 else if f.ty = 8 then (if f.pl.length ≠ 4 then (106, true) else okF)
 else if f.ty = 2 then (if f.pl.length ≠ 5 then (106, false) else okF)
 else okF

structure Itm where
 ty : Nat
 st : Nat
 text : Bytes
 fin : Bool
 endh : Bool
 ack : Bool
 flow : Nat
 code : Nat
 last : Nat
 inc : Nat
 dep : Nat
 wt : Nat
 weighed : Bool
 excl : Bool
 pairs : List (Nat × Nat)
def bareI (f : Frm) : Itm := ⟨f.ty, f.st, [], false, false, false, if f.ty = 0 then f.pl.length else 0, 0, 0, 0, 0, 0, false, false, []⟩
def weighI (x : Itm) (l : Bytes) : Option (Itm × Bytes) :=
 if l.length < 5 then none else
 some ({ x with dep := M.big (l.take 4) % 2147483648, excl := decide (2147483647 < M.big (l.take 4)), wt := M.big ((l.drop 4).take 1) + 1, weighed := true }, l.drop 5)
def padI (f : Frm) : Option (Nat × Bytes) :=
 if hasF f.fl 8 = true then (if f.pl.length < 1 then none else some (M.big (f.pl.take 1), f.pl.drop 1)) else some (0, f.pl)
def paddedI (x : Itm) (f : Frm) : Itm × Flt :=
 match padI f with
 | none => (x, (106, true))
 | some (pad, l) => match (if f.ty = 1 ∧ hasF f.fl 32 = true then weighI x l else some (x, l)) with
  | none => (x, (106, true))
  | some (x, l) => if l.length < pad then (x, (101, true)) else ({ x with text := l.take (l.length - pad) }, okF)
def ownI (x : Itm) : Flt := if x.weighed = true ∧ x.dep = x.st then (101, false) else okF
def pairsI : Nat → Bytes → List (Nat × Nat)
 | 0, _ => []
 | k + 1, l => (M.big (l.take 2), M.big ((l.drop 2).take 4)) :: pairsI k (l.drop 6)
def readI (x : Itm) (f : Frm) : Itm × Flt :=
 if f.ty = 0 ∨ f.ty = 1 then
  let p := paddedI { x with fin := hasF f.fl 1, endh := decide (f.ty = 1) && hasF f.fl 4 } f
  if p.2 ≠ okF then p else (p.1, ownI p.1)
 else if f.ty = 2 then (match weighI x f.pl with
  | none => (x, ownI x)
  | some (x, _) => (x, ownI x))
 else if f.ty = 3 then ({ x with code := M.big (f.pl.take 4) }, okF)
 else if f.ty = 4 then ({ x with ack := hasF f.fl 1, pairs := pairsI (f.pl.length / 6) f.pl }, okF)
 else if f.ty = 6 then ({ x with ack := hasF f.fl 1, text := f.pl }, okF)
 else if f.ty = 7 then ({ x with last := M.big (f.pl.take 4) % 2147483648, code := M.big ((f.pl.drop 4).take 4), text := f.pl.drop 8 }, okF)
 else if f.ty = 8 then ({ x with inc := M.big (f.pl.take 4) % 2147483648 }, if M.big (f.pl.take 4) % 2147483648 = 0 then (101, decide (f.st = 0)) else okF)
 else if f.ty = 9 then ({ x with endh := hasF f.fl 4, text := f.pl }, okF)
 else (x, okF)
def parseI (f : Frm) : Itm × Flt :=
 if placeF f ≠ okF then (bareI f, placeF f) else
 if lengthF f ≠ okF then (bareI f, lengthF f) else
 let p := readI (bareI f) f
 if p.2 ≠ okF then (bareI f, p.2) else (p.1, okF)

structure Asm where
 within : Bool
 st : Nat
 text : Bytes
 fin : Bool
def mayA (a : Asm) (x : Itm) : Bool := if a.within = true then x.ty == 9 && x.st == a.st else !(x.ty == 9)
def onA (a : Asm) (x : Itm) : Asm × Option (Nat × Bytes × Bool) × Flt :=
 if mayA a x = false then (a, none, (101, true)) else
 if x.ty = 1 ∨ x.ty = 9 then
  let n : Nat × Bytes × Bool := if x.ty = 1 then (x.st, [], x.fin) else (a.st, a.text, a.fin)
  if 16384 < n.2.1.length + x.text.length then (a, none, (101, true)) else
  if x.endh = true then (⟨false, 0, [], false⟩, some (n.1, n.2.1 ++ x.text, n.2.2), okF) else (⟨true, n.1, n.2.1 ++ x.text, n.2.2⟩, none, okF)
 else (a, none, okF)

structure Ev where
 kind : Nat
 st : Nat
 lines : List Ln
 text : Bytes
 pairs : List (Nat × Nat)
 fin : Bool
 n : Nat
 code : Nat
def plainI (x : Itm) : Option Ev :=
 if x.ty = 0 then some ⟨2, x.st, [], x.text, [], x.fin, x.flow, 0⟩
 else if x.ty = 3 then some ⟨3, x.st, [], [], [], false, 0, x.code⟩
 else if x.ty = 8 then some ⟨4, x.st, [], [], [], false, x.inc, 0⟩
 else if x.ty = 4 then some ⟨if x.ack then 6 else 5, x.st, [], [], x.pairs, false, 0, 0⟩
 else if x.ty = 6 then some ⟨if x.ack then 8 else 7, x.st, [], x.text, [], false, 0, 0⟩
 else if x.ty = 7 then some ⟨9, x.st, [], x.text, [], false, x.last, x.code⟩
 else none

structure Rd where
 asm : Asm
 dec : Dec
 begun : Bool
def mayR (r : Rd) (f : Frm) : Bool := if r.begun = false then f.ty == 4 && !hasF f.fl 1 else !r.asm.within || (f.ty == 9 && f.st == r.asm.st)
def readR (r : Rd) (f : Frm) : Rd × Option Ev × Flt :=
 if mayR r f = false then (r, none, (101, true)) else
 let p := parseI f
 if p.2.2 = true ∨ p.2 ≠ okF ∧ f.ty = 1 then (r, none, (p.2.1, true)) else
 if p.2 ≠ okF then (r, some ⟨10, p.1.st, [], [], [], false, p.1.flow, p.2.1⟩, okF) else
 let o := onA r.asm p.1
 if o.2.2 ≠ okF then (⟨o.1, r.dec, true⟩, none, o.2.2) else
 match o.2.1 with
 | some b => match M.decode 0 16384 r.dec b.2.1 with
  | (d, .ok l) => (⟨o.1, d, true⟩, some ⟨1, b.1, l, [], [], b.2.2, 0, 0⟩, okF)
  | (d, .error _) => (⟨o.1, d, true⟩, none, (109, true))
 | none => (⟨o.1, r.dec, true⟩, plainI p.1, okF)
def procR : Rd → List Frm → Rd × List Ev × Flt
 | r, [] => (r, [], okF)
 | r, f :: fs => match readR r f with
  | (r', e, z) => if z ≠ okF then (r', [], z) else match procR r' fs with
   | (r'', es, z') => (r'', e.toList ++ es, z')

structure Sd where
 wait : Bytes
 big : Bool
 rd : Rd
 dead : Bool
def feedS (s : Sd) (b : Bytes) : Sd × List Ev × Flt :=
 if s.dead = true then (s, [], (105, true)) else
 if s.big = true then ({ s with dead := true }, [], (25, true)) else
 match allF 16384 ((s.wait ++ b).length + 1) (s.wait ++ b) with
 | none => ({ s with wait := [], big := true, dead := true }, [], (106, true))
 | some (fs, rest) => match procR s.rd fs with
  | (r, es, z) => (⟨rest, false, r, decide (z ≠ okF)⟩, es, z)
end Go.M

/-
 Layer 1: what reads bytes.
-/
namespace Go.E1
open Go Go.Proofs Go.M
set_option linter.unusedSimpArgs false

/-- Nothing but one block is changed. -/
structure Upd (r : Nat) (h h' : LHeap) : Prop where
 size : h'.size = h.size
 get : ∀ b, b ≠ r → h'.get b = h.get b
theorem Upd.refl (r : Nat) (h : LHeap) : Upd r h h := ⟨rfl, fun _ _ => rfl⟩
theorem Upd.trans {r : Nat} {a b c : LHeap} (x : Upd r a b) (y : Upd r b c) : Upd r a c := ⟨y.size.trans x.size, fun i hi => (y.get i hi).trans (x.get i hi)⟩
theorem Upd.set (r : Nat) (h : LHeap) (o : LObj) : Upd r h (h.set r o) := ⟨by simp, fun b hb => by simp [hb]⟩
theorem Upd.ext {r : Nat} {h0 h h' : LHeap} (u : Upd r h h') (X : Ext h0 h) (hr : h0.size ≤ r) : Ext h0 h' := ⟨by rw [u.size]; exact X.size, fun b hb => by rw [u.get b (by omega), X.get b hb]⟩
theorem BytesAt.upd {h h' : LHeap} {v : Value} {l : Bytes} {r : Nat} (a : BytesAt h v l) (hb : blkOf v ≠ some r) (u : Upd r h h') : BytesAt h' v l := by
 rcases a with h1 | ⟨b, o, cs, t, r', rfl, h2, h3, h4, h5⟩
 ·exact .inl h1
 ·have : b ≠ r := fun e => hb (by rw [e]; rfl)
  exact .inr ⟨b, o, cs, t, r', rfl, by rw [u.size]; exact h2, by rw [u.get b this]; exact h3, h4, h5⟩
theorem BytesAt.shape {h : LHeap} {v : Value} {l : Bytes} (a : BytesAt h v l) : ∃ a n e, v = .slice a n e := by
 rcases a with ⟨_, c, rfl⟩ | ⟨b', o, cs, t, r', rfl, _⟩ <;> exact ⟨_, _, _, rfl⟩
theorem BytesAt.lt {h : LHeap} {v : Value} {l : Bytes} (a : BytesAt h v l) {b : Nat} (hb : blkOf v = some b) : b < h.size := by
 rcases a with ⟨_, c, rfl⟩ | ⟨b', o, cs, t, r', rfl, h2, _⟩
 ·cases hb
 ·simp only [blkOf_some, Option.some.injEq] at hb
  omega

/-- What reads these bytes, of a block 'lo' or a later one. -/
def InR (h : LHeap) (lo hi r : Nat) (l : Bytes) : Prop := ∃ v, (r < hi ∧ hi ≤ h.size) ∧ lo ≤ r ∧ h.get r = some (.cells [v] true true) ∧ BytesAt h v l ∧ blkOf v ≠ some r ∧ ∀ b, blkOf v = some b → lo ≤ b ∧ b < hi
theorem InR.ext {h h' : LHeap} {lo hi r : Nat} {l : Bytes} (a : InR h lo hi r l) (X : Ext h h') : InR h' lo hi r l := by
 obtain ⟨v, h1, h0, h2, h3, h4, h5⟩ := a
 exact ⟨v, ⟨h1.1, Nat.le_trans h1.2 X.size⟩, h0, by rw [X.get r (by omega)]; exact h2, h3.ext X, h4, h5⟩

theorem OutAt.blk {h : LHeap} {lo : Nat} {v : Value} {l : Bytes} (O : OutAt h lo v l) {b : Nat} (e : blkOf v = some b) : lo ≤ b := by
 rcases O with ⟨_, rfl⟩ | ⟨b', rfl, h2, _⟩
 ·cases e
 ·simp only [blkOf_some, Option.some.injEq] at e
  omega
theorem sInNew {h : LHeap} {v : Value} {l : Bytes} (hv : BytesAt h v l) (hl : l.length < 1000000) : LCalls EC 68 [v] h fun u h' => ∃ r, u = .pointer (some ⟨r, 0, none⟩) ∧ InR h' h.size h'.size r l ∧ Ext h h' ∧ h.size ≤ r := by
 refine LCalls.enter (lf := lf68) rfl rfl (by simp [lf68]) ?_
 simp only [go_sem, lf68, ↓reduceIte]
 refine MCall.by (sClone hv hl) ?_
 rintro u h2 ⟨O, X2⟩
 obtain ⟨a0, n0, e0, rfl⟩ : ∃ a n e, u = .slice a n e := by
  rcases O with ⟨_, rfl⟩ | ⟨b, rfl, _⟩ <;> exact ⟨_, _, _, rfl⟩
 have hb : blkOf (.slice a0 n0 e0) ≠ some h2.size := fun e => by have := O.bytes.lt e; omega
 simp only [go_sem, ↓reduceIte]
 exact ⟨h2.size, rfl, ⟨_, by simp, X2.size, by simp, O.bytes.ext (Ext.push _ _), hb, fun b e => ⟨O.blk e, by have := O.bytes.lt e; simp; omega⟩⟩, X2.trans (Ext.push _ _), X2.size⟩

theorem sTake {h : LHeap} {lo hi r : Nat} {l : Bytes} (I : InR h lo hi r l) {n : Nat} (hn : n ≤ l.length) (_ : l.length < 1000000) :
  LCalls EC 141 [.pointer (some ⟨r, 0, none⟩), .int .i64 (n : Nat)] h fun u h' => ∃ w, u = .tuple #[w, .bool true] ∧ BytesAt h' w (l.take n) ∧ blkOf w ≠ some r ∧ (∀ b, blkOf w = some b → lo ≤ b ∧ b < hi) ∧ InR h' lo hi r (l.drop n) ∧ Upd r h h' := by
 refine LCalls.enter (lf := lf141) rfl rfl (by simp [lf141]) ?_
 obtain ⟨v, h1, h0, h2, h3, h4, h5⟩ := I
 have eL := fun hh => h3.len (q := EC.q) (h := hh)
 have d1 : ¬ (n : Int) < 0 := by omega
 have d2 : ¬ (n : Int) > (l.length : Int) := by omega
 have d2' : ¬ (l.length : Int) < (n : Int) := by omega
 obtain ⟨w, hw, B, hb⟩ := ba_hi3 (q := EC.q) (k := .i64) (k' := .i64) h3 hn
 obtain ⟨w2, hw2, B2, hb2⟩ := ba_lo (q := EC.q) (k := .i64) h3 hn
 obtain ⟨sa, sn, se, rfl⟩ := B2.shape
 have U : Upd r h (h.set r (.cells [.slice sa sn se] true true)) := Upd.set _ _ _
 simp only [go_sem, lf141, ↓reduceIte, h2, eL, d1, d2, d2', hw, hw2]
 have n1 : blkOf w ≠ some r := fun e => h4 (hb r e)
 have n2 : blkOf (.slice sa sn se) ≠ some r := fun e => h4 (hb2 r e)
 exact ⟨w, rfl, B.upd n1 U, n1, fun b e => h5 b (hb b e), ⟨_, by simpa using h1, h0, by simp [show r < h.size by omega], B2.upd n2 U, n2, fun b e => h5 b (hb2 b e)⟩, U⟩
theorem sTakeNo {h : LHeap} {lo hi r : Nat} {l : Bytes} (I : InR h lo hi r l) {n : Nat} (hn : l.length < n) :
  LCalls EC 141 [.pointer (some ⟨r, 0, none⟩), .int .i64 (n : Nat)] h fun u h' => u = .tuple #[.slice none 0 0, .bool false] ∧ h' = h := by
 refine LCalls.enter (lf := lf141) rfl rfl (by simp [lf141]) ?_
 obtain ⟨v, h1, h0, h2, h3, h4, h5⟩ := I
 have eL := fun hh => h3.len (q := EC.q) (h := hh)
 have d1 : ¬ (n : Int) < 0 := by omega
 have d2 : (n : Int) > (l.length : Int) := by omega
 have d2' : (l.length : Int) < (n : Int) := by omega
 simp only [go_sem, lf141, ↓reduceIte, h2, eL, d1, d2, d2']

theorem sNumI {h : LHeap} {lo hi r : Nat} {l : Bytes} (I : InR h lo hi r l) {n : Nat} (hn : n ≤ l.length) (h8 : n ≤ 8) (hl : l.length < 1000000) :
  LCalls EC 99 [.pointer (some ⟨r, 0, none⟩), .int .i64 (n : Nat)] h fun u h' => u = .tuple #[.int .u64 (big (l.take n) : Nat), .bool true] ∧ InR h' lo hi r (l.drop n) ∧ Upd r h h' := by
 refine LCalls.enter (lf := lf99) rfl rfl (by simp [lf99]) ?_
 have d2 : ¬ (n : Int) > 8 := by omega
 have d2' : ¬ (8 : Int) < (n : Int) := by omega
 simp only [go_sem, lf99, ↓reduceIte, d2, d2']
 refine MCall.by (sTake I hn hl) ?_
 rintro u h2 ⟨w, rfl, B, hb, hlo, I2, U⟩
 simp only [go_sem, ↓reduceIte]
 refine MCall.by (sNumB B (by rw [List.length_take]; omega)) ?_
 rintro u h3 ⟨rfl, e3⟩
 rw [e3]
 simp only [go_sem, ↓reduceIte]
 exact ⟨I2, U⟩
theorem sNumNo {h : LHeap} {lo hi r : Nat} {l : Bytes} (I : InR h lo hi r l) {n : Nat} (hn : l.length < n) (h8 : n ≤ 8) :
  LCalls EC 99 [.pointer (some ⟨r, 0, none⟩), .int .i64 (n : Nat)] h fun u h' => u = .tuple #[.int .u64 0, .bool false] ∧ h' = h := by
 refine LCalls.enter (lf := lf99) rfl rfl (by simp [lf99]) ?_
 have d2 : ¬ (n : Int) > 8 := by omega
 have d2' : ¬ (8 : Int) < (n : Int) := by omega
 simp only [go_sem, lf99, ↓reduceIte, d2, d2']
 refine MCall.by (sTakeNo I hn) ?_
 rintro u h2 ⟨rfl, rfl⟩
 simp only [go_sem, ↓reduceIte]
theorem sLeft {h : LHeap} {lo hi r : Nat} {l : Bytes} (I : InR h lo hi r l) : LCalls EC 106 [.pointer (some ⟨r, 0, none⟩)] h fun u h' => u = .int .i64 (l.length : Nat) ∧ h' = h := by
 refine LCalls.enter (lf := lf106) rfl rfl (by simp [lf106]) ?_
 obtain ⟨v, h1, h0, h2, h3, h4, h5⟩ := I
 have eL := fun hh => h3.len (q := EC.q) (h := hh)
 simp only [go_sem, lf106, ↓reduceIte, h2, eL]
theorem sRest {h : LHeap} {lo hi r : Nat} {l : Bytes} (I : InR h lo hi r l) (hl : l.length < 1000000) : LCalls EC 107 [.pointer (some ⟨r, 0, none⟩)] h fun u h' => BytesAt h' u l ∧ blkOf u ≠ some r ∧ (∀ b, blkOf u = some b → lo ≤ b ∧ b < hi) ∧ Upd r h h' := by
 refine LCalls.enter (lf := lf107) rfl rfl (by simp [lf107]) ?_
 have I' := I
 obtain ⟨v, h1, h0, h2, h3, h4, h5⟩ := I
 have eL := fun hh => h3.len (q := EC.q) (h := hh)
 simp only [go_sem, lf107, ↓reduceIte, h2, eL]
 refine MCall.by (sTake I' (Nat.le_refl _) hl) ?_
 rintro u h3 ⟨w, rfl, B, hb, hlo, I2, U⟩
 rw [List.take_length] at B
 simp only [go_sem, ↓reduceIte]
 exact ⟨B, hb, hlo, U⟩
theorem i64_u64 {n : Nat} (h : n < 9223372036854775808) : IntKind.i64.wrap (n : Int) = (n : Int) := IntWalk.i64_in _ (by omega)
theorem sByte {h : LHeap} {lo hi r : Nat} {l : Bytes} (I : InR h lo hi r l) (hn : 1 ≤ l.length) (hl : l.length < 1000000) :
  LCalls EC 143 [.pointer (some ⟨r, 0, none⟩)] h fun u h' => u = .tuple #[.int .i64 (big (l.take 1) : Nat), .bool true] ∧ InR h' lo hi r (l.drop 1) ∧ Upd r h h' := by
 refine LCalls.enter (lf := lf143) rfl rfl (by simp [lf143]) ?_
 simp only [go_sem, lf143, ↓reduceIte]
 refine MCall.by (sNumI (n := 1) I hn (by omega) hl) ?_
 rintro u h2 ⟨rfl, I2, U⟩
 have hb := big_lt 1 (l.take 1) (by rw [List.length_take]; omega)
 have w1 : IntKind.i64.wrap ((big (l.take 1) : Nat) : Int) = ((big (l.take 1) : Nat) : Int) := i64_u64 (by omega)
 simp only [go_sem, ↓reduceIte, w1]
 exact ⟨I2, U⟩
theorem sByteNo {h : LHeap} {lo hi r : Nat} {l : Bytes} (I : InR h lo hi r l) (hn : l.length < 1) :
  LCalls EC 143 [.pointer (some ⟨r, 0, none⟩)] h fun u h' => u = .tuple #[.int .i64 0, .bool false] ∧ h' = h := by
 refine LCalls.enter (lf := lf143) rfl rfl (by simp [lf143]) ?_
 simp only [go_sem, lf143, ↓reduceIte]
 refine MCall.by (sNumNo (n := 1) I hn (by omega)) ?_
 rintro u h2 ⟨rfl, rfl⟩
 have w1 : IntKind.i64.wrap 0 = 0 := by decide
 simp only [go_sem, ↓reduceIte, w1]

theorem sNumberF {h : LHeap} {lo hi r : Nat} {l : Bytes} (I : InR h lo hi r l) {n : Nat} (hn : n ≤ l.length) (h8 : n ≤ 4) (hl : l.length < 1000000) :
  LCalls EC 69 [.pointer (some ⟨r, 0, none⟩), .int .i64 (n : Nat)] h fun u h' => u = .int .i64 (big (l.take n) : Nat) ∧ InR h' lo hi r (l.drop n) ∧ Upd r h h' := by
 refine LCalls.enter (lf := lf69) rfl rfl (by simp [lf69]) ?_
 simp only [go_sem, lf69, ↓reduceIte]
 refine MCall.by (sNumI I hn (by omega) hl) ?_
 rintro u h2 ⟨rfl, I2, U⟩
 have hb := big_lt n (l.take n) (by rw [List.length_take]; omega)
 have hp : 256 ^ n ≤ 256 ^ 4 := Nat.pow_le_pow_right (by decide) h8
 rw [show (256 : Nat) ^ 4 = 4294967296 by decide] at hp
 have w1 : IntKind.i64.wrap ((big (l.take n) : Nat) : Int) = ((big (l.take n) : Nat) : Int) := i64_u64 (by omega)
 simp only [go_sem, ↓reduceIte, w1]
 exact ⟨I2, U⟩
theorem sNumberP {h : LHeap} {lo hi r : Nat} {l : Bytes} (I : InR h lo hi r l) {n : Nat} (hn : n ≤ l.length) (h8 : n ≤ 4) (hl : l.length < 1000000) :
  LCalls EC 105 [.pointer (some ⟨r, 0, none⟩), .int .i64 (n : Nat)] h fun u h' => u = .int .i64 (big (l.take n) : Nat) ∧ InR h' lo hi r (l.drop n) ∧ Upd r h h' := by
 refine LCalls.enter (lf := lf105) rfl rfl (by simp [lf105]) ?_
 simp only [go_sem, lf105, ↓reduceIte]
 refine MCall.by (sNumI I hn (by omega) hl) ?_
 rintro u h2 ⟨rfl, I2, U⟩
 have hb := big_lt n (l.take n) (by rw [List.length_take]; omega)
 have hp : 256 ^ n ≤ 256 ^ 4 := Nat.pow_le_pow_right (by decide) h8
 rw [show (256 : Nat) ^ 4 = 4294967296 by decide] at hp
 have w1 : IntKind.i64.wrap ((big (l.take n) : Nat) : Int) = ((big (l.take n) : Nat) : Int) := i64_u64 (by omega)
 simp only [go_sem, ↓reduceIte, w1]
 exact ⟨I2, U⟩
end Go.E1

/-
 Layer 9: frames, read.
-/
namespace Go.E1
open Go Go.Proofs Go.M
set_option linter.unusedSimpArgs false

theorem and_low {n : Nat} (h : n < 4294967296) : andI .i64 (n : Int) 2147483647 = ((n % 2147483648 : Nat) : Int) := by
 have e : ∀ x : Nat, BitVec.ofInt IntKind.i64.bits (x : Int) = BitVec.ofNat IntKind.i64.bits x := fun x => by simp
 unfold andI
 rw [show (2147483647 : Int) = ((2147483647 : Nat) : Int) from rfl, e, e]
 have h1 : (BitVec.ofNat IntKind.i64.bits n &&& BitVec.ofNat IntKind.i64.bits 2147483647).toNat = n &&& 2147483647 := by
  simp only [BitVec.toNat_and, BitVec.toNat_ofNat]
  rw [Nat.mod_eq_of_lt (by show n < 2 ^ 64; omega), Nat.mod_eq_of_lt (by decide)]
 rw [h1]
 have h2 : n &&& 2147483647 = n % 2147483648 := Nat.and_two_pow_sub_one_eq_mod n 31
 rw [h2]
 exact i64_u64 (by omega)

theorem OutAt.upd {h h' : LHeap} {lo r : Nat} {v : Value} {l : Bytes} (O : OutAt h lo v l) (u : Upd r h h') (hr : r < lo) : OutAt h' lo v l := by
 rcases O with h1 | ⟨b, rfl, h2, h3, h4⟩
 ·exact .inl h1
 ·exact .inr ⟨b, rfl, h2, by rw [u.size]; exact h3, by rw [u.get b (by omega)]; exact h4⟩
def frV (f : Frm) (pv : Value) : Value := .agg #[.int .i64 (f.ty : Nat), .int .i64 (f.fl : Nat), .int .i64 (f.st : Nat), pv]
def zeroFr : Value := .agg #[.int .i64 0, .int .i64 0, .int .i64 0, .slice none 0 0]
def ParseQ (lo : Nat) (res : PRes) (u : Value) (h' : LHeap) : Prop := match res with
 | .short => u = .tuple #[zeroFr, .int .i64 0, .int .i64 16]
 | .big => u = .tuple #[zeroFr, .int .i64 0, .int .i64 106]
 | .ok f n => ∃ pv, u = .tuple #[frV f pv, .int .i64 (n : Nat), .int .i64 0] ∧ OutAt h' lo pv f.pl

theorem sParseF {h : LHeap} {v : Value} {l : Bytes} (hv : BytesAt h v l) (hl : l.length < 1000000) (most : Nat) :
  LCalls EC 42 [v, .int .i64 (most : Nat)] h fun u h' => ParseQ h.size (parseF most l) u h' ∧ Ext h h' := by
 refine LCalls.enter (lf := lf42) rfl rfl (by simp [lf42]) ?_
 have eL := fun hh => hv.len (q := EC.q) (h := hh)
 unfold parseF
 by_cases c9 : l.length < 9
 ·have d9 : (l.length : Int) < 9 := by omega
  simp only [go_sem, lf42, ↓reduceIte, eL, d9]
  rw [if_pos c9]
  exact ⟨rfl, (Ext.push _ _).set (Nat.le_refl _) _⟩
 ·have d9 : ¬ (l.length : Int) < 9 := by omega
  obtain ⟨w, hw, B, hbw⟩ := ba_hi (q := EC.q) (k := .i64) (j := 9) hv (by omega)
  have hw' : ∀ hh : LHeap, lexec EC.q (.slice 1 v none (some (.int .i64 9)) none) hh = some (w, hh) := hw
  simp only [go_sem, lf42, ↓reduceIte, eL, d9, hw']
  generalize hq : h.push _ = h1
  have X1 : Ext h h1 := by rw [← hq]; exact Ext.push _ _
  have g1 : h1.get h.size = some (.cells [.int .i64 0, .int .i64 0, .int .i64 0, .slice none 0 0] true true) := by rw [← hq]; simp
  have s1 : h1.size = h.size + 1 := by rw [← hq]; simp
  clear hq
  rw [if_neg c9]
  have ht : (l.take 9).length = 9 := by rw [List.length_take]; omega
  refine MCall.by (sInNew (B.ext X1) (by omega)) ?_
  rintro u h2 ⟨r, rfl, I2, X2, hr⟩
  have g2 := (X2.get h.size (by omega)).trans g1
  have s2 := X2.size
  simp only [go_sem, ↓reduceIte]
  refine MCall.by (sNumberF (n := 3) I2 (by omega) (by omega) (by omega)) ?_
  rintro u h3 ⟨rfl, I3, U3⟩
  simp only [go_sem, ↓reduceIte]
  refine MCall.by (sNumberF (n := 1) I3 (by rw [List.length_drop]; omega) (by omega) (by rw [List.length_drop]; omega)) ?_
  rintro u h4 ⟨rfl, I4, U4⟩
  simp only [go_sem, ↓reduceIte]
  refine MCall.by (sNumberF (n := 1) I4 (by rw [List.length_drop, List.length_drop]; omega) (by omega) (by rw [List.length_drop, List.length_drop]; omega)) ?_
  rintro u h5 ⟨rfl, I5, U5⟩
  simp only [go_sem, ↓reduceIte]
  refine MCall.by (sNumberF (n := 4) I5 (by rw [List.length_drop, List.length_drop, List.length_drop]; omega) (by omega) (by rw [List.length_drop, List.length_drop, List.length_drop]; omega)) ?_
  rintro u h6 ⟨rfl, I6, U6⟩
  have U := ((U3.trans U4).trans U5).trans U6
  have g6 : h6.get h.size = some (.cells [.int .i64 0, .int .i64 0, .int .i64 0, .slice none 0 0] true true) := by rw [U.get h.size (by omega)]; exact g2
  have X6 : Ext h h6 := U.ext (X1.trans X2) (by omega)
  have s6 := U.size
  have e1 : List.take 3 (l.take 9) = l.take 3 := by rw [List.take_take]; rfl
  have e2 : List.take 1 (List.drop 3 (l.take 9)) = (l.drop 3).take 1 := by rw [List.drop_take, List.take_take]; rfl
  have e3 : List.take 1 (List.drop 1 (List.drop 3 (l.take 9))) = (l.drop 4).take 1 := by rw [List.drop_drop, List.drop_take, List.take_take]; rfl
  have e4 : List.take 4 (List.drop 1 (List.drop 1 (List.drop 3 (l.take 9)))) = (l.drop 5).take 4 := by rw [List.drop_drop, List.drop_drop, List.drop_take, List.take_take]; rfl
  rw [e1, e2, e3, e4]
  clear e1 e2 e3 e4
  have hb4 := big_lt 4 ((l.drop 5).take 4) (by rw [List.length_take, List.length_drop]; omega)
  rw [show (256 : Nat) ^ 4 = 4294967296 by decide] at hb4
  have hb3 := big_lt 3 (l.take 3) (by rw [List.length_take]; omega)
  rw [show (256 : Nat) ^ 3 = 16777216 by decide] at hb3
  have ha := and_low hb4
  generalize big (l.take 3) = n at *
  have w9 : IntKind.i64.wrap ((l.length : Int) - 9) = (l.length : Int) - 9 := IntWalk.i64_in _ (by omega)
  have w10 : IntKind.i64.wrap (9 + (n : Int)) = ((9 + n : Nat) : Int) := by rw [IntWalk.i64_in _ (by omega)]; omega
  by_cases cm : most < n
  ·have dm : (n : Int) > (most : Int) := by omega
   have dm' : (most : Int) < (n : Int) := by omega
   rw [if_pos cm]
   simp only [go_sem, ↓reduceIte, g6, ha, dm, dm']
   exact ⟨rfl, (X6.set (Nat.le_refl _) _).set (Nat.le_refl _) _⟩
  ·have dm : ¬ (n : Int) > (most : Int) := by omega
   have dm' : ¬ (most : Int) < (n : Int) := by omega
   rw [if_neg cm]
   by_cases cs : l.length < 9 + n
   ·have ds : (n : Int) > (l.length : Int) - 9 := by omega
    have ds' : (l.length : Int) - 9 < (n : Int) := by omega
    rw [if_pos cs]
    simp only [go_sem, ↓reduceIte, g6, ha, dm, dm', eL, w9, ds, ds']
    exact ⟨rfl, (X6.set (Nat.le_refl _) _).set (Nat.le_refl _) _⟩
   ·have ds : ¬ (n : Int) > (l.length : Int) - 9 := by omega
    have ds' : ¬ (l.length : Int) - 9 < (n : Int) := by omega
    rw [if_neg cs]
    obtain ⟨wp, hwp, Bp, hbp⟩ := ba_lohi (q := EC.q) (k := .i64) (k' := .i64) (i := 9) (j := 9 + n) hv (by omega) (by omega)
    have hwp' : ∀ hh : LHeap, lexec EC.q (.slice 1 v (some (.int .i64 9)) (some (.int .i64 ((9 + n : Nat) : Int))) none) hh = some (wp, hh) := hwp
    simp only [go_sem, ↓reduceIte, g6, ha, dm, dm', eL, w9, w10, ds, ds', hwp']
    generalize hq : h6.set h.size _ = h7
    have X7 : Ext h h7 := by rw [← hq]; exact X6.set (Nat.le_refl _) _
    have g7 : h7.get h.size = some (.cells [.int .i64 (big ((l.drop 3).take 1) : Nat), .int .i64 (big ((l.drop 4).take 1) : Nat), .int .i64 (big ((l.drop 5).take 4) % 2147483648 : Nat), .slice none 0 0] true true) := by rw [← hq]; simp
    have s7 : h7.size = h6.size := by rw [← hq]; simp
    clear hq
    refine MCall.by (sClone (Bp.ext X7) (by rw [List.length_take, List.length_drop]; omega)) ?_
    rintro u h8 ⟨O, X8⟩
    have g8 := (X8.get h.size (by omega)).trans g7
    obtain ⟨sa, sn, se, rfl⟩ := O.bytes.shape
    simp only [go_sem, ↓reduceIte, g8, w10]
    rw [show 9 + n - 9 = n by omega] at O
    refine ⟨⟨_, rfl, ((O.upd (Upd.set h.size h8 _) (by omega)).upd (Upd.set h.size _ _) (by omega)).low (by omega)⟩, ((X7.trans X8).set (Nat.le_refl _) _).set (Nat.le_refl _) _⟩
end Go.E1

/-
 Layer 9: all frames of some bytes.
-/
namespace Go.M
open Go.E1
theorem parseF_used {most : Nat} {b : Bytes} {f : Frm} {n : Nat} (h : parseF most b = .ok f n) : 9 ≤ n ∧ n ≤ b.length := by
 unfold parseF at h
 split at h
 ·cases h
 ·split at h
  ·cases h
  ·split at h
   ·cases h
   ·cases h
    omega
theorem allF_fuel (most : Nat) : ∀ (k k' : Nat) (b : Bytes), b.length < k → b.length < k' → allF most k b = allF most k' b
 | 0, _, b, h, _ => by omega
 | _ + 1, 0, b, _, h => by omega
 | k + 1, k' + 1, b, h, h' => by
  unfold allF
  split
  ·rfl
  ·rfl
  ·rename_i f n hp
   obtain ⟨h1, h2⟩ := parseF_used hp
   rw [allF_fuel most k k' (b.drop n) (by rw [List.length_drop]; omega) (by rw [List.length_drop]; omega)]
/-- All frames, and what is left. -/
def allB (b : Bytes) : Option (List Frm × Bytes) := allF 16384 (b.length + 1) b
theorem allB_eq (b : Bytes) : allB b = match parseF 16384 b with
  | .short => some ([], b)
  | .big => none
  | .ok f n => (allB (b.drop n)).map fun p => (f :: p.1, p.2) := by
 unfold allB
 rw [allF]
 cases hp : parseF 16384 b with
 | short => rfl
 | big => rfl
 | ok f n =>
  obtain ⟨h1, h2⟩ := parseF_used hp
  simp only
  rw [allF_fuel 16384 b.length ((b.drop n).length + 1) (b.drop n) (by rw [List.length_drop]; omega) (by omega)]
end Go.M
namespace Go.E1
open Go Go.Proofs Go.M
set_option linter.unusedSimpArgs false

def frc (x : Frm × SlT) : List Value := [.int .i64 (x.1.ty : Nat), .int .i64 (x.1.fl : Nat), .int .i64 (x.1.st : Nat), .slice x.2.1 x.2.2.1 x.2.2.2]
theorem frc_cel : Cel 4 frc := ⟨fun _ => rfl, fun _ => rfl, by omega⟩
def slV (s : SlT) : Value := .slice s.1 s.2.1 s.2.2
/-- Frames in a list, each payload in a block of its own. -/
structure FrL (h : LHeap) (lo : Nat) (v : Value) (fs : List Frm) (ps : List (Frm × SlT)) : Prop where
 fst : ps.map (·.1) = fs
 gl : GL 4 frc h v ps
 low : ∀ b, blkOf v = some b → lo ≤ b
 pay : ∀ p ∈ ps, OutAt h lo (slV p.2) p.1.pl ∧ ∀ b, blkOf (slV p.2) = some b → blkOf v ≠ some b

def AllQ (lo : Nat) (res : Option (List Frm × Bytes)) (u : Value) (h' : LHeap) : Prop := match res with
 | none => u = .tuple #[.slice none 0 0, .slice none 0 0, .int .i64 106]
 | some (fs, rest) => ∃ ov rv ps, u = .tuple #[ov, rv, .int .i64 0] ∧ FrL h' lo ov fs ps ∧ OutAt h' lo rv rest

theorem OutAt.keep {h h' : LHeap} {lo : Nat} {v : Value} {l : Bytes} (O : OutAt h lo v l) (hs : h.size ≤ h'.size) (hg : ∀ b, blkOf v = some b → h'.get b = h.get b) : OutAt h' lo v l := by
 rcases O with h1 | ⟨b, rfl, h2, h3, h4⟩
 ·exact .inl h1
 ·exact .inr ⟨b, rfl, h2, Nat.lt_of_lt_of_le h3 hs, by rw [hg b rfl]; exact h4⟩
theorem OutAt.lt {h : LHeap} {lo : Nat} {v : Value} {l : Bytes} (O : OutAt h lo v l) {b : Nat} (hb : blkOf v = some b) : lo ≤ b ∧ b < h.size := by
 rcases O with ⟨_, rfl⟩ | ⟨b', rfl, h2, h3, h4⟩
 ·cases hb
 ·simp only [blkOf_some, Option.some.injEq] at hb
  omega

theorem sAllF {h : LHeap} {v : Value} {l : Bytes} (hv : BytesAt h v l) (hl : l.length < 1000000) :
  LCalls EC 22 [v, .int .i64 16384] h fun u h' => AllQ h.size (allB l) u h' ∧ Ext h h' := by
 refine LCalls.enter (lf := lf22) rfl rfl (by simp [lf22]) ?_
 simp only [go_sem, lf22, ↓reduceIte]
 refine MC.loop (fun m fr hh => ∃ v' l' ov ps tl, m = l'.length ∧ fr = (0, v') :: (1, .int .i64 16384) :: (7, ov) :: tl ∧ BytesAt hh v' l' ∧ (∀ b, blkOf v' = some b → b < h.size) ∧ l'.length + 9 * ps.length ≤ l.length ∧
   FrL hh h.size ov (ps.map (·.1)) ps ∧ Ext h hh ∧ allB l = (allB l').map fun p => (ps.map (·.1) ++ p.1, p.2)) l.length ⟨v, l, .slice none 0 0, [], [], rfl, rfl, hv, fun b hb => hv.lt hb, by simp, ⟨rfl, .nil, by simp, by simp⟩, Ext.refl _, by simp⟩ ?_
 rintro m fr hh J ⟨v', l', ov, ps, tl, rfl, rfl, A, hlt, hcount, L, X, hall⟩ hJ
 simp only [go_sem, ↓reduceIte]
 refine MCall.by (sParseF A (by omega) 16384) ?_
 rintro u h2 ⟨P, X2⟩
 have e0 := allB_eq l'
 have L2gl := L.gl.ext X2
 have A2 := A.ext X2
 cases hp : parseF 16384 l' with
 | short =>
  rw [hp] at P e0
  simp only [ParseQ] at P
  subst P
  have q1 : ((16 : Int) == 16) = true := rfl
  simp only [zeroFr, go_sem, ↓reduceIte, q1]
  generalize hq : (LHeap.set (LHeap.push h2 _) h2.size _) = h3
  have X3 : Ext h2 h3 := by rw [← hq]; exact (Ext.push _ _).set (Nat.le_refl _) _
  clear hq
  refine MCall.by (sClone (A2.ext X3) (by omega)) ?_
  rintro u h4 ⟨O, X4⟩
  simp only [go_sem, ↓reduceIte]
  have Y := (X2.trans X3).trans X4
  simp only at e0
  rw [hall, e0]
  refine ⟨⟨ov, u, ps, rfl, ⟨by simp, L.gl.ext Y, L.low, fun p hp => ?_⟩, O.low ?_⟩, X.trans Y⟩
  ·obtain ⟨O1, O2⟩ := L.pay p hp
   exact ⟨O1.keep Y.size fun b hb => Y.get b (O1.lt hb).2, O2⟩
  ·have := X.size; have := X2.size; have := X3.size; omega
 | big =>
  rw [hp] at P e0
  simp only [ParseQ] at P
  subst P
  have q1 : ((106 : Int) == 16) = false := rfl
  have q2 : ((106 : Int) == 106) = true := rfl
  simp only at e0
  rw [hall, e0]
  simp only [zeroFr, go_sem, ↓reduceIte, q1, q2]
  exact ⟨rfl, (X.trans X2).trans ((Ext.push _ _).set (Nat.le_refl _) _)⟩
 | ok f n =>
  rw [hp] at P e0
  obtain ⟨hn1, hn2⟩ := parseF_used hp
  simp only [ParseQ] at P
  obtain ⟨pv, rfl, O⟩ := P
  obtain ⟨sa, sn, se, rfl⟩ := O.bytes.shape
  have q1 : ((0 : Int) == 16) = false := rfl
  have q2 : ((0 : Int) == 106) = false := rfl
  obtain ⟨w, hw, B, hbw⟩ := ba_lo (q := EC.q) (k := .i64) A2 hn2
  have sX := X.size
  have sX2 := X2.size
  have X3 : Ext h2 ((h2.push (.cells [.int .i64 0, .int .i64 0, .int .i64 0, .slice none 0 0] true true)).set h2.size (.cells [.int .i64 (f.ty : Nat), .int .i64 (f.fl : Nat), .int .i64 (f.st : Nat), .slice sa sn se] true true)) := (Ext.push _ _).set (Nat.le_refl _) _
  obtain ⟨ov', h4, ha, G4, z4, g4, n4⟩ := gl_append frc_cel (q := EC.q) (by' := 48) (L2gl.ext X3) (f, (sa, sn, se)) (by omega) (by omega)
  simp only [frc, LHeap.size_push, LHeap.size_set] at ha
  simp only [LHeap.size_push, LHeap.size_set] at z4 g4 n4
  simp only [frV, go_sem, ↓reduceIte, q1, q2, ha, hw]
  have old : ∀ b, b < h2.size → blkOf ov ≠ some b → h4.get b = h2.get b := fun b hb hne => by rw [g4 b (by omega) hne, X3.get b hb]
  refine hJ _ _ _ ?_ ⟨w, l'.drop n, ov', ps ++ [(f, (sa, sn, se))], _, rfl, rfl, ?_, ?_, ?_, ⟨rfl, G4, fun b hb => by have := n4 b hb; omega, ?_⟩, ?_, ?_⟩
  ·rw [List.length_drop]; omega
  ·rcases B with h1 | ⟨b, o, cs, t, r, rfl, k1, k2, k3, k4⟩
   ·exact .inl h1
   ·have hb := hlt b (hbw b rfl)
    exact .inr ⟨b, o, cs, t, r, rfl, by omega, by rw [old b k1 (fun e => by have := L.low b e; omega)]; exact k2, k3, k4⟩
  ·exact fun b hb => hlt b (hbw b hb)
  ·rw [List.length_drop, List.length_append]; simp; omega
  ·intro p hpm
   rcases List.mem_append.1 hpm with hpm | hpm
   ·obtain ⟨O1, O2⟩ := L.pay p hpm
    refine ⟨O1.keep (by omega) fun b hb => ?_, fun b hb he => ?_⟩
    ·have := O1.lt hb
     rw [old b (by omega) (O2 b hb), X2.get b this.2]
    ·have := (O1.lt hb).2; have := n4 b he; omega
   ·rw [List.mem_singleton.1 hpm]
    refine ⟨(O.low (by omega)).keep (by omega) fun b hb => ?_, fun b hb he => ?_⟩
    ·have hb2 := O.lt hb
     exact old b hb2.2 fun e => by
      have := (L.gl.blk e).1
      omega
    ·have := (O.lt hb).2; have := n4 b he; omega
  ·refine ⟨by omega, fun b hb => ?_⟩
   rw [old b (by omega) (fun e => by have := L.low b e; omega), X2.get b (by omega), X.get b hb]
  ·simp only at e0
   rw [hall, e0]
   simp [Function.comp_def]
end Go.E1

/-
 Layer 10: places, lengths, faults.
-/
namespace Go.E1
open Go Go.Proofs Go.M
set_option linter.unusedSimpArgs false

def fltV (z : Flt) : Value := .agg #[.int .i64 (z.1 : Nat), .bool z.2]
theorem and_nat {k : IntKind} {a c : Nat} (ha : a < 2 ^ k.bits) (hc : c < 2 ^ k.bits) : andI k (a : Int) (c : Int) = k.wrap ((a &&& c : Nat) : Int) := by
 have e : ∀ x : Nat, BitVec.ofInt k.bits (x : Int) = BitVec.ofNat k.bits x := fun x => by simp
 unfold andI
 rw [e, e]
 congr 2
 simp only [BitVec.toNat_and, BitVec.toNat_ofNat]
 rw [Nat.mod_eq_of_lt ha, Nat.mod_eq_of_lt hc]
theorem and_i64 {a c : Nat} (ha : a < 4294967296) (hc : c < 4294967296) : andI .i64 (a : Int) (c : Int) = ((a &&& c : Nat) : Int) := by
 rw [and_nat (by show a < 2 ^ 64; omega) (by show c < 2 ^ 64; omega)]
 exact i64_u64 (by have := Nat.and_le_left (n := a) (m := c); omega)

theorem sHas {h : LHeap} (f : Frm) (pv : Value) (hf : f.fl < 4294967296) {k : Nat} (hk : k = 1 ∨ k = 4 ∨ k = 8 ∨ k = 32) :
  LCalls EC 101 [frV f pv, .int .i64 (k : Nat)] h fun u h' => u = .bool (hasF f.fl k) ∧ Ext h h' := by
 refine LCalls.enter (lf := lf101) rfl rfl (by simp [lf101]) ?_
 have d1 : (k : Int) > 0 := by omega
 have d1' : (0 : Int) < k := by omega
 have d2 : (k : Int) ≤ 255 := by omega
 have d3 : andI .i64 (k : Int) (IntKind.i64.wrap ((k : Int) - 1)) = 0 := by
  rcases hk with rfl | rfl | rfl | rfl <;> decide
 have d4 := and_i64 (c := k) hf (by omega)
 have d5 : (((f.fl &&& k : Nat) : Int) != 0) = hasF f.fl k := by
  unfold hasF
  by_cases hz : f.fl &&& k = 0
  ·rw [hz]; rfl
  ·have : ((f.fl &&& k : Nat) : Int) ≠ 0 := by omega
   have e1 : (((f.fl &&& k : Nat) : Int) == 0) = false := by simpa using this
   have e2 : ((f.fl &&& k) == 0) = false := by simpa using hz
   rw [bne, bne, e1, e2]
 simp only [frV, go_sem, lf101, ↓reduceIte, d1, d1', d2, d3, d4, d5, decide_true]
 exact Ext.push _ _

theorem sConnP {h : LHeap} (c : Nat) : LCalls EC 100 [.int .i64 (c : Nat)] h fun u h' => u = fltV (c, true) ∧ Ext h h' := by
 refine LCalls.enter (lf := lf100) rfl rfl (by simp [lf100]) ?_
 simp only [go_sem, lf100, ↓reduceIte]
 exact ⟨rfl, (Ext.push _ _).set (Nat.le_refl _) _⟩
theorem EC_qE : EC.q = qOf qAll := by kernel_rfl
theorem q_flt (c : Nat) (b : Bool) : EC.q 135 (.agg #[.int .i64 (c : Nat), .bool b]) (.agg #[.int .i64 0, .bool false]) = some (decide ((c, b) = okF)) := by
 rw [EC_qE]
 have e : qAll.lookup 135 = some [.int, .bool] := by kernel_rfl
 simp only [qOf, e, cellsEq, leafEq]
 by_cases hc : c = 0
 ·subst hc; cases b <;> rfl
 ·have h1 : ((c : Int) == 0) = false := by simpa using hc
  have h2 : (c, b) ≠ okF := fun e => hc (congrArg Prod.fst e)
  simp [h2, hc]
theorem sOKF {h : LHeap} (z : Flt) : LCalls EC 46 [fltV z] h fun u h' => u = .bool (decide (z = okF)) ∧ Ext h h' := by
 refine LCalls.enter (lf := lf46) rfl rfl (by simp [lf46]) ?_
 obtain ⟨c, b⟩ := z
 simp only [fltV, go_sem, lf46, ↓reduceIte, q_flt]
 exact Ext.push _ _

theorem ty_cases (t : Nat) : t = 0 ∨ t = 1 ∨ t = 2 ∨ t = 3 ∨ t = 4 ∨ t = 5 ∨ t = 6 ∨ t = 7 ∨ t = 8 ∨ t = 9 ∨ 9 < t := by omega
theorem ne_lit {t k : Nat} (h : t ≠ k) : (((t : Nat) : Int) == ((k : Nat) : Int)) = false := by
 simp only [beq_eq_false_iff_ne, ne_eq, Int.natCast_inj]; exact h
theorem ne_lit' {t k : Nat} (h : t ≠ k) : (((t : Nat) : Int) != ((k : Nat) : Int)) = true := by
 simp only [bne_iff_ne, ne_eq, Int.natCast_inj]; exact h

theorem sPlace {h : LHeap} (f : Frm) (pv : Value) : LCalls EC 72 [frV f pv] h fun u h' => u = fltV (placeF f) ∧ Ext h h' := by
 refine LCalls.enter (lf := lf72) rfl rfl (by simp [lf72]) ?_
 obtain ⟨t, fl, st, pl⟩ := f
 have hz : ¬ h.size = h.size + 1 := by omega
 by_cases hs : st = 0
 ·subst hs
  have b0 : (((0 : Nat) : Int) == 0) = true := rfl
  have b1 : (((0 : Nat) : Int) != 0) = false := rfl
  rcases ty_cases t with rfl | rfl | rfl | rfl | rfl | rfl | rfl | rfl | rfl | rfl | ht
  ·simp only [frV, go_sem, lf72, ↓reduceIte, hz, b0, b1]
   refine MCall.by (sConnP 101) ?_
   rintro u h2 ⟨rfl, X2⟩
   have s2 := X2.size
   have g2 := X2.get (h.size + 1) (by simp)
   simp only [go_sem, ↓reduceIte, hz] at g2 s2
   simp only [fltV, go_sem, ↓reduceIte, g2]
   exact ⟨by simp [placeF, fltV], (((Ext.push _ _).trans (Ext.push _ _)).trans X2).set (by omega) _⟩
  ·simp only [frV, go_sem, lf72, ↓reduceIte, hz, b0, b1]
   refine MCall.by (sConnP 101) ?_
   rintro u h2 ⟨rfl, X2⟩
   have s2 := X2.size
   have g2 := X2.get (h.size + 1) (by simp)
   simp only [go_sem, ↓reduceIte, hz] at g2 s2
   simp only [fltV, go_sem, ↓reduceIte, g2]
   exact ⟨by simp [placeF, fltV], (((Ext.push _ _).trans (Ext.push _ _)).trans X2).set (by omega) _⟩
  ·simp only [frV, go_sem, lf72, ↓reduceIte, hz, b0, b1]
   refine MCall.by (sConnP 101) ?_
   rintro u h2 ⟨rfl, X2⟩
   have s2 := X2.size
   have g2 := X2.get (h.size + 1) (by simp)
   simp only [go_sem, ↓reduceIte, hz] at g2 s2
   simp only [fltV, go_sem, ↓reduceIte, g2]
   exact ⟨by simp [placeF, fltV], (((Ext.push _ _).trans (Ext.push _ _)).trans X2).set (by omega) _⟩
  ·simp only [frV, go_sem, lf72, ↓reduceIte, hz, b0, b1]
   refine MCall.by (sConnP 101) ?_
   rintro u h2 ⟨rfl, X2⟩
   have s2 := X2.size
   have g2 := X2.get (h.size + 1) (by simp)
   simp only [go_sem, ↓reduceIte, hz] at g2 s2
   simp only [fltV, go_sem, ↓reduceIte, g2]
   exact ⟨by simp [placeF, fltV], (((Ext.push _ _).trans (Ext.push _ _)).trans X2).set (by omega) _⟩
  ·simp only [frV, go_sem, lf72, ↓reduceIte, hz, b0, b1]
   exact ⟨by simp [placeF, fltV, okF], ((Ext.push _ _).trans (Ext.push _ _)).set (Nat.le_succ _) _⟩
  ·simp only [frV, go_sem, lf72, ↓reduceIte, hz, b0, b1]
   refine MCall.by (sConnP 101) ?_
   rintro u h2 ⟨rfl, X2⟩
   have s2 := X2.size
   have g2 := X2.get (h.size + 1) (by simp)
   simp only [go_sem, ↓reduceIte, hz] at g2 s2
   simp only [fltV, go_sem, ↓reduceIte, g2]
   exact ⟨by simp [placeF, fltV], (((Ext.push _ _).trans (Ext.push _ _)).trans X2).set (by omega) _⟩
  ·simp only [frV, go_sem, lf72, ↓reduceIte, hz, b0, b1]
   exact ⟨by simp [placeF, fltV, okF], ((Ext.push _ _).trans (Ext.push _ _)).set (Nat.le_succ _) _⟩
  ·simp only [frV, go_sem, lf72, ↓reduceIte, hz, b0, b1]
   exact ⟨by simp [placeF, fltV, okF], ((Ext.push _ _).trans (Ext.push _ _)).set (Nat.le_succ _) _⟩
  ·simp only [frV, go_sem, lf72, ↓reduceIte, hz, b0, b1]
   exact ⟨by simp [placeF, fltV, okF], ((Ext.push _ _).trans (Ext.push _ _)).set (Nat.le_succ _) _⟩
  ·simp only [frV, go_sem, lf72, ↓reduceIte, hz, b0, b1]
   refine MCall.by (sConnP 101) ?_
   rintro u h2 ⟨rfl, X2⟩
   have s2 := X2.size
   have g2 := X2.get (h.size + 1) (by simp)
   simp only [go_sem, ↓reduceIte, hz] at g2 s2
   simp only [fltV, go_sem, ↓reduceIte, g2]
   exact ⟨by simp [placeF, fltV], (((Ext.push _ _).trans (Ext.push _ _)).trans X2).set (by omega) _⟩
  ·have m4 : ¬ (t = 4 ∨ t = 6 ∨ t = 7) := by omega
   have m0 : ¬ (t = 0 ∨ t = 1 ∨ t = 2 ∨ t = 3 ∨ t = 9) := by omega
   have m5 : t ≠ 5 := by omega
   have n0 : ((t : Int) == 0) = false := ne_lit (k := 0) (by omega)
   have n1 : ((t : Int) == 1) = false := ne_lit (k := 1) (by omega)
   have n2 : ((t : Int) == 2) = false := ne_lit (k := 2) (by omega)
   have n3 : ((t : Int) == 3) = false := ne_lit (k := 3) (by omega)
   have n4 : ((t : Int) == 4) = false := ne_lit (k := 4) (by omega)
   have n5 : ((t : Int) == 5) = false := ne_lit (k := 5) (by omega)
   have n6 : ((t : Int) == 6) = false := ne_lit (k := 6) (by omega)
   have n7 : ((t : Int) == 7) = false := ne_lit (k := 7) (by omega)
   have n9 : ((t : Int) == 9) = false := ne_lit (k := 9) (by omega)
   simp only [frV, go_sem, lf72, ↓reduceIte, hz, n0, n1, n2, n3, n4, n5, n6, n7, n9]
   unfold placeF
   rw [if_neg m4, if_neg m0, if_neg m5]
   exact ⟨rfl, ((Ext.push _ _).trans (Ext.push _ _)).set (Nat.le_succ _) _⟩
 ·have b0 : ((st : Int) == 0) = false := ne_lit hs
  have b1 : ((st : Int) != 0) = true := ne_lit' hs
  rcases ty_cases t with rfl | rfl | rfl | rfl | rfl | rfl | rfl | rfl | rfl | rfl | ht
  ·simp only [frV, go_sem, lf72, ↓reduceIte, hz, b0, b1]
   exact ⟨by simp [placeF, fltV, okF, hs], ((Ext.push _ _).trans (Ext.push _ _)).set (Nat.le_succ _) _⟩
  ·simp only [frV, go_sem, lf72, ↓reduceIte, hz, b0, b1]
   exact ⟨by simp [placeF, fltV, okF, hs], ((Ext.push _ _).trans (Ext.push _ _)).set (Nat.le_succ _) _⟩
  ·simp only [frV, go_sem, lf72, ↓reduceIte, hz, b0, b1]
   exact ⟨by simp [placeF, fltV, okF, hs], ((Ext.push _ _).trans (Ext.push _ _)).set (Nat.le_succ _) _⟩
  ·simp only [frV, go_sem, lf72, ↓reduceIte, hz, b0, b1]
   exact ⟨by simp [placeF, fltV, okF, hs], ((Ext.push _ _).trans (Ext.push _ _)).set (Nat.le_succ _) _⟩
  ·simp only [frV, go_sem, lf72, ↓reduceIte, hz, b0, b1]
   refine MCall.by (sConnP 101) ?_
   rintro u h2 ⟨rfl, X2⟩
   have s2 := X2.size
   have g2 := X2.get (h.size + 1) (by simp)
   simp only [go_sem, ↓reduceIte, hz] at g2 s2
   simp only [fltV, go_sem, ↓reduceIte, g2]
   exact ⟨by simp [placeF, fltV, hs], (((Ext.push _ _).trans (Ext.push _ _)).trans X2).set (by omega) _⟩
  ·simp only [frV, go_sem, lf72, ↓reduceIte, hz, b0, b1]
   refine MCall.by (sConnP 101) ?_
   rintro u h2 ⟨rfl, X2⟩
   have s2 := X2.size
   have g2 := X2.get (h.size + 1) (by simp)
   simp only [go_sem, ↓reduceIte, hz] at g2 s2
   simp only [fltV, go_sem, ↓reduceIte, g2]
   exact ⟨by simp [placeF, fltV, hs], (((Ext.push _ _).trans (Ext.push _ _)).trans X2).set (by omega) _⟩
  ·simp only [frV, go_sem, lf72, ↓reduceIte, hz, b0, b1]
   refine MCall.by (sConnP 101) ?_
   rintro u h2 ⟨rfl, X2⟩
   have s2 := X2.size
   have g2 := X2.get (h.size + 1) (by simp)
   simp only [go_sem, ↓reduceIte, hz] at g2 s2
   simp only [fltV, go_sem, ↓reduceIte, g2]
   exact ⟨by simp [placeF, fltV, hs], (((Ext.push _ _).trans (Ext.push _ _)).trans X2).set (by omega) _⟩
  ·simp only [frV, go_sem, lf72, ↓reduceIte, hz, b0, b1]
   refine MCall.by (sConnP 101) ?_
   rintro u h2 ⟨rfl, X2⟩
   have s2 := X2.size
   have g2 := X2.get (h.size + 1) (by simp)
   simp only [go_sem, ↓reduceIte, hz] at g2 s2
   simp only [fltV, go_sem, ↓reduceIte, g2]
   exact ⟨by simp [placeF, fltV, hs], (((Ext.push _ _).trans (Ext.push _ _)).trans X2).set (by omega) _⟩
  ·simp only [frV, go_sem, lf72, ↓reduceIte, hz, b0, b1]
   exact ⟨by simp [placeF, fltV, okF, hs], ((Ext.push _ _).trans (Ext.push _ _)).set (Nat.le_succ _) _⟩
  ·simp only [frV, go_sem, lf72, ↓reduceIte, hz, b0, b1]
   exact ⟨by simp [placeF, fltV, okF, hs], ((Ext.push _ _).trans (Ext.push _ _)).set (Nat.le_succ _) _⟩
  ·have m4 : ¬ (t = 4 ∨ t = 6 ∨ t = 7) := by omega
   have m0 : ¬ (t = 0 ∨ t = 1 ∨ t = 2 ∨ t = 3 ∨ t = 9) := by omega
   have m5 : t ≠ 5 := by omega
   have n0 : ((t : Int) == 0) = false := ne_lit (k := 0) (by omega)
   have n1 : ((t : Int) == 1) = false := ne_lit (k := 1) (by omega)
   have n2 : ((t : Int) == 2) = false := ne_lit (k := 2) (by omega)
   have n3 : ((t : Int) == 3) = false := ne_lit (k := 3) (by omega)
   have n4 : ((t : Int) == 4) = false := ne_lit (k := 4) (by omega)
   have n5 : ((t : Int) == 5) = false := ne_lit (k := 5) (by omega)
   have n6 : ((t : Int) == 6) = false := ne_lit (k := 6) (by omega)
   have n7 : ((t : Int) == 7) = false := ne_lit (k := 7) (by omega)
   have n9 : ((t : Int) == 9) = false := ne_lit (k := 9) (by omega)
   simp only [frV, go_sem, lf72, ↓reduceIte, hz, n0, n1, n2, n3, n4, n5, n6, n7, n9]
   unfold placeF
   rw [if_neg m4, if_neg m0, if_neg m5]
   exact ⟨rfl, ((Ext.push _ _).trans (Ext.push _ _)).set (Nat.le_succ _) _⟩
end Go.E1

/-
 Layer 10: lengths.
-/
namespace Go.E1
open Go Go.Proofs Go.M
set_option linter.unusedSimpArgs false

theorem sLength {h : LHeap} (f : Frm) (pv : Value) (hv : BytesAt h pv f.pl) (hf : f.fl < 4294967296) (hl : f.pl.length < 1000000000) : LCalls EC 74 [frV f pv] h fun u h' => u = fltV (lengthF f) ∧ Ext h h' := by
 refine LCalls.enter (lf := lf74) rfl rfl (by simp [lf74]) ?_
 obtain ⟨t, fl, st, pl⟩ := f
 have eL := fun hh => hv.len (q := EC.q) (h := hh)
 simp only at hv hf hl eL
 have hz : ¬ h.size = h.size + 1 := by omega
 rcases ty_cases t with rfl | rfl | rfl | rfl | rfl | rfl | rfl | rfl | rfl | rfl | ht
 ·simp only [frV, go_sem, lf74, ↓reduceIte, hz, eL]
  exact ⟨by simp [lengthF, fltV, okF], ((Ext.push _ _).trans (Ext.push _ _)).set (Nat.le_succ _) _⟩
 ·simp only [frV, go_sem, lf74, ↓reduceIte, hz, eL]
  exact ⟨by simp [lengthF, fltV, okF], ((Ext.push _ _).trans (Ext.push _ _)).set (Nat.le_succ _) _⟩
 ·by_cases c : pl.length = 5
  ·have d : ((pl.length : Int) != 5) = false := by simp; omega
   simp only [frV, go_sem, lf74, ↓reduceIte, hz, eL, d]
   exact ⟨by simp [lengthF, fltV, okF, c], ((Ext.push _ _).trans (Ext.push _ _)).set (Nat.le_succ _) _⟩
  ·have d : ((pl.length : Int) != 5) = true := by simp; omega
   simp only [frV, go_sem, lf74, ↓reduceIte, hz, eL, d]
   exact ⟨by simp [lengthF, fltV, okF, c], ((Ext.push _ _).trans (Ext.push _ _)).set (Nat.le_succ _) _⟩
 ·by_cases c : pl.length = 4
  ·have d : ((pl.length : Int) != 4) = false := by simp; omega
   simp only [frV, go_sem, lf74, ↓reduceIte, hz, eL, d]
   exact ⟨by simp [lengthF, fltV, okF, c], ((Ext.push _ _).trans (Ext.push _ _)).set (Nat.le_succ _) _⟩
  ·have d : ((pl.length : Int) != 4) = true := by simp; omega
   simp only [frV, go_sem, lf74, ↓reduceIte, hz, eL, d]
   refine MCall.by (sConnP 106) ?_
   rintro u h2 ⟨rfl, X2⟩
   have s2 := X2.size
   have g2 := X2.get (h.size + 1) (by simp)
   simp only [go_sem, ↓reduceIte, hz] at g2 s2
   simp only [fltV, go_sem, ↓reduceIte, g2]
   exact ⟨by simp [lengthF, fltV, c], (((Ext.push _ _).trans (Ext.push _ _)).trans X2).set (by omega) _⟩
 ·have e6 : ((pl.length : Int).tmod 6) = ((pl.length % 6 : Nat) : Int) := rfl
  by_cases c : pl.length % 6 = 0
  ·have d : ((pl.length : Int).tmod 6 != 0) = false := by rw [e6, c]; rfl
   simp only [frV, go_sem, lf74, ↓reduceIte, hz, eL, d]
   generalize hq : LHeap.push _ _ = h1
   have X1 : Ext h h1 := by rw [← hq]; exact (Ext.push _ _).trans (Ext.push _ _)
   have g1 : h1.get (h.size + 1) = some (.cells [.int .i64 0, .bool false] true true) := by rw [← hq]; simp
   have s1 : h1.size = h.size + 2 := by rw [← hq]; simp
   clear hq
   refine MCall.by (sHas ⟨4, fl, st, pl⟩ pv hf (k := 1) (.inl rfl)) ?_
   rintro u h2 ⟨rfl, X2⟩
   have s2 := X2.size
   have g2 := (X2.get (h.size + 1) (by omega)).trans g1
   cases hh : hasF fl 1 with
   | false =>
    simp only [hh, go_sem, ↓reduceIte, g2]
    exact ⟨by simp [lengthF, fltV, okF, c, hh], (X1.trans X2).set (Nat.le_succ _) _⟩
   | true =>
    by_cases c0 : 0 < pl.length
    ·have d0 : (pl.length : Int) > 0 := by omega
     have d0' : (0 : Int) < pl.length := by omega
     simp only [hh, go_sem, ↓reduceIte, d0, d0', decide_true]
     refine MCall.by (sConnP 106) ?_
     rintro u h3 ⟨rfl, X3⟩
     have s3 := X3.size
     have g3 := (X3.get (h.size + 1) (by omega)).trans g2
     simp only [fltV, go_sem, ↓reduceIte, g3]
     exact ⟨by simp [lengthF, fltV, c, hh, c0], ((X1.trans X2).trans X3).set (Nat.le_succ _) _⟩
    ·have d0 : ¬ (pl.length : Int) > 0 := by omega
     have d0' : ¬ (0 : Int) < pl.length := by omega
     simp only [hh, go_sem, ↓reduceIte, d0, d0', decide_false, g2]
     exact ⟨by simp [lengthF, fltV, okF, c, hh, c0], (X1.trans X2).set (Nat.le_succ _) _⟩
  ·have d : ((pl.length : Int).tmod 6 != 0) = true := by rw [e6]; exact ne_lit' (k := 0) c
   simp only [frV, go_sem, lf74, ↓reduceIte, hz, eL, d]
   refine MCall.by (sConnP 106) ?_
   rintro u h2 ⟨rfl, X2⟩
   have s2 := X2.size
   have g2 := X2.get (h.size + 1) (by simp)
   simp only [go_sem, ↓reduceIte, hz] at g2 s2
   simp only [fltV, go_sem, ↓reduceIte, g2]
   exact ⟨by simp [lengthF, fltV, c], (((Ext.push _ _).trans (Ext.push _ _)).trans X2).set (by omega) _⟩
 ·simp only [frV, go_sem, lf74, ↓reduceIte, hz, eL]
  exact ⟨by simp [lengthF, fltV, okF], ((Ext.push _ _).trans (Ext.push _ _)).set (Nat.le_succ _) _⟩
 ·by_cases c : pl.length = 8
  ·have d : ((pl.length : Int) != 8) = false := by simp; omega
   simp only [frV, go_sem, lf74, ↓reduceIte, hz, eL, d]
   exact ⟨by simp [lengthF, fltV, okF, c], ((Ext.push _ _).trans (Ext.push _ _)).set (Nat.le_succ _) _⟩
  ·have d : ((pl.length : Int) != 8) = true := by simp; omega
   simp only [frV, go_sem, lf74, ↓reduceIte, hz, eL, d]
   refine MCall.by (sConnP 106) ?_
   rintro u h2 ⟨rfl, X2⟩
   have s2 := X2.size
   have g2 := X2.get (h.size + 1) (by simp)
   simp only [go_sem, ↓reduceIte, hz] at g2 s2
   simp only [fltV, go_sem, ↓reduceIte, g2]
   exact ⟨by simp [lengthF, fltV, c], (((Ext.push _ _).trans (Ext.push _ _)).trans X2).set (by omega) _⟩
 ·by_cases c : pl.length < 8
  ·have d : (pl.length : Int) < 8 := by omega
   simp only [frV, go_sem, lf74, ↓reduceIte, hz, eL, d, decide_true]
   refine MCall.by (sConnP 106) ?_
   rintro u h2 ⟨rfl, X2⟩
   have s2 := X2.size
   have g2 := X2.get (h.size + 1) (by simp)
   simp only [go_sem, ↓reduceIte, hz] at g2 s2
   simp only [fltV, go_sem, ↓reduceIte, g2]
   exact ⟨by simp [lengthF, fltV, c], (((Ext.push _ _).trans (Ext.push _ _)).trans X2).set (by omega) _⟩
  ·have d : ¬ (pl.length : Int) < 8 := by omega
   simp only [frV, go_sem, lf74, ↓reduceIte, hz, eL, d, decide_false]
   exact ⟨by simp [lengthF, fltV, okF, c], ((Ext.push _ _).trans (Ext.push _ _)).set (Nat.le_succ _) _⟩
 ·by_cases c : pl.length = 4
  ·have d : ((pl.length : Int) != 4) = false := by simp; omega
   simp only [frV, go_sem, lf74, ↓reduceIte, hz, eL, d]
   exact ⟨by simp [lengthF, fltV, okF, c], ((Ext.push _ _).trans (Ext.push _ _)).set (Nat.le_succ _) _⟩
  ·have d : ((pl.length : Int) != 4) = true := by simp; omega
   simp only [frV, go_sem, lf74, ↓reduceIte, hz, eL, d]
   refine MCall.by (sConnP 106) ?_
   rintro u h2 ⟨rfl, X2⟩
   have s2 := X2.size
   have g2 := X2.get (h.size + 1) (by simp)
   simp only [go_sem, ↓reduceIte, hz] at g2 s2
   simp only [fltV, go_sem, ↓reduceIte, g2]
   exact ⟨by simp [lengthF, fltV, c], (((Ext.push _ _).trans (Ext.push _ _)).trans X2).set (by omega) _⟩
 ·simp only [frV, go_sem, lf74, ↓reduceIte, hz, eL]
  exact ⟨by simp [lengthF, fltV, okF], ((Ext.push _ _).trans (Ext.push _ _)).set (Nat.le_succ _) _⟩
 ·have n3 : ((t : Int) == 3) = false := ne_lit (k := 3) (by omega)
  have n4 : ((t : Int) == 4) = false := ne_lit (k := 4) (by omega)
  have n6 : ((t : Int) == 6) = false := ne_lit (k := 6) (by omega)
  have n7 : ((t : Int) == 7) = false := ne_lit (k := 7) (by omega)
  have n8 : ((t : Int) == 8) = false := ne_lit (k := 8) (by omega)
  have n2 : ((t : Int) == 2) = false := ne_lit (k := 2) (by omega)
  have m3 : t ≠ 3 := by omega
  have m4 : t ≠ 4 := by omega
  have m6 : t ≠ 6 := by omega
  have m7 : t ≠ 7 := by omega
  have m8 : t ≠ 8 := by omega
  have m2 : t ≠ 2 := by omega
  simp only [frV, go_sem, lf74, ↓reduceIte, hz, eL, n3, n4, n6, n7, n8, n2]
  exact ⟨by simp [lengthF, fltV, okF, m3, m4, m6, m7, m8, m2], ((Ext.push _ _).trans (Ext.push _ _)).set (Nat.le_succ _) _⟩
end Go.E1

/-
 Layer 10: what is said of priority, what may be padded.
-/
namespace Go.E1
open Go Go.Proofs Go.M
set_option linter.unusedSimpArgs false

/-- Below a block nothing but one block is changed. -/
structure Kp (lo ib : Nat) (h h' : LHeap) : Prop where
 size : h.size ≤ h'.size
 get : ∀ b, b < lo → b ≠ ib → h'.get b = h.get b
theorem Kp.refl (lo ib : Nat) (h : LHeap) : Kp lo ib h h := ⟨Nat.le_refl _, fun _ _ _ => rfl⟩
theorem Kp.trans {lo ib : Nat} {a b c : LHeap} (x : Kp lo ib a b) (y : Kp lo ib b c) : Kp lo ib a c := ⟨Nat.le_trans x.size y.size, fun i h1 h2 => (y.get i h1 h2).trans (x.get i h1 h2)⟩
theorem Ext.kp {lo ib : Nat} {h h' : LHeap} (X : Ext h h') (hl : lo ≤ h.size) : Kp lo ib h h' := ⟨X.size, fun i h1 _ => X.get i (by omega)⟩
theorem Upd.kp {lo ib r : Nat} {h h' : LHeap} (U : Upd r h h') (hl : lo ≤ r) : Kp lo ib h h' := ⟨Nat.le_of_eq U.size.symm, fun i h1 _ => U.get i (by omega)⟩
theorem Kp.set (lo ib : Nat) (h : LHeap) (o : LObj) : Kp lo ib h (h.set ib o) := ⟨by simp, fun i _ h2 => by simp [h2]⟩
theorem Kp.hi {lo ib b : Nat} (h : LHeap) (o : LObj) (hb : lo ≤ b) : Kp lo ib h (h.set b o) := ⟨by simp, fun i h1 _ => by simp [show i ≠ b by omega]⟩
theorem InR.upd {h h' : LHeap} {lo hi r ib : Nat} {l : Bytes} (a : InR h lo hi r l) (u : Upd ib h h') (hb : ib < lo) : InR h' lo hi r l := by
 obtain ⟨v, h1, h0, h2, h3, h4, h5⟩ := a
 exact ⟨v, by rw [u.size]; exact h1, h0, by rw [u.get r (by omega)]; exact h2, h3.upd (fun e => by have := h5 _ e; omega) u, h4, h5⟩
theorem InR.lt {h : LHeap} {lo hi r : Nat} {l : Bytes} (a : InR h lo hi r l) : lo ≤ r ∧ r < h.size := by
 obtain ⟨v, h1, h0, _⟩ := a
 exact ⟨h0, by omega⟩

/-- An item's cells. -/
def itc (x : Itm) (tv pv : Value) : List Value :=
 [.int .i64 (x.ty : Nat), .int .i64 (x.st : Nat), tv, .bool x.fin, .bool x.endh, .bool x.ack, .int .i64 (x.flow : Nat), .int .i64 (x.code : Nat), .int .i64 (x.last : Nat), .int .i64 (x.inc : Nat), .int .i64 (x.dep : Nat), .int .i64 (x.wt : Nat), .bool x.weighed, .bool x.excl, pv]
def sl0 : Value := .slice none 0 0

theorem sWeigh {h : LHeap} {lo hx r ib : Nat} {l : Bytes} {x : Itm} {tv pv : Value} (hi : h.get ib = some (.cells (itc x tv pv) true true)) (hib : ib < lo) (I : InR h lo hx r l) (hl : l.length < 1000000) :
  LCalls EC 104 [.pointer (some ⟨ib, 0, none⟩), .pointer (some ⟨r, 0, none⟩)] h fun u h' => match weighI x l with
   | none => u = .bool false ∧ h' = h
   | some (y, l') => u = .bool true ∧ h'.get ib = some (.cells (itc y tv pv) true true) ∧ InR h' lo hx r l' ∧ Kp lo ib h h' := by
 refine LCalls.enter (lf := lf104) rfl rfl (by simp [lf104]) ?_
 have hlt := I.lt
 simp only [go_sem, lf104, ↓reduceIte]
 refine MCall.by (sLeft I) ?_
 rintro u h2 ⟨rfl, rfl⟩
 unfold weighI
 by_cases c : l.length < 5
 ·have d : (l.length : Int) < 5 := by omega
  simp only [go_sem, ↓reduceIte, d]
  simp only [c, ↓reduceIte]
 ·have d : ¬ (l.length : Int) < 5 := by omega
  simp only [go_sem, ↓reduceIte, d]
  refine MCall.by (sNumberP (n := 4) I (by omega) (by omega) hl) ?_
  rintro u h3 ⟨rfl, I3, U3⟩
  have g3 : h3.get ib = _ := (U3.get ib (by omega)).trans hi
  have hb := big_lt 4 (l.take 4) (by rw [List.length_take]; omega)
  have ha := and_low (n := big (l.take 4)) (by rw [show (4294967296 : Nat) = 256 ^ 4 by decide]; exact hb)
  have s3 := U3.size
  have hg : decide ((big (l.take 4) : Int) > 2147483647) = decide (2147483647 < big (l.take 4)) := by
   rw [decide_eq_decide]; omega
  have hg' : decide ((2147483647 : Int) < (big (l.take 4) : Int)) = decide (2147483647 < big (l.take 4)) := by
   rw [decide_eq_decide]; omega
  simp only [itc] at g3
  simp only [go_sem, ↓reduceIte, g3, ha, hg, hg']
  generalize hq : LHeap.set _ ib _ = h4
  have U4 : Upd ib h3 h4 := by rw [← hq]; exact (Upd.set _ _ _).trans (Upd.set _ _ _)
  have g4 : h4.get ib = some (.cells (itc { x with dep := big (l.take 4) % 2147483648, excl := decide (2147483647 < big (l.take 4)) } tv pv) true true) := by rw [← hq]; simp [itc]
  clear hq
  refine MCall.by (sNumberP (n := 1) (I3.upd U4 hib) (by rw [List.length_drop]; omega) (by omega) (by rw [List.length_drop]; omega)) ?_
  rintro u h5 ⟨rfl, I5, U5⟩
  have g5 : h5.get ib = _ := (U5.get ib (by omega)).trans g4
  have hb1 := big_lt 1 ((l.drop 4).take 1) (by rw [List.length_take, List.length_drop]; omega)
  have w1 : IntKind.i64.wrap ((big ((l.drop 4).take 1) : Int) + 1) = ((big ((l.drop 4).take 1) + 1 : Nat) : Int) := by rw [IntWalk.i64_in _ (by omega)]; omega
  have s4 := U4.size
  have s5 := U5.size
  simp only [itc] at g5
  simp only [go_sem, ↓reduceIte, g5, w1]
  rw [if_neg c]
  have U6 := Upd.set ib h5
  refine ⟨by simp [itc], ?_, ?_⟩
  ·rw [show l.drop 5 = (l.drop 4).drop 1 by rw [List.drop_drop]]
   exact (I5.upd (Upd.set ib _ _) hib).upd (Upd.set ib _ _) hib
  ·exact ((((U3.kp (by omega)).trans ⟨Nat.le_of_eq s4.symm, fun b _ hb => U4.get b hb⟩).trans (U5.kp (by omega))).trans (Kp.set _ _ _ _)).trans (Kp.set _ _ _ _)

theorem sOwn {h : LHeap} {ib : Nat} {x : Itm} {tv pv : Value} (hi : h.get ib = some (.cells (itc x tv pv) true true)) (hib : ib < h.size) :
  LCalls EC 103 [.pointer (some ⟨ib, 0, none⟩)] h fun u h' => u = fltV (M.ownI x) ∧ Ext h h' := by
 refine LCalls.enter (lf := lf103) rfl rfl (by simp [lf103]) ?_
 have hne : ¬ ib = h.size := by omega
 simp only [itc] at hi
 unfold M.ownI
 simp only [go_sem, lf103, ↓reduceIte]
 refine MC.dregion ?_
 cases hw : x.weighed with
 | false =>
  simp only [go_sem, ↓reduceIte, hi, hne, hw]
  exact ⟨rfl, (Ext.push _ _).set (Nat.le_refl _) _⟩
 | true =>
  by_cases c : x.dep = x.st
  ·have e1 : ((x.dep : Int) == (x.st : Int)) = true := by rw [c]; simp
   simp only [go_sem, ↓reduceIte, hi, hne, hw, e1]
   exact ⟨by simp [c]; rfl, (Ext.push _ _).set (Nat.le_refl _) _⟩
  ·have e1 : ((x.dep : Int) == (x.st : Int)) = false := ne_lit c
   simp only [go_sem, ↓reduceIte, hi, hne, hw, e1]
   exact ⟨by simp [c]; rfl, (Ext.push _ _).set (Nat.le_refl _) _⟩
end Go.E1

/-
 Layer 10: what may be padded.
-/
namespace Go.E1
open Go Go.Proofs Go.M
set_option linter.unusedSimpArgs false

theorem MO.cut2 {E : Env} {ops : List LOper} {ks : List Nat} {c b : LCode} {k : Cont} {fr : Fr} {h : LHeap} {Q : Value → LHeap → Prop} (J : Fr → LHeap → Prop) (w : MO E ops ks (.code c (.inv J k)) fr h Q) (hb : ∀ fr h, J fr h → MC E b k fr h Q) : MO E ops ks (.code c (.code b k)) fr h Q :=
 w.cont (kont_code (kont_cut hb))
theorem weighI_text {x y : Itm} {l l' : Bytes} (h : weighI x l = some (y, l')) : y.text = x.text ∧ l'.length ≤ l.length := by
 unfold weighI at h
 split at h
 ·cases h
 ·cases h
  exact ⟨rfl, by rw [List.length_drop]; omega⟩
theorem sPadded {h : LHeap} {ib : Nat} {f : Frm} {fv : Value} {x : Itm} {pv : Value} (hi : h.get ib = some (.cells (itc x sl0 pv) true true)) (hib : ib < h.size) (hx : x.text = [])
  (hv : BytesAt h fv f.pl) (hf : f.fl < 4294967296) (hl : f.pl.length < 1000000) :
  LCalls EC 102 [.pointer (some ⟨ib, 0, none⟩), frV f fv] h fun u h' => ∃ tv, u = fltV (paddedI x f).2 ∧ h'.get ib = some (.cells (itc (paddedI x f).1 tv pv) true true) ∧
   BytesAt h' tv (paddedI x f).1.text ∧ (∀ b, blkOf tv = some b → h.size ≤ b) ∧ Kp h.size ib h h' := by
 refine LCalls.enter (lf := lf102) rfl rfl (by simp [lf102]) ?_
 have hz : ¬ h.size = h.size + 1 := by omega
 have eT : ∀ hh : LHeap, BytesAt hh sl0 x.text := fun hh => by rw [hx]; exact .inl ⟨rfl, 0, rfl⟩
 have eT0 : ∀ b, blkOf sl0 = some b → h.size ≤ b := fun b hb => by cases hb
  
 simp only [frV, go_sem, lf102, ↓reduceIte, hz]
 generalize hq : LHeap.push _ _ = h1
 have X1 : Ext h h1 := by rw [← hq]; exact (Ext.push _ _).trans (Ext.push _ _)
 have gb1 : h1.get h.size = some (.cells [.int .i64 (f.ty : Nat), .int .i64 (f.fl : Nat), .int .i64 (f.st : Nat), fv] true true) := by rw [← hq]; simp
 have gf1 : h1.get (h.size + 1) = some (.cells [.int .i64 0, .bool false] true true) := by rw [← hq]; simp
 have s1 : h1.size = h.size + 2 := by rw [← hq]; simp
 clear hq
 refine MCall.by (sInNew (hv.ext X1) hl) ?_
 rintro u h2 ⟨r, rfl, I2, X2, hr⟩
 have s2 := X2.size
 have hr2 := I2.lt.2
 have gb2 := (X2.get h.size (by omega)).trans gb1
 have gf2 := (X2.get (h.size + 1) (by omega)).trans gf1
 have gi2 : h2.get ib = _ := (X2.get ib (by omega)).trans ((X1.get ib hib).trans hi)
 simp only [go_sem, ↓reduceIte, gb2]
 refine MCall.by (sHas f fv hf (k := 8) (by omega)) ?_
 rintro u h3 ⟨rfl, X3⟩
 have s3 := X3.size
 have gb3 := (X3.get h.size (by omega)).trans gb2
 have gf3 := (X3.get (h.size + 1) (by omega)).trans gf2
 have gi3 := (X3.get ib (by omega)).trans gi2
 have I3 := I2.ext X3
 rw [s1] at I3
 have gi1 : h1.get ib = _ := (X1.get ib hib).trans hi
 have K1 : Kp h.size ib h h1 := X1.kp (Nat.le_refl _)
 have X13 : Ext h1 h3 := X2.trans X3
 refine MO.cut2 (fun fr hh => ∃ pad l tl, padI f = some (pad, l) ∧ fr = (0, .pointer (some ⟨ib, 0, none⟩)) :: (3, .pointer (some ⟨h.size, 0, none⟩)) :: (4, .pointer (some ⟨h.size + 1, 0, none⟩)) :: (5, .pointer (some ⟨r, 0, none⟩)) :: (6, .int .i64 (pad : Nat)) :: tl ∧
  InR hh (h.size + 2) h2.size r l ∧ l.length ≤ f.pl.length ∧ Ext h1 hh) ?_ ?_
 ·cases h8 : hasF f.fl 8 with
  | false =>
   simp only [go_sem, ↓reduceIte]
   exact ⟨0, f.pl, _, by simp [padI, h8], rfl, I3, Nat.le_refl _, X13⟩
  | true =>
   simp only [go_sem, ↓reduceIte]
   by_cases c : f.pl.length < 1
   ·refine MCall.by (sByteNo I3 c) ?_
    rintro u h4 ⟨rfl, rfl⟩
    simp only [go_sem, ↓reduceIte]
    refine MCall.by (sConnP 106) ?_
    rintro u h5 ⟨rfl, X5⟩
    have gf5 := (X5.get (h.size + 1) (by omega)).trans gf3
    have gi5 := (X5.get ib (by omega)).trans gi3
    simp only [fltV, go_sem, ↓reduceIte, gf5]
    have e : paddedI x f = (x, (106, true)) := by simp [paddedI, padI, h8, c]
    rw [e]
    exact ⟨sl0, rfl, by simpa [show ib ≠ h.size + 1 by omega] using gi5, eT _, eT0, (K1.trans ((X13.trans X5).kp (by omega))).trans (Kp.hi _ _ (by omega))⟩
   ·refine MCall.by (sByte I3 (by omega) hl) ?_
    rintro u h4 ⟨rfl, I4, U4⟩
    simp only [go_sem, ↓reduceIte]
    exact ⟨_, f.pl.drop 1, _, by simp [padI, h8, c], rfl, I4, by rw [List.length_drop]; omega, U4.ext X13 (by omega)⟩
 ·rintro fr hh ⟨pad, l, tl, hp, rfl, I4, hl4, X4⟩
  have gb4 := (X4.get h.size (by omega)).trans gb1
  have gf4 := (X4.get (h.size + 1) (by omega)).trans gf1
  have gi4 := (X4.get ib (by omega)).trans gi1
  have s4 := X4.size
  have K4 : Kp h.size ib h hh := K1.trans (X4.kp (by omega))
  have hpl : pad < 256 := by
   unfold padI at hp
   split at hp
   ·split at hp
    ·cases hp
    ·cases hp
     exact big_lt 1 _ (by rw [List.length_take]; omega)
   ·cases hp; decide
  simp only [go_sem, ↓reduceIte, gb4]
  refine MG.cut (fun fr h5 => ∃ y l' tl', (if f.ty = 1 ∧ hasF f.fl 32 = true then weighI x l else some (x, l)) = some (y, l') ∧ y.text = [] ∧ fr = (0, .pointer (some ⟨ib, 0, none⟩)) :: (4, .pointer (some ⟨h.size + 1, 0, none⟩)) :: (5, .pointer (some ⟨r, 0, none⟩)) :: (6, .int .i64 (pad : Nat)) :: tl' ∧
   h5.get ib = some (.cells (itc y sl0 pv) true true) ∧ h5.get (h.size + 1) = some (.cells [.int .i64 0, .bool false] true true) ∧ InR h5 (h.size + 2) h2.size r l' ∧ l'.length ≤ l.length ∧ Kp h.size ib h h5) ?_ ?_
  ·by_cases c1 : f.ty = 1
   ·have b1 : ((f.ty : Int) == 1) = true := by rw [c1]; rfl
    simp only [go_sem, ↓reduceIte, b1, gb4]
    refine MCall.by (sHas f fv hf (k := 32) (by omega)) ?_
    rintro u h5 ⟨rfl, X5⟩
    have I5 := I4.ext X5
    have gf5 := (X5.get (h.size + 1) (by omega)).trans gf4
    have gi5 := (X5.get ib (by omega)).trans gi4
    have K5 : Kp h.size ib h h5 := K4.trans (X5.kp (by omega))
    cases h32 : hasF f.fl 32 with
    | false =>
     simp only [go_sem, ↓reduceIte]
     exact ⟨x, l, _, by simp, hx, rfl, gi5, gf5, I5, Nat.le_refl _, K5⟩
    | true =>
     simp only [go_sem, ↓reduceIte]
     refine MCall.by (sWeigh gi5 (by omega) I5 (by omega)) ?_
     rintro u h6 W
     cases hw : weighI x l with
     | none =>
      rw [hw] at W
      obtain ⟨rfl, rfl⟩ := W
      simp only [go_sem, ↓reduceIte]
      refine MCall.by (sConnP 106) ?_
      rintro u h7 ⟨rfl, X7⟩
      have s5 := X5.size
      have gf7 := (X7.get (h.size + 1) (by omega)).trans gf5
      have gi7 := (X7.get ib (by omega)).trans gi5
      simp only [fltV, go_sem, ↓reduceIte, gf7]
      have e : paddedI x f = (x, (106, true)) := by simp [paddedI, hp, c1, h32, hw]
      rw [e]
      exact ⟨sl0, rfl, by simpa [show ib ≠ h.size + 1 by omega] using gi7, eT _, eT0, (K5.trans (X7.kp (by omega))).trans (Kp.hi _ _ (by omega))⟩
     | some p =>
      obtain ⟨y, l'⟩ := p
      rw [hw] at W
      obtain ⟨rfl, gi6, I6, K6⟩ := W
      obtain ⟨y1, y2⟩ := weighI_text hw
      simp only [go_sem, ↓reduceIte]
      exact ⟨y, l', _, by simp [c1], y1.trans hx, rfl, gi6, (K6.get _ (by omega) (by omega)).trans gf5, I6, y2, K5.trans ⟨K6.size, fun b b1 b2 => K6.get b (by omega) b2⟩⟩
   ·have b1 : ((f.ty : Int) == 1) = false := ne_lit (k := 1) c1
    simp only [go_sem, ↓reduceIte, b1]
    exact ⟨x, l, _, by simp [c1], hx, rfl, gi4, gf4, I4, Nat.le_refl _, K4⟩
  ·rintro fr h5 ⟨y, l', tl', hw, hy, rfl, gi5, gf5, I5, hl5, K5⟩
   have hlt5 := I5.lt
   simp only [go_sem, ↓reduceIte]
   refine MCall.by (sLeft I5) ?_
   rintro u h6 ⟨rfl, rfl⟩
   by_cases c : l'.length < pad
   ·have d : (pad : Int) > (l'.length : Int) := by omega
    have d' : (l'.length : Int) < (pad : Int) := by omega
    simp only [go_sem, ↓reduceIte, d, d', decide_true]
    refine MCall.by (sConnP 101) ?_
    rintro u h7 ⟨rfl, X7⟩
    have gf7 := (X7.get (h.size + 1) (by omega)).trans gf5
    have gi7 := (X7.get ib (by omega)).trans gi5
    simp only [fltV, go_sem, ↓reduceIte, gf7]
    have e : paddedI x f = (y, (101, true)) := by simp [paddedI, hp, hw, c]
    rw [e]
    exact ⟨sl0, rfl, by simpa [show ib ≠ h.size + 1 by omega] using gi7, by rw [hy]; exact .inl ⟨rfl, 0, rfl⟩, eT0, (K5.trans (X7.kp (by omega))).trans (Kp.hi _ _ (by omega))⟩
   ·have d : ¬ (pad : Int) > (l'.length : Int) := by omega
    have d' : ¬ (l'.length : Int) < (pad : Int) := by omega
    simp only [go_sem, ↓reduceIte, d, d', decide_false]
    refine MCall.by (sLeft I5) ?_
    rintro u h7 ⟨rfl, rfl⟩
    have w1 : IntKind.i64.wrap ((l'.length : Int) - (pad : Int)) = ((l'.length - pad : Nat) : Int) := by rw [IntWalk.i64_in _ (by omega)]; omega
    simp only [go_sem, ↓reduceIte, w1]
    refine MCall.by (sTake I5 (n := l'.length - pad) (by omega) (by omega)) ?_
    rintro u h8 ⟨w, rfl, B8, hb8, hlo8, I8, U8⟩
    have gf8 := (U8.get (h.size + 1) (by omega)).trans gf5
    have gi8 := (U8.get ib (by omega)).trans gi5
    have s8 := U8.size
    simp only [itc, sl0] at gi8
    obtain ⟨sa, sn, se, rfl⟩ := B8.shape
    have hne : ¬ h.size + 1 = ib := by omega
    simp only [go_sem, ↓reduceIte, gi8, gf8, hne]
    have e : paddedI x f = ({ y with text := l'.take (l'.length - pad) }, okF) := by simp [paddedI, hp, hw, c]
    rw [e]
    have K8 : Kp h.size ib h h8 := K5.trans (U8.kp (by omega))
    refine ⟨.slice sa sn se, rfl, by simp [itc, show ib ≠ h.size + 1 by omega], ?_, fun b hb => by have := hlo8 b hb; omega, (K8.trans (Kp.set _ _ _ _)).trans (Kp.hi _ _ (by omega))⟩
    exact (B8.upd (fun e => by have := hlo8 _ e; omega) (Upd.set ib _ _)).upd (fun e => by have := hlo8 _ e; omega) (Upd.set _ _ _)
end Go.E1

/-
 Layer 10: all of a frame's type.
-/
namespace Go.E1
open Go Go.Proofs Go.M
set_option linter.unusedSimpArgs false

def pc (p : Nat × Nat) : List Value := [.int .i64 (p.1 : Nat), .int .i64 (p.2 : Nat)]
theorem pc_cel : Cel 2 pc := ⟨fun _ => rfl, fun _ => rfl, by omega⟩
theorem GL.shape {α : Type} {k : Nat} {c : α → List Value} {h : LHeap} {v : Value} {l : List α} (g : GL k c h v l) : ∃ a n e, v = .slice a n e := by
 rcases g with ⟨_, rfl⟩ | ⟨b, rfl, _⟩ <;> exact ⟨_, _, _, rfl⟩
/-- An item at its place, its text and pairs in blocks of their own. -/
def ItAt (lo : Nat) (ib : Nat) (h' : LHeap) (y : Itm) : Prop := ∃ tv pv, h'.get ib = some (.cells (itc y tv pv) true true) ∧ BytesAt h' tv y.text ∧ (∀ b, blkOf tv = some b → lo ≤ b) ∧ GL 2 pc h' pv y.pairs ∧ (∀ b, blkOf pv = some b → lo ≤ b)
theorem GL.upd {α : Type} {k : Nat} {c : α → List Value} {h h' : LHeap} {v : Value} {l : List α} {r : Nat} (g : GL k c h v l) (u : Upd r h h') (hr : blkOf v ≠ some r) : GL k c h' v l :=
 g.move (Nat.le_of_eq u.size.symm) fun x hx => u.get x fun e => hr (by rw [hx, e])

theorem fin_it {h hN : LHeap} {ib : Nat} {y : Itm} {tv pv : Value} {o : LObj} (K : Kp h.size ib h hN) (hib : ib < h.size) (ht : BytesAt hN tv y.text) (ht0 : ∀ b, blkOf tv = some b → h.size + 2 ≤ b) (hp : GL 2 pc hN pv y.pairs) (hp0 : ∀ b, blkOf pv = some b → h.size + 2 ≤ b) :
  ItAt h.size ib ((hN.set ib (.cells (itc y tv pv) true true)).set (h.size + 1) o) y ∧ Kp h.size ib h ((hN.set ib (.cells (itc y tv pv) true true)).set (h.size + 1) o) := by
 have a1 : blkOf tv ≠ some ib := fun e => by have := ht0 _ e; omega
 have a2 : blkOf tv ≠ some (h.size + 1) := fun e => by have := ht0 _ e; omega
 have a3 : blkOf pv ≠ some ib := fun e => by have := hp0 _ e; omega
 have a4 : blkOf pv ≠ some (h.size + 1) := fun e => by have := hp0 _ e; omega
 have hks := K.size
 exact ⟨⟨tv, pv, by simp [show ib ≠ h.size + 1 by omega], (ht.upd a1 (Upd.set _ _ _)).upd a2 (Upd.set _ _ _), fun b e => by have := ht0 b e; omega,
  (hp.upd (Upd.set _ _ _) a3).upd (Upd.set _ _ _) a4, fun b e => by have := hp0 b e; omega⟩, (K.trans (Kp.set _ _ _ _)).trans (Kp.hi _ _ (by omega))⟩
theorem fin_it0 {h hN : LHeap} {ib : Nat} {y : Itm} {tv pv : Value} {o : LObj} (K : Kp h.size ib h hN) (hib : ib < h.size) (g : hN.get ib = some (.cells (itc y tv pv) true true)) (ht : BytesAt hN tv y.text) (ht0 : ∀ b, blkOf tv = some b → h.size + 2 ≤ b) (hp : GL 2 pc hN pv y.pairs) (hp0 : ∀ b, blkOf pv = some b → h.size + 2 ≤ b) :
  ItAt h.size ib (hN.set (h.size + 1) o) y ∧ Kp h.size ib h (hN.set (h.size + 1) o) := by
 have a2 : blkOf tv ≠ some (h.size + 1) := fun e => by have := ht0 _ e; omega
 have a4 : blkOf pv ≠ some (h.size + 1) := fun e => by have := hp0 _ e; omega
 exact ⟨⟨tv, pv, by simpa [show ib ≠ h.size + 1 by omega] using g, ht.upd a2 (Upd.set _ _ _), fun b e => by have := ht0 b e; omega,
  hp.upd (Upd.set _ _ _) a4, fun b e => by have := hp0 b e; omega⟩, K.trans (Kp.hi _ _ (by omega))⟩

theorem paddedI_pairs (x : Itm) (f : Frm) : (paddedI x f).1.pairs = x.pairs := by
 have hw : ∀ (l : Bytes) (y : Itm) (l' : Bytes), weighI x l = some (y, l') → y.pairs = x.pairs := fun l y l' h => by
  unfold weighI at h
  split at h
  ·cases h
  ·cases h; rfl
 unfold paddedI
 split
 ·rfl
 ·rename_i pad l _
  split
  ·rfl
  ·rename_i y l' hm
   have hy : y.pairs = x.pairs := by
    split at hm
    ·exact hw _ _ _ hm
    ·cases hm; rfl
   split <;> exact hy

theorem pairsI_len : ∀ (k : Nat) (l : Bytes), (pairsI k l).length = k
 | 0, _ => rfl
 | k + 1, l => by simp [pairsI, pairsI_len k]
theorem pairsI_snoc : ∀ (k : Nat) (l : Bytes), pairsI (k + 1) l = pairsI k l ++ [(big ((l.drop (6 * k)).take 2), big (((l.drop (6 * k)).drop 2).take 4))]
 | 0, l => by simp [pairsI]
 | k + 1, l => by
  rw [pairsI, pairsI_snoc k (l.drop 6), pairsI, List.drop_drop, List.cons_append]
  rw [show 6 + 6 * k = 6 * (k + 1) by omega]
theorem sRead {h : LHeap} {ib : Nat} {f : Frm} {fv : Value} {x : Itm} (hi : h.get ib = some (.cells (itc x sl0 sl0) true true)) (hib : ib < h.size) (hx : x.text = []) (hxp : x.pairs = [])
  (hv : BytesAt h fv f.pl) (hf : f.fl < 4294967296) (hl : f.pl.length < 1000000) (hL : lengthF f = okF) (hvb : blkOf fv ≠ some ib) :
  LCalls EC 76 [.pointer (some ⟨ib, 0, none⟩), frV f fv] h fun u h' => u = fltV (readI x f).2 ∧ ItAt h.size ib h' (readI x f).1 ∧ Kp h.size ib h h' := by
 refine LCalls.enter (lf := lf76) rfl rfl (by simp [lf76]) ?_
 have hz : ¬ h.size = h.size + 1 := by omega
 have hni : ¬ ib = h.size + 1 := by omega
 have hni' : ¬ h.size + 1 = ib := by omega
 have eT : ∀ hh : LHeap, BytesAt hh sl0 x.text := fun hh => by rw [hx]; exact .inl ⟨rfl, 0, rfl⟩
 have eP : ∀ hh : LHeap, GL 2 pc hh sl0 x.pairs := fun hh => by rw [hxp]; exact .inl ⟨rfl, rfl⟩
 have eT0 : ∀ b, blkOf sl0 = some b → h.size ≤ b := fun b hb => by cases hb
 simp only [frV, go_sem, lf76, ↓reduceIte, hz]
 generalize hq : LHeap.push _ _ = h1
 have X1 : Ext h h1 := by rw [← hq]; exact (Ext.push _ _).trans (Ext.push _ _)
 have gb1 : h1.get h.size = some (.cells [.int .i64 (f.ty : Nat), .int .i64 (f.fl : Nat), .int .i64 (f.st : Nat), fv] true true) := by rw [← hq]; simp
 have gf1 : h1.get (h.size + 1) = some (.cells [.int .i64 0, .bool false] true true) := by rw [← hq]; simp
 have s1 : h1.size = h.size + 2 := by rw [← hq]; simp
 clear hq
 have gi1 : h1.get ib = _ := (X1.get ib hib).trans hi
 refine MCall.by (sInNew (hv.ext X1) hl) ?_
 rintro u h2 ⟨r, rfl, I2, X2, hr⟩
 have s2 := X2.size
 have hr2 := I2.lt.2
 have gb2 := (X2.get h.size (by omega)).trans gb1
 have gf2 := (X2.get (h.size + 1) (by omega)).trans gf1
 have gi2 := (X2.get ib (by omega)).trans gi1
 have K2 : Kp h.size ib h h2 := (X1.trans X2).kp (Nat.le_refl _)
 have hv2 := hv.ext (X1.trans X2)
 rw [s1] at I2
 clear X2 X1 gb1 gf1 gi1 hi
 obtain ⟨t, fl, st, pl⟩ := f
 simp only at hf hl hL hv hv2 I2 gb2
 have has := fun (hh : LHeap) (k : Nat) (hk : k = 1 ∨ k = 4 ∨ k = 8 ∨ k = 32) => sHas (h := hh) ⟨t, fl, st, pl⟩ fv hf hk
 have pad := fun (hh : LHeap) (y : Itm) (pv : Value) (g : hh.get ib = some (.cells (itc y sl0 pv) true true)) (hib : ib < hh.size) (hy : y.text = []) (hv : BytesAt hh fv pl) => sPadded (f := ⟨t, fl, st, pl⟩) g hib hy hv hf hl
 simp only [frV] at has pad
 have giI := gi2
 simp only [itc, sl0] at gi2
 have eT2 : ∀ b, blkOf sl0 = some b → h.size + 2 ≤ b := fun b hb => by cases hb
 rcases ty_cases t with rfl | rfl | rfl | rfl | rfl | rfl | rfl | rfl | rfl | rfl | ht
 ·simp only [go_sem, ↓reduceIte, gb2, gi2, gf2]
  refine MCall.by (has h2 1 (by omega)) ?_
  rintro u h3 ⟨rfl, X3⟩
  have gi3 := (X3.get ib (by omega)).trans gi2
  have gb3 := (X3.get h.size (by omega)).trans gb2
  have s3 := X3.size
  have hnb : ¬ h.size = ib := by omega
  have X23 := X3
  simp only [go_sem, ↓reduceIte, gi3, gb3, hnb]
  generalize hq : LHeap.set _ ib _ = h4
  have U4 : Upd ib h3 h4 := by rw [← hq]; exact (Upd.set _ _ _).trans (Upd.set _ _ _)
  have gi4 : h4.get ib = some (.cells (itc { x with fin := hasF fl 1, endh := decide ((0 : Nat) = 1) && hasF fl 4 } sl0 sl0) true true) := by rw [← hq]; simp [itc, sl0]
  clear hq
  have s4 := U4.size
  have K4 : Kp h.size ib h h4 := (K2.trans (X3.kp (by omega))).trans ⟨Nat.le_of_eq U4.size.symm, fun b _ b2 => U4.get b b2⟩
  have gf4 := (U4.get (h.size + 1) (by omega)).trans ((X3.get (h.size + 1) (by omega)).trans gf2)
  have hv4 := BytesAt.upd (hv2.ext X3) hvb U4
  refine MCall.by (pad h4 { x with fin := hasF fl 1, endh := decide ((0 : Nat) = 1) && hasF fl 4 } _ gi4 (by omega) hx hv4) ?_
  rintro u h5 ⟨tv, rfl, gi5, B5, hlo5, K5⟩
  have s5 := K5.size
  have gf5 := (K5.get (h.size + 1) (by omega) (by omega)).trans gf4
  have hpp : (paddedI { x with fin := hasF fl 1, endh := decide ((0 : Nat) = 1) && hasF fl 4 } ⟨0, fl, st, pl⟩).1.pairs = x.pairs := paddedI_pairs _ _
  generalize hP : paddedI { x with fin := hasF fl 1, endh := decide ((0 : Nat) = 1) && hasF fl 4 } ⟨0, fl, st, pl⟩ = P at *
  obtain ⟨y, z⟩ := P
  have K05 : Kp h.size ib h h5 := K4.trans ⟨K5.size, fun b b1 b2 => K5.get b (by omega) b2⟩
  simp only [fltV, go_sem, ↓reduceIte]
  generalize hq : LHeap.set _ h5.size _ = h6
  have X6 : Ext h5 h6 := by rw [← hq]; exact (Ext.push _ _).set (Nat.le_refl _) _
  have g6 : h6.get h5.size = some (.cells [.int .i64 (z.1 : Nat), .bool z.2] true true) := by rw [← hq]; simp
  have s6 : h6.size = h5.size + 1 := by rw [← hq]; simp
  clear hq
  refine MCall.by (sOKF z) ?_
  rintro u h7 ⟨rfl, X7⟩
  have gi7 := (X7.get ib (by omega)).trans ((X6.get ib (by omega)).trans gi5)
  have gf7 := (X7.get (h.size + 1) (by omega)).trans ((X6.get (h.size + 1) (by omega)).trans gf5)
  have g7 := (X7.get h5.size (by omega)).trans g6
  have K07 : Kp h.size ib h h7 := (K05.trans (X6.kp (by omega))).trans (X7.kp (by omega))
  have B7 := (B5.ext X6).ext X7
  have s7 := X7.size
  by_cases cz : z = okF
  ·simp only [cz, decide_true, go_sem, ↓reduceIte]
   refine MCall.by (sOwn gi7 (by omega)) ?_
   rintro u h8 ⟨rfl, X8⟩
   have gi8 := (X8.get ib (by omega)).trans gi7
   have gf8 := (X8.get (h.size + 1) (by omega)).trans gf7
   simp only [fltV, go_sem, ↓reduceIte, gf8]
   have e : readI x ⟨0, fl, st, pl⟩ = (y, M.ownI y) := by
    unfold readI
    rw [if_pos (by simp)]
    show (let p := paddedI { x with fin := hasF fl 1, endh := decide ((0 : Nat) = 1) && hasF fl 4 } ⟨0, fl, st, pl⟩; if p.2 ≠ okF then p else (p.1, M.ownI p.1)) = _
    rw [hP]
    simp [cz]
   rw [e]
   exact ⟨rfl, fin_it0 (K07.trans (X8.kp (by omega))) hib gi8 (B7.ext X8) (fun b hb => by have := hlo5 b hb; omega) (by rw [hpp]; exact eP _) eT2⟩
  ·simp only [cz, decide_false, go_sem, ↓reduceIte, g7, gf7]
   have e : readI x ⟨0, fl, st, pl⟩ = (y, z) := by
    unfold readI
    rw [if_pos (by simp)]
    show (let p := paddedI { x with fin := hasF fl 1, endh := decide ((0 : Nat) = 1) && hasF fl 4 } ⟨0, fl, st, pl⟩; if p.2 ≠ okF then p else (p.1, M.ownI p.1)) = _
    rw [hP]
    simp [cz]
   rw [e]
   exact ⟨rfl, fin_it0 K07 hib gi7 B7 (fun b hb => by have := hlo5 b hb; omega) (by rw [hpp]; exact eP _) eT2⟩
 ·simp only [go_sem, ↓reduceIte, gb2, gi2, gf2]
  refine MCall.by (has h2 1 (by omega)) ?_
  rintro u h3' ⟨rfl, X3'⟩
  have gi3' := (X3'.get ib (by omega)).trans gi2
  have gb3' := (X3'.get h.size (by omega)).trans gb2
  have s3' := X3'.size
  have hnb : ¬ h.size = ib := by omega
  simp only [go_sem, ↓reduceIte, gi3', gb3', hnb]
  generalize hq : LHeap.set _ ib _ = h3a
  have U3 : Upd ib h3' h3a := by rw [← hq]; exact Upd.set _ _ _
  have gi3 : h3a.get ib = some (.cells (itc { x with fin := hasF fl 1 } sl0 sl0) true true) := by rw [← hq]; simp [itc, sl0]
  clear hq
  have gb3 := (U3.get h.size hnb).trans gb3'
  have s3a := U3.size
  refine MCall.by (has h3a 4 (by omega)) ?_
  rintro u h3 ⟨rfl, X3⟩
  have gi3 := (X3.get ib (by omega)).trans gi3
  have gb3 := (X3.get h.size (by omega)).trans gb3
  have s3 := X3.size
  simp only [itc, sl0] at gi3
  simp only [go_sem, ↓reduceIte, gi3, gb3, hnb]
  generalize hq : LHeap.set _ ib _ = h4
  have U4 : Upd ib h3 h4 := by rw [← hq]; exact (Upd.set _ _ _)
  have gi4 : h4.get ib = some (.cells (itc { x with fin := hasF fl 1, endh := decide ((1 : Nat) = 1) && hasF fl 4 } sl0 sl0) true true) := by rw [← hq]; simp [itc, sl0]
  clear hq
  have s4 := U4.size
  have K4 : Kp h.size ib h h4 := (((K2.trans (X3'.kp (by omega))).trans ⟨Nat.le_of_eq U3.size.symm, fun b _ b2 => U3.get b b2⟩).trans (X3.kp (by omega))).trans ⟨Nat.le_of_eq U4.size.symm, fun b _ b2 => U4.get b b2⟩
  have gf4 := (U4.get (h.size + 1) (by omega)).trans ((X3.get (h.size + 1) (by omega)).trans ((U3.get (h.size + 1) (by omega)).trans ((X3'.get (h.size + 1) (by omega)).trans gf2)))
  have hv4 := BytesAt.upd ((BytesAt.upd (hv2.ext X3') hvb U3).ext X3) hvb U4
  refine MCall.by (pad h4 { x with fin := hasF fl 1, endh := decide ((1 : Nat) = 1) && hasF fl 4 } _ gi4 (by omega) hx hv4) ?_
  rintro u h5 ⟨tv, rfl, gi5, B5, hlo5, K5⟩
  have s5 := K5.size
  have gf5 := (K5.get (h.size + 1) (by omega) (by omega)).trans gf4
  have hpp : (paddedI { x with fin := hasF fl 1, endh := decide ((1 : Nat) = 1) && hasF fl 4 } ⟨1, fl, st, pl⟩).1.pairs = x.pairs := paddedI_pairs _ _
  generalize hP : paddedI { x with fin := hasF fl 1, endh := decide ((1 : Nat) = 1) && hasF fl 4 } ⟨1, fl, st, pl⟩ = P at *
  obtain ⟨y, z⟩ := P
  have K05 : Kp h.size ib h h5 := K4.trans ⟨K5.size, fun b b1 b2 => K5.get b (by omega) b2⟩
  simp only [fltV, go_sem, ↓reduceIte]
  generalize hq : LHeap.set _ h5.size _ = h6
  have X6 : Ext h5 h6 := by rw [← hq]; exact (Ext.push _ _).set (Nat.le_refl _) _
  have g6 : h6.get h5.size = some (.cells [.int .i64 (z.1 : Nat), .bool z.2] true true) := by rw [← hq]; simp
  have s6 : h6.size = h5.size + 1 := by rw [← hq]; simp
  clear hq
  refine MCall.by (sOKF z) ?_
  rintro u h7 ⟨rfl, X7⟩
  have gi7 := (X7.get ib (by omega)).trans ((X6.get ib (by omega)).trans gi5)
  have gf7 := (X7.get (h.size + 1) (by omega)).trans ((X6.get (h.size + 1) (by omega)).trans gf5)
  have g7 := (X7.get h5.size (by omega)).trans g6
  have K07 : Kp h.size ib h h7 := (K05.trans (X6.kp (by omega))).trans (X7.kp (by omega))
  have B7 := (B5.ext X6).ext X7
  have s7 := X7.size
  by_cases cz : z = okF
  ·simp only [cz, decide_true, go_sem, ↓reduceIte]
   refine MCall.by (sOwn gi7 (by omega)) ?_
   rintro u h8 ⟨rfl, X8⟩
   have gi8 := (X8.get ib (by omega)).trans gi7
   have gf8 := (X8.get (h.size + 1) (by omega)).trans gf7
   simp only [fltV, go_sem, ↓reduceIte, gf8]
   have e : readI x ⟨1, fl, st, pl⟩ = (y, M.ownI y) := by
    unfold readI
    rw [if_pos (by simp)]
    show (let p := paddedI { x with fin := hasF fl 1, endh := decide ((1 : Nat) = 1) && hasF fl 4 } ⟨1, fl, st, pl⟩; if p.2 ≠ okF then p else (p.1, M.ownI p.1)) = _
    rw [hP]
    simp [cz]
   rw [e]
   exact ⟨rfl, fin_it0 (K07.trans (X8.kp (by omega))) hib gi8 (B7.ext X8) (fun b hb => by have := hlo5 b hb; omega) (by rw [hpp]; exact eP _) eT2⟩
  ·simp only [cz, decide_false, go_sem, ↓reduceIte, g7, gf7]
   have e : readI x ⟨1, fl, st, pl⟩ = (y, z) := by
    unfold readI
    rw [if_pos (by simp)]
    show (let p := paddedI { x with fin := hasF fl 1, endh := decide ((1 : Nat) = 1) && hasF fl 4 } ⟨1, fl, st, pl⟩; if p.2 ≠ okF then p else (p.1, M.ownI p.1)) = _
    rw [hP]
    simp [cz]
   rw [e]
   exact ⟨rfl, fin_it0 K07 hib gi7 B7 (fun b hb => by have := hlo5 b hb; omega) (by rw [hpp]; exact eP _) eT2⟩
 ·simp only [go_sem, ↓reduceIte, gb2, gi2, gf2]
  have hn : pl.length = 5 := by
   apply Classical.byContradiction
   intro c
   simp [lengthF, c, okF] at hL
  refine MCall.by (sWeigh giI (by omega) I2 hl) ?_
  rintro u h3 W
  cases hw : weighI x pl with
  | none => simp [weighI, hn] at hw
  | some p =>
   obtain ⟨y, l'⟩ := p
   rw [hw] at W
   obtain ⟨rfl, gi3, I3, K3⟩ := W
   have y1 := weighI_text hw
   have y2 : y.pairs = x.pairs := by simp only [weighI, hn] at hw; simp at hw; rw [← hw.1]
   have gf3 := (K3.get (h.size + 1) (by omega) (by omega)).trans gf2
   have hs3 := K3.size
   simp only [go_sem, ↓reduceIte]
   refine MCall.by (sOwn gi3 (by omega)) ?_
   rintro u h4 ⟨rfl, X4⟩
   have gi4 := (X4.get ib (by omega)).trans gi3
   have gf4 := (X4.get (h.size + 1) (by omega)).trans gf3
   simp only [fltV, go_sem, ↓reduceIte, gf4]
   have e : readI x ⟨2, fl, st, pl⟩ = (y, M.ownI y) := by simp [readI, hw]
   rw [e]
   exact ⟨rfl, fin_it0 ((K2.trans ⟨K3.size, fun b b1 b2 => K3.get b (by omega) b2⟩).trans (X4.kp (by omega))) hib gi4 (by rw [y1.1]; exact eT _) eT2 (by rw [y2]; exact eP _) eT2⟩
 ·simp only [go_sem, ↓reduceIte, gb2, gi2, gf2]
  have hn : pl.length = 4 := by
   apply Classical.byContradiction
   intro c
   simp [lengthF, c, okF] at hL
  refine MCall.by (sNumberP (n := 4) I2 (by omega) (by omega) hl) ?_
  rintro u h3 ⟨rfl, I3, U3⟩
  have gi3 := (U3.get ib (by omega)).trans gi2
  have gf3 := (U3.get (h.size + 1) (by omega)).trans gf2
  simp only [go_sem, ↓reduceIte, gi3, gf3, hni']
  exact ⟨rfl, fin_it (y := { x with code := big (pl.take 4) }) (K2.trans (U3.kp (by omega))) hib (eT _) eT2 (eP _) eT2⟩
 ·simp only [go_sem, ↓reduceIte, gb2, gi2, gf2]
  refine MCall.by (has h2 1 (by omega)) ?_
  rintro u h3 ⟨rfl, X3⟩
  have gi3 := (X3.get ib (by omega)).trans gi2
  have gf3 := (X3.get (h.size + 1) (by omega)).trans gf2
  have s3 := X3.size
  have hn : pl.length % 6 = 0 := by
   apply Classical.byContradiction
   intro c
   simp [lengthF, c, okF] at hL
  simp only [go_sem, ↓reduceIte, gi3, gf3, hni']
  generalize hq : LHeap.set _ ib _ = h4
  have U4 : Upd ib h3 h4 := by rw [← hq]; exact Upd.set _ _ _
  have gi4 : h4.get ib = some (.cells (itc { x with ack := hasF fl 1 } sl0 sl0) true true) := by rw [← hq]; simp [itc, sl0]
  clear hq
  have s4 := U4.size
  have K4 : Kp h.size ib h h4 := (K2.trans (X3.kp (by omega))).trans ⟨Nat.le_of_eq U4.size.symm, fun b _ b2 => U4.get b b2⟩
  have gf4 := (U4.get (h.size + 1) (by omega)).trans gf3
  have I4 := (I2.ext X3).upd U4 (by omega)
  refine MC.loop (fun m fr hh => ∃ i pv tl, m = pl.length - 6 * i ∧ fr = (0, .pointer (some ⟨ib, 0, none⟩)) :: (4, .pointer (some ⟨h.size + 1, 0, none⟩)) :: (5, .pointer (some ⟨r, 0, none⟩)) :: tl ∧ 6 * i ≤ pl.length ∧
   hh.get ib = some (.cells (itc { x with ack := hasF fl 1, pairs := pairsI i pl } sl0 pv) true true) ∧ hh.get (h.size + 1) = some (.cells [.int .i64 0, .bool false] true true) ∧ InR hh (h.size + 2) h2.size r (pl.drop (6 * i)) ∧
   GL 2 pc hh pv (pairsI i pl) ∧ (∀ b, blkOf pv = some b → h2.size ≤ b) ∧ Kp h.size ib h hh) pl.length ⟨0, sl0, [], by omega, rfl, by omega, gi4, gf4, I4, .inl ⟨rfl, rfl⟩, (fun b hb => by cases hb), K4⟩ ?_
  rintro m fr hh J ⟨i, pv, tl, rfl, rfl, hi6, gi5, gf5, I5, G5, hlo5, K5⟩ hJ
  simp only [go_sem, ↓reduceIte]
  refine MCall.by (sLeft I5) ?_
  rintro u h6 ⟨rfl, rfl⟩
  have hdl : (pl.drop (6 * i)).length = pl.length - 6 * i := List.length_drop
  by_cases c : 6 * i = pl.length
  ·have d : ¬ ((pl.drop (6 * i)).length : Int) > 0 := by omega
   have d' : ¬ (0 : Int) < ((pl.drop (6 * i)).length : Int) := by omega
   simp only [go_sem, ↓reduceIte, d, d', decide_false, gf5]
   have e : readI x ⟨4, fl, st, pl⟩ = ({ x with ack := hasF fl 1, pairs := pairsI i pl }, okF) := by simp [readI, show pl.length / 6 = i by omega]
   rw [e]
   exact ⟨rfl, fin_it0 K5 hib gi5 (eT _) eT2 G5 (fun b hb => by have := hlo5 b hb; omega)⟩
  ·have d : ((pl.drop (6 * i)).length : Int) > 0 := by omega
   have d' : (0 : Int) < ((pl.drop (6 * i)).length : Int) := by omega
   have hsz5 := I5.lt
   obtain ⟨pa, pn, pe, rfl⟩ := G5.shape
   have gi5' := gi5
   simp only [itc, sl0] at gi5'
   simp only [go_sem, ↓reduceIte, d, d', decide_true]
   refine MC.dregion ?_
   simp only [go_sem, ↓reduceIte, gi5']
   refine MDCall.by (sNumberP (n := 2) I5 (by omega) (by omega) (by omega)) ?_
   rintro u h7 ⟨rfl, I7, U7⟩
   have gi7 := (U7.get ib (by omega)).trans gi5'
   simp only [go_sem, ↓reduceIte, gi7]
   refine MDCall.by (sNumberP (n := 4) I7 (by rw [List.length_drop]; omega) (by omega) (by rw [List.length_drop]; omega)) ?_
   rintro u h8 ⟨rfl, I8, U8⟩
   have U := U7.trans U8
   have gi8 := (U.get ib (by omega)).trans gi5'
   have G8 := G5.upd U (fun e => by have := hlo5 _ e; omega)
   obtain ⟨pv', h9, ha, G9, z9, g9, n9⟩ := gl_append pc_cel (q := EC.q) (by' := 16) G8 (big ((pl.drop (6 * i)).take 2), big (((pl.drop (6 * i)).drop 2).take 4)) (by rw [pairsI_len]; omega) (by omega)
   simp only [pc] at ha
   have s7 := U7.size
   have s8 := U8.size
   have hsz8 : h2.size ≤ h8.size := by
    obtain ⟨v, k1, _⟩ := I8
    exact k1.2
   have hn8 : ¬ ib = h8.size := by omega
   have gi9 := (g9 ib (by omega) (fun e => by have := hlo5 _ e; omega)).trans gi8
   have gf9 := (g9 (h.size + 1) (by omega) (fun e => by have := hlo5 _ e; omega)).trans ((U.get (h.size + 1) (by omega)).trans gf5)
   obtain ⟨qa, qn, qe, rfl⟩ := G9.shape
   simp only [go_sem, ↓reduceIte, gi8, ha, hn8, gi9]
   have I9 : InR h9 (h.size + 2) h2.size r (pl.drop (6 * (i + 1))) := by
    have e : pl.drop (6 * (i + 1)) = ((pl.drop (6 * i)).drop 2).drop 4 := by rw [List.drop_drop, List.drop_drop, show 6 * (i + 1) = 6 * i + (2 + 4) by omega]
    rw [e]
    obtain ⟨v, k1, k0, k2, k3, k4, k5⟩ := I8
    refine ⟨v, ⟨k1.1, by omega⟩, k0, by rw [g9 r (by omega) (fun e => by have := hlo5 _ e; omega)]; exact k2, ?_, k4, k5⟩
    rcases k3 with h1 | ⟨b, o, cs, t, r', rfl, m1, m2, m3, m4⟩
    ·exact .inl h1
    ·have hb := k5 b rfl
     exact .inr ⟨b, o, cs, t, r', rfl, by omega, by rw [g9 b m1 (fun e => by have := hlo5 _ e; omega)]; exact m2, m3, m4⟩
   have hq9 : ∀ b, blkOf (.slice qa qn qe) = some b → h2.size ≤ b := fun b hb => by have := n9 b hb; omega
   refine hJ _ _ _ (by omega) ⟨i + 1, .slice qa qn qe, _, rfl, rfl, by omega, by rw [pairsI_snoc]; simp [itc, sl0], by simpa [hni'] using gf9, I9.upd (Upd.set ib _ _) (by omega), ?_, hq9, ?_⟩
   ·rw [pairsI_snoc]
    exact G9.upd (Upd.set ib _ _) (fun e => by have := hq9 _ e; omega)
   ·refine (K5.trans ⟨by omega, fun b b1 b2 => ?_⟩).trans (Kp.set _ _ _ _)
    rw [g9 b (by omega) (fun e => by have := hlo5 _ e; omega), U.get b (by omega)]
 ·simp only [go_sem, ↓reduceIte, gb2, gi2, gf2]
  exact ⟨rfl, fin_it0 K2 hib giI (eT _) eT2 (eP _) eT2⟩
 ·simp only [go_sem, ↓reduceIte, gb2, gi2, gf2]
  refine MCall.by (has h2 1 (by omega)) ?_
  rintro u h3 ⟨rfl, X3⟩
  have I3 := I2.ext X3
  simp only [go_sem, ↓reduceIte]
  refine MCall.by (sRest I3 hl) ?_
  rintro u h4 ⟨B4, hb4, hlo4, U4⟩
  have gi4 := (U4.get ib (by omega)).trans ((X3.get ib (by omega)).trans gi2)
  have gf4 := (U4.get (h.size + 1) (by omega)).trans ((X3.get (h.size + 1) (by omega)).trans gf2)
  obtain ⟨sa, sn, se, rfl⟩ := B4.shape
  simp only [go_sem, ↓reduceIte, gi4, gf4, hni']
  have B5 : ∀ o, BytesAt (h4.set ib o) (.slice sa sn se) pl := fun o => B4.upd (fun e => by have := hlo4 _ e; omega) (Upd.set ib _ _)
  have K4 : Kp h.size ib h h4 := (K2.trans (X3.kp (by omega))).trans (U4.kp (by omega))
  exact ⟨rfl, fin_it (y := { x with ack := hasF fl 1, text := pl }) (K4.trans (Kp.set _ _ _ _)) hib (B5 _) (fun b hb => (hlo4 b hb).1) (eP _) eT2⟩
 ·simp only [go_sem, ↓reduceIte, gb2, gi2, gf2]
  have hn : 8 ≤ pl.length := by
   apply Classical.byContradiction
   intro c
   simp [lengthF, okF, show pl.length < 8 by omega] at hL
  refine MCall.by (sNumberP (n := 4) I2 (by omega) (by omega) hl) ?_
  rintro u h3 ⟨rfl, I3, U3⟩
  have hb := big_lt 4 (pl.take 4) (by rw [List.length_take]; omega)
  have ha := and_low (n := big (pl.take 4)) (by rw [show (4294967296 : Nat) = 256 ^ 4 by decide]; exact hb)
  simp only [go_sem, ↓reduceIte, ha]
  refine MCall.by (sNumberP (n := 4) I3 (by rw [List.length_drop]; omega) (by omega) (by rw [List.length_drop]; omega)) ?_
  rintro u h4 ⟨rfl, I4, U4⟩
  simp only [go_sem, ↓reduceIte]
  refine MCall.by (sRest I4 (by rw [List.length_drop, List.length_drop]; omega)) ?_
  rintro u h5 ⟨B5, hb5, hlo5, U5⟩
  have U := (U3.trans U4).trans U5
  have gi5 := (U.get ib (by omega)).trans gi2
  have gf5 := (U.get (h.size + 1) (by omega)).trans gf2
  obtain ⟨sa, sn, se, rfl⟩ := B5.shape
  simp only [go_sem, ↓reduceIte, gi5, gf5, hni']
  rw [List.drop_drop] at B5
  have B6 : ∀ o, BytesAt (h5.set ib o) (.slice sa sn se) (pl.drop 8) := fun o => B5.upd (fun e => by have := hlo5 _ e; omega) (Upd.set ib _ _)
  have B7 : ∀ o o', BytesAt ((h5.set ib o).set ib o') (.slice sa sn se) (pl.drop 8) := fun o o' => (B6 o).upd (fun e => by have := hlo5 _ e; omega) (Upd.set ib _ _)
  have K5 : Kp h.size ib h h5 := K2.trans (U.kp (by omega))
  exact ⟨rfl, fin_it (y := { x with last := big (pl.take 4) % 2147483648, code := big ((pl.drop 4).take 4), text := pl.drop 8 }) ((K5.trans (Kp.set _ _ _ _)).trans (Kp.set _ _ _ _)) hib (B7 _ _) (fun b hb => (hlo5 b hb).1) (eP _) eT2⟩
 ·simp only [go_sem, ↓reduceIte, gb2, gi2, gf2]
  have hn : pl.length = 4 := by
   apply Classical.byContradiction
   intro c
   simp [lengthF, c, okF] at hL
  refine MCall.by (sNumberP (n := 4) I2 (by omega) (by omega) hl) ?_
  rintro u h3 ⟨rfl, I3, U3⟩
  have hb := big_lt 4 (pl.take 4) (by rw [List.length_take]; omega)
  have ha := and_low (n := big (pl.take 4)) (by rw [show (4294967296 : Nat) = 256 ^ 4 by decide]; exact hb)
  have gi3 := (U3.get ib (by omega)).trans gi2
  have gf3 := (U3.get (h.size + 1) (by omega)).trans gf2
  have gb3 := (U3.get h.size (by omega)).trans gb2
  have K3 : Kp h.size ib h h3 := K2.trans (U3.kp (by omega))
  have hnb : ¬ h.size = ib := by omega
  by_cases cz : big (pl.take 4) % 2147483648 = 0
  ·have b0 : (((big (pl.take 4) % 2147483648 : Nat) : Int) == 0) = true := by rw [cz]; rfl
   have e : readI x ⟨8, fl, st, pl⟩ = ({ x with inc := big (pl.take 4) % 2147483648 }, (101, decide (st = 0))) := by simp [readI, cz]
   have est : ((st : Int) == 0) = decide (st = 0) := by
    by_cases c : st = 0
    ·rw [c]; rfl
    ·simp only [c, decide_false]; exact ne_lit (k := 0) c
   simp only [go_sem, ↓reduceIte, gi3, gf3, gb3, ha, hni', hnb, b0, est]
   rw [e]
   exact ⟨rfl, fin_it (y := { x with inc := big (pl.take 4) % 2147483648 }) K3 hib (eT _) eT2 (eP _) eT2⟩
  ·have b0 : (((big (pl.take 4) % 2147483648 : Nat) : Int) == 0) = false := ne_lit (k := 0) cz
   have e : readI x ⟨8, fl, st, pl⟩ = ({ x with inc := big (pl.take 4) % 2147483648 }, okF) := by simp [readI, cz]
   simp only [go_sem, ↓reduceIte, gi3, gf3, gb3, ha, hni', hnb, b0]
   rw [e]
   exact ⟨rfl, fin_it (y := { x with inc := big (pl.take 4) % 2147483648 }) K3 hib (eT _) eT2 (eP _) eT2⟩
 ·simp only [go_sem, ↓reduceIte, gb2, gi2, gf2]
  refine MCall.by (has h2 4 (by omega)) ?_
  rintro u h3 ⟨rfl, X3⟩
  have I3 := I2.ext X3
  simp only [go_sem, ↓reduceIte]
  refine MCall.by (sRest I3 hl) ?_
  rintro u h4 ⟨B4, hb4, hlo4, U4⟩
  have gi4 := (U4.get ib (by omega)).trans ((X3.get ib (by omega)).trans gi2)
  have gf4 := (U4.get (h.size + 1) (by omega)).trans ((X3.get (h.size + 1) (by omega)).trans gf2)
  obtain ⟨sa, sn, se, rfl⟩ := B4.shape
  simp only [go_sem, ↓reduceIte, gi4, gf4, hni']
  have B5 : ∀ o, BytesAt (h4.set ib o) (.slice sa sn se) pl := fun o => B4.upd (fun e => by have := hlo4 _ e; omega) (Upd.set ib _ _)
  have K4 : Kp h.size ib h h4 := (K2.trans (X3.kp (by omega))).trans (U4.kp (by omega))
  exact ⟨rfl, fin_it (y := { x with endh := hasF fl 4, text := pl }) (K4.trans (Kp.set _ _ _ _)) hib (B5 _) (fun b hb => (hlo4 b hb).1) (eP _) eT2⟩
 ·have n0 : ((t : Int) == 0) = false := ne_lit (k := 0) (by omega)
  have n1 : ((t : Int) == 1) = false := ne_lit (k := 1) (by omega)
  have n2 : ((t : Int) == 2) = false := ne_lit (k := 2) (by omega)
  have n3 : ((t : Int) == 3) = false := ne_lit (k := 3) (by omega)
  have n4 : ((t : Int) == 4) = false := ne_lit (k := 4) (by omega)
  have n5 : ((t : Int) == 5) = false := ne_lit (k := 5) (by omega)
  have n6 : ((t : Int) == 6) = false := ne_lit (k := 6) (by omega)
  have n7 : ((t : Int) == 7) = false := ne_lit (k := 7) (by omega)
  have n8 : ((t : Int) == 8) = false := ne_lit (k := 8) (by omega)
  have n9 : ((t : Int) == 9) = false := ne_lit (k := 9) (by omega)
  simp only [go_sem, ↓reduceIte, gb2, gi2, gf2, n0, n1, n2, n3, n4, n6, n7, n8, n9]
  have e : readI x ⟨t, fl, st, pl⟩ = (x, okF) := by simp [readI, show ¬ t = 0 by omega, show ¬ t = 1 by omega, show ¬ t = 2 by omega, show ¬ t = 3 by omega, show ¬ t = 4 by omega, show ¬ t = 6 by omega, show ¬ t = 7 by omega, show ¬ t = 8 by omega, show ¬ t = 9 by omega]
  rw [e]
  exact ⟨rfl, fin_it0 K2 hib giI (eT _) eT2 (eP _) eT2⟩
end Go.E1

/-
 Layer 10: what a frame says.
-/
namespace Go.E1
open Go Go.Proofs Go.M
set_option linter.unusedSimpArgs false

def frc4 (f : Frm) (fv : Value) : List Value := [.int .i64 (f.ty : Nat), .int .i64 (f.fl : Nat), .int .i64 (f.st : Nat), fv]
def itV (x : Itm) (tv pv : Value) : Value := .agg (itc x tv pv).toArray

theorem sLook1 {h : LHeap} {f : Frm} {fv : Value} {fb : Nat} (g : h.get fb = some (.cells (frc4 f fv) true true)) (hlt : fb < h.size) :
  LCalls EC 71 [.pointer (some ⟨fb, 0, none⟩)] h fun u h' => u = fltV (placeF f) ∧ Ext h h' := by
 refine LCalls.enter (lf := lf71) rfl rfl (by simp [lf71]) ?_
 have hn : ¬ fb = h.size := by omega
 simp only [frc4] at g
 simp only [go_sem, lf71, ↓reduceIte, g, hn]
 refine MCall.by (sPlace f fv) ?_
 rintro u h2 ⟨rfl, X2⟩
 have s2 := X2.size
 have g2 := X2.get h.size (by simp)
 simp only [go_sem, ↓reduceIte] at g2 s2
 simp only [fltV, go_sem, ↓reduceIte, g2]
 exact ((Ext.push _ _).trans X2).set (Nat.le_refl _) _
theorem sLook2 {h : LHeap} {f : Frm} {fv : Value} {fb : Nat} (g : h.get fb = some (.cells (frc4 f fv) true true)) (hlt : fb < h.size) (hv : BytesAt h fv f.pl) (hf : f.fl < 4294967296) (hl : f.pl.length < 1000000) :
  LCalls EC 73 [.pointer (some ⟨fb, 0, none⟩)] h fun u h' => u = fltV (lengthF f) ∧ Ext h h' := by
 refine LCalls.enter (lf := lf73) rfl rfl (by simp [lf73]) ?_
 have hn : ¬ fb = h.size := by omega
 simp only [frc4] at g
 simp only [go_sem, lf73, ↓reduceIte, g, hn]
 refine MCall.by (sLength f fv (hv.ext (Ext.push _ _)) hf (by omega)) ?_
 rintro u h2 ⟨rfl, X2⟩
 have s2 := X2.size
 have g2 := X2.get h.size (by simp)
 simp only [go_sem, ↓reduceIte] at g2 s2
 simp only [fltV, go_sem, ↓reduceIte, g2]
 exact ((Ext.push _ _).trans X2).set (Nat.le_refl _) _
theorem sLook3 {h : LHeap} {f : Frm} {fv : Value} {x : Itm} {ib fb : Nat} (g : h.get fb = some (.cells (frc4 f fv) true true)) (hlt : fb < h.size) (hi : h.get ib = some (.cells (itc x sl0 sl0) true true)) (hib : ib < h.size) (hx : x.text = []) (hxp : x.pairs = [])
  (hv : BytesAt h fv f.pl) (hf : f.fl < 4294967296) (hl : f.pl.length < 1000000) (hL : lengthF f = okF) (hvb : blkOf fv ≠ some ib) :
  LCalls EC 75 [.pointer (some ⟨ib, 0, none⟩), .pointer (some ⟨fb, 0, none⟩)] h fun u h' => u = fltV (readI x f).2 ∧ ItAt h.size ib h' (readI x f).1 ∧ Kp h.size ib h h' := by
 refine LCalls.enter (lf := lf75) rfl rfl (by simp [lf75]) ?_
 have hn : ¬ fb = h.size := by omega
 have hni : ¬ ib = h.size := by omega
 simp only [frc4] at g
 have gi1 : (h.push (.cells [.int .i64 0, .bool false] true true)).get ib = some (.cells (itc x sl0 sl0) true true) := by simp [hni, hi]
 simp only [go_sem, lf75, ↓reduceIte, g, hn]
 refine MCall.by (sRead gi1 (by simp; omega) hx hxp (hv.ext (Ext.push _ _)) hf hl hL hvb) ?_
 rintro u h2 ⟨rfl, I2, K2⟩
 have s2 := K2.size
 simp only [LHeap.size_push] at s2 I2 K2
 have g2 := K2.get h.size (by omega) (by omega)
 simp only [go_sem, ↓reduceIte] at g2
 simp only [fltV, go_sem, ↓reduceIte, g2]
 obtain ⟨tv, pv, k1, k2, k3, k4, k5⟩ := I2
 refine ⟨⟨tv, pv, by simpa [hni] using k1, k2.upd (fun e => by have := k3 _ e; omega) (Upd.set h.size _ _), fun b hb => by have := k3 b hb; omega, k4.upd (Upd.set h.size _ _) (fun e => by have := k5 _ e; omega), fun b hb => by have := k5 b hb; omega⟩, ?_⟩
 exact ((Ext.push _ _).kp (Nat.le_refl _)).trans ((⟨by simpa using s2, fun b b1 b2 => K2.get b (by omega) b2⟩ : Kp h.size ib _ h2).trans (Kp.hi _ _ (Nat.le_refl _)))

theorem Kp.toExt {lo ib : Nat} {h h1 h2 : LHeap} (K : Kp lo ib h1 h2) (hl : h.size ≤ lo) (hi : h.size ≤ ib) (X : Ext h h1) : Ext h h2 := ⟨Nat.le_trans X.size K.size, fun b hb => (K.get b (by omega) (by omega)).trans (X.get b hb)⟩
theorem ItAt.ext {lo ib : Nat} {h h' : LHeap} {y : Itm} (I : ItAt lo ib h y) (hib : ib < h.size) (X : Ext h h') : ItAt lo ib h' y := by
 obtain ⟨tv, pv, k1, k2, k3, k4, k5⟩ := I
 exact ⟨tv, pv, (X.get ib hib).trans k1, k2.ext X, k3, k4.ext X, k5⟩
theorem ItAt.lo {lo lo' ib : Nat} {h : LHeap} {y : Itm} (I : ItAt lo ib h y) (hl : lo' ≤ lo) : ItAt lo' ib h y := by
 obtain ⟨tv, pv, k1, k2, k3, k4, k5⟩ := I
 exact ⟨tv, pv, k1, k2, fun b hb => by have := k3 b hb; omega, k4, fun b hb => by have := k5 b hb; omega⟩
theorem Kp.low {lo lo' ib : Nat} {h h' : LHeap} (K : Kp lo' ib h h') (hl : lo ≤ lo') : Kp lo ib h h' := ⟨K.size, fun b b1 b2 => K.get b (by omega) b2⟩
def ParseJ (h : LHeap) (f : Frm) (fv : Value) (fr : Fr) (hh : LHeap) : Prop :=
 ∃ tl, fr = (1, .pointer (some ⟨h.size, 0, none⟩)) :: (2, .pointer (some ⟨h.size + 1, 0, none⟩)) :: (3, .pointer (some ⟨h.size + 1 + 1, 0, none⟩)) :: (4, .pointer (some ⟨h.size + 1 + 1 + 1, 0, none⟩)) :: tl ∧
  hh.size = h.size + 1 + 1 + 1 + 1 ∧ hh.get h.size = some (.cells (frc4 f fv) true true) ∧ hh.get (h.size + 1) = some (.cells (itc ⟨0, 0, [], false, false, false, 0, 0, 0, 0, 0, 0, false, false, []⟩ sl0 sl0) true true) ∧ hh.get (h.size + 1 + 1) = some (.cells [.int .i64 0, .bool false] true true) ∧
  hh.get (h.size + 1 + 1 + 1) = some (.cells (itc (bareI f) sl0 sl0) true true) ∧ Ext h hh
theorem nn (n : Nat) : ¬ n = n + 1 ∧ ¬ n = n + 1 + 1 ∧ ¬ n = n + 1 + 1 + 1 ∧ ¬ n = n + 1 + 1 + 1 + 1 ∧ ¬ n = n + 1 + 1 + 1 + 1 + 1 ∧ ¬ n + 1 = n ∧ ¬ n + 1 = n + 1 + 1 ∧ ¬ n + 1 = n + 1 + 1 + 1 ∧ ¬ n + 1 = n + 1 + 1 + 1 + 1 ∧ ¬ n + 1 = n + 1 + 1 + 1 + 1 + 1 ∧ ¬ n + 1 + 1 = n ∧ ¬ n + 1 + 1 = n + 1 ∧ ¬ n + 1 + 1 = n + 1 + 1 + 1 ∧ ¬ n + 1 + 1 = n + 1 + 1 + 1 + 1 ∧ ¬ n + 1 + 1 = n + 1 + 1 + 1 + 1 + 1 ∧ ¬ n + 1 + 1 + 1 = n ∧ ¬ n + 1 + 1 + 1 = n + 1 ∧ ¬ n + 1 + 1 + 1 = n + 1 + 1 ∧ ¬ n + 1 + 1 + 1 = n + 1 + 1 + 1 + 1 ∧ ¬ n + 1 + 1 + 1 = n + 1 + 1 + 1 + 1 + 1 ∧ ¬ n + 1 + 1 + 1 + 1 = n ∧ ¬ n + 1 + 1 + 1 + 1 = n + 1 ∧ ¬ n + 1 + 1 + 1 + 1 = n + 1 + 1 ∧ ¬ n + 1 + 1 + 1 + 1 = n + 1 + 1 + 1 ∧ ¬ n + 1 + 1 + 1 + 1 = n + 1 + 1 + 1 + 1 + 1 ∧ ¬ n + 1 + 1 + 1 + 1 + 1 = n ∧ ¬ n + 1 + 1 + 1 + 1 + 1 = n + 1 ∧ ¬ n + 1 + 1 + 1 + 1 + 1 = n + 1 + 1 ∧ ¬ n + 1 + 1 + 1 + 1 + 1 = n + 1 + 1 + 1 ∧ ¬ n + 1 + 1 + 1 + 1 + 1 = n + 1 + 1 + 1 + 1 := by omega

theorem sParseI {h : LHeap} {f : Frm} {fv : Value} (hv : BytesAt h fv f.pl) (hf : f.fl < 4294967296) (hl : f.pl.length < 1000000) :
  LCalls EC 45 [frV f fv] h fun u h' => ∃ tv pv, u = .tuple #[itV (parseI f).1 tv pv, fltV (parseI f).2] ∧ BytesAt h' tv (parseI f).1.text ∧ (∀ b, blkOf tv = some b → h.size ≤ b) ∧ GL 2 pc h' pv (parseI f).1.pairs ∧ (∀ b, blkOf pv = some b → h.size ≤ b) ∧ Ext h h' := by
 refine LCalls.enter (lf := lf45) rfl rfl (by simp [lf45]) ?_
 have eL := fun hh => hv.len (q := EC.q) (h := hh)
 obtain ⟨q01, q02, q03, q04, q05, q10, q12, q13, q14, q15, q20, q21, q23, q24, q25, q30, q31, q32, q34, q35, q40, q41, q42, q43, q45, q50, q51, q52, q53, q54⟩ := nn h.size
 have ht : ((f.ty : Int) == 0) = decide (f.ty = 0) := by
  by_cases c : f.ty = 0
  ·rw [c]; rfl
  ·simp only [c, decide_false]; exact ne_lit (k := 0) c
 simp only [frV, go_sem, lf45, ↓reduceIte, eL, q01, q02, q03, q04, q05, q10, q12, q13, q14, q15, q20, q21, q23, q24, q25, q30, q31, q32, q34, q35, q40, q41, q42, q43, q45, q50, q51, q52, q53, q54, ht]
 refine MB.cut (ParseJ h f fv) ?_ ?_
 ·have X0 := fun (a b c d e : LObj) => ((((Ext.push h a).trans (Ext.push _ b)).trans (Ext.push _ c)).trans (Ext.push _ d)).set (b := h.size + 1 + 1 + 1) (by omega) e
  by_cases c0 : f.ty = 0
  ·simp only [c0, decide_true, go_sem, ↓reduceIte, eL, q01, q02, q03, q04, q05, q10, q12, q13, q14, q15, q20, q21, q23, q24, q25, q30, q31, q32, q34, q35, q40, q41, q42, q43, q45, q50, q51, q52, q53, q54]
   refine ⟨_, rfl, by simp, by simp [frc4, c0, q01, q02, q03, q04, q05, q10, q12, q13, q14, q15, q20, q21, q23, q24, q25, q30, q31, q32, q34, q35, q40, q41, q42, q43, q45, q50, q51, q52, q53, q54], by simp [itc, sl0, q01, q02, q03, q04, q05, q10, q12, q13, q14, q15, q20, q21, q23, q24, q25, q30, q31, q32, q34, q35, q40, q41, q42, q43, q45, q50, q51, q52, q53, q54], by simp [q01, q02, q03, q04, q05, q10, q12, q13, q14, q15, q20, q21, q23, q24, q25, q30, q31, q32, q34, q35, q40, q41, q42, q43, q45, q50, q51, q52, q53, q54], by simp [itc, sl0, bareI, c0], (X0 _ _ _ _ _).set (by omega) _⟩
  ·simp only [c0, decide_false, go_sem, ↓reduceIte, eL, q01, q02, q03, q04, q05, q10, q12, q13, q14, q15, q20, q21, q23, q24, q25, q30, q31, q32, q34, q35, q40, q41, q42, q43, q45, q50, q51, q52, q53, q54]
   refine ⟨_, rfl, by simp, by simp [frc4, q01, q02, q03, q04, q05, q10, q12, q13, q14, q15, q20, q21, q23, q24, q25, q30, q31, q32, q34, q35, q40, q41, q42, q43, q45, q50, q51, q52, q53, q54], by simp [itc, sl0, q01, q02, q03, q04, q05, q10, q12, q13, q14, q15, q20, q21, q23, q24, q25, q30, q31, q32, q34, q35, q40, q41, q42, q43, q45, q50, q51, q52, q53, q54], by simp [q01, q02, q03, q04, q05, q10, q12, q13, q14, q15, q20, q21, q23, q24, q25, q30, q31, q32, q34, q35, q40, q41, q42, q43, q45, q50, q51, q52, q53, q54], by simp [itc, sl0, bareI, c0], X0 _ _ _ _ _⟩
 ·rintro fr h1 ⟨tl, rfl, s1, gb1, gr1, ge1, gx1, X1⟩
  have gx1' := gx1
  simp only [itc, sl0] at gx1'
  simp only [go_sem, ↓reduceIte, gx1', s1, q01, q02, q03, q04, q05, q10, q12, q13, q14, q15, q20, q21, q23, q24, q25, q30, q31, q32, q34, q35, q40, q41, q42, q43, q45, q50, q51, q52, q53, q54]
  generalize hq : LHeap.push _ _ = h2
  have s2 : h2.size = h.size + 6 := by rw [← hq]; simp [s1]
  have X2 : Ext h1 h2 := by rw [← hq]; exact ((Ext.push _ _).set (by omega) _).trans (Ext.push _ _)
  have gb2 := (X2.get h.size (by omega)).trans gb1
  have gr2 := (X2.get (h.size + 1) (by omega)).trans gr1
  have ge2 := (X2.get (h.size + 1 + 1) (by omega)).trans ge1
  have gx2 := (X2.get (h.size + 1 + 1 + 1) (by omega)).trans gx1
  have gi2 : h2.get (h.size + 1 + 1 + 1 + 1) = some (.cells (itc (bareI f) sl0 sl0) true true) := by rw [← hq]; simp [s1, itc, sl0, q01, q02, q03, q04, q05, q10, q12, q13, q14, q15, q20, q21, q23, q24, q25, q30, q31, q32, q34, q35, q40, q41, q42, q43, q45, q50, q51, q52, q53, q54]
  have gs2 : h2.get (h.size + 1 + 1 + 1 + 1 + 1) = some (.cells [.func (.func 71) #[] #[.pointer (some ⟨h.size, 0, none⟩)], .func (.func 73) #[] #[.pointer (some ⟨h.size, 0, none⟩)], .func (.func 75) #[] #[.pointer (some ⟨h.size + 1 + 1 + 1 + 1, 0, none⟩), .pointer (some ⟨h.size, 0, none⟩)]] true true) := by rw [← hq]; simp [s1, q01, q02, q03, q04, q05, q10, q12, q13, q14, q15, q20, q21, q23, q24, q25, q30, q31, q32, q34, q35, q40, q41, q42, q43, q45, q50, q51, q52, q53, q54]
  clear hq
  have hv2 := hv.ext (X1.trans X2)
  refine MC.loop (fun m fr hh => ∃ i tl, m = 3 - i ∧ i ≤ 3 ∧ fr = (2, .pointer (some ⟨h.size + 1, 0, none⟩)) :: (3, .pointer (some ⟨h.size + 1 + 1, 0, none⟩)) :: (4, .pointer (some ⟨h.size + 1 + 1 + 1, 0, none⟩)) :: (5, .pointer (some ⟨h.size + 1 + 1 + 1 + 1, 0, none⟩)) :: (25, .slice (some ⟨h.size + 1 + 1 + 1 + 1 + 1, 0, none⟩) 3 1) :: (26, .int .i64 3) :: (27, .int .i64 (i : Nat)) :: tl ∧
   Kp (h.size + 6) (h.size + 1 + 1 + 1 + 1) h2 hh ∧ (1 ≤ i → placeF f = okF) ∧ (2 ≤ i → lengthF f = okF) ∧ (i < 3 → hh.get (h.size + 1 + 1 + 1 + 1) = some (.cells (itc (bareI f) sl0 sl0) true true)) ∧ (i = 3 → (readI (bareI f) f).2 = okF ∧ ItAt (h.size + 6) (h.size + 1 + 1 + 1 + 1) hh (readI (bareI f) f).1)) 3
   ⟨0, [], rfl, by omega, rfl, Kp.refl _ _ _, by omega, by omega, fun _ => gi2, by omega⟩ ?_
  rintro m fr hh J ⟨i, tl, rfl, hi3, rfl, K, hp1, hp2, hit, hi4⟩ hJ
  have gb := (K.get h.size (by omega) (by omega)).trans gb2
  have gs := (K.get (h.size + 1 + 1 + 1 + 1 + 1) (by omega) (by omega)).trans gs2
  have hsz : h.size + 6 ≤ hh.size := by have := K.size; omega
  have hvh : BytesAt hh fv f.pl := by
   rcases hv with h1 | ⟨b, o, cs, t, r, rfl, m1, m2, m3, m4⟩
   ·exact .inl h1
   ·exact .inr ⟨b, o, cs, t, r, rfl, by omega, by rw [K.get b (by omega) (by omega), X2.get b (by omega), X1.get b m1]; exact m2, m3, m4⟩
  have hvb : blkOf fv ≠ some (h.size + 1 + 1 + 1 + 1) := fun e => by have := hv.lt e; omega
  obtain rfl | rfl | rfl | rfl : i = 0 ∨ i = 1 ∨ i = 2 ∨ i = 3 := by omega
  ·-- look 1
   simp only [go_sem, ↓reduceIte, gs]
   refine MCall.by (sLook1 gb (by omega)) ?_
   rintro u h4 ⟨rfl, X4⟩
   have hn4 : ¬ h4.size = h.size + 1 := by have := X4.size; omega
   have hn4' : ¬ h4.size = h.size + 1 + 1 := by have := X4.size; omega
   have K4 := X4.kp (lo := h.size + 6) (ib := h.size + 1 + 1 + 1 + 1) hsz
   have s4 := K4.size
   simp only [fltV, go_sem, ↓reduceIte]
   generalize hz : placeF f = z at *
   generalize hq : LHeap.set _ h4.size _ = h5
   have X5 : Ext h4 h5 := by rw [← hq]; exact (Ext.push _ _).set (Nat.le_refl _) _
   have g5 : h5.get h4.size = some (.cells [.int .i64 (z.1 : Nat), .bool z.2] true true) := by rw [← hq]; simp
   have hs5 : h4.size < h5.size := by rw [← hq]; simp
   clear hq
   refine MCall.by (sOKF z) ?_
   rintro u h6 ⟨rfl, X6⟩
   have g6 := (X6.get h4.size hs5).trans g5
   have K46 : Kp (h.size + 6) (h.size + 1 + 1 + 1 + 1) h4 h6 := (X5.kp (by omega)).trans (X6.kp (by have := X5.size; omega))
   have K6 := (K.trans K4).trans K46
   have gx6 := (K6.get (h.size + 1 + 1 + 1) (by omega) (by omega)).trans gx2
   have gr6 := (K6.get (h.size + 1) (by omega) (by omega)).trans gr2
   have ge6 := (K6.get (h.size + 1 + 1) (by omega) (by omega)).trans ge2
   by_cases cz : z = okF
   ·simp only [cz, decide_true, go_sem, ↓reduceIte]
    exact hJ 2 _ _ (by omega) ⟨1, _, rfl, by omega, rfl, K6, fun _ => cz, by omega, fun _ => (X6.get _ (by omega)).trans ((X5.get _ (by omega)).trans ((X4.get _ (by omega)).trans (hit (by omega)))), by omega⟩
   ·simp only [itc, sl0] at gx6 gr6
    simp only [cz, decide_false, go_sem, ↓reduceIte]
    refine MC.dregion ?_
    simp only [go_sem, ↓reduceIte, g6, gx6, gr6, ge6, hn4, hn4', veqs, veq, Bool.and_self, beq_self_eq_true, q01, q02, q03, q04, q05, q10, q12, q13, q14, q15, q20, q21, q23, q24, q25, q30, q31, q32, q34, q35, q40, q41, q42, q43, q45, q50, q51, q52, q53, q54]
    have e : parseI f = (bareI f, z) := by
     unfold parseI
     rw [if_pos (by rw [hz]; exact cz), hz]
    rw [e]
    exact ⟨sl0, sl0, rfl, .inl ⟨rfl, 0, rfl⟩, fun b hb => (by cases hb), .inl ⟨rfl, rfl⟩, fun b hb => (by cases hb), ((K6.toExt (by omega) (by omega) (X1.trans X2)).set (by omega) _).set (by omega) _⟩
  ·-- look 2
   simp only [go_sem, ↓reduceIte, gs]
   refine MCall.by (sLook2 gb (by omega) hvh hf hl) ?_
   rintro u h4 ⟨rfl, X4⟩
   have hn4 : ¬ h4.size = h.size + 1 := by have := X4.size; omega
   have hn4' : ¬ h4.size = h.size + 1 + 1 := by have := X4.size; omega
   have K4 := X4.kp (lo := h.size + 6) (ib := h.size + 1 + 1 + 1 + 1) hsz
   have s4 := K4.size
   simp only [fltV, go_sem, ↓reduceIte]
   generalize hz : lengthF f = z at *
   generalize hq : LHeap.set _ h4.size _ = h5
   have X5 : Ext h4 h5 := by rw [← hq]; exact (Ext.push _ _).set (Nat.le_refl _) _
   have g5 : h5.get h4.size = some (.cells [.int .i64 (z.1 : Nat), .bool z.2] true true) := by rw [← hq]; simp
   have hs5 : h4.size < h5.size := by rw [← hq]; simp
   clear hq
   refine MCall.by (sOKF z) ?_
   rintro u h6 ⟨rfl, X6⟩
   have g6 := (X6.get h4.size hs5).trans g5
   have K46 : Kp (h.size + 6) (h.size + 1 + 1 + 1 + 1) h4 h6 := (X5.kp (by omega)).trans (X6.kp (by have := X5.size; omega))
   have K6 := (K.trans K4).trans K46
   have gx6 := (K6.get (h.size + 1 + 1 + 1) (by omega) (by omega)).trans gx2
   have gr6 := (K6.get (h.size + 1) (by omega) (by omega)).trans gr2
   have ge6 := (K6.get (h.size + 1 + 1) (by omega) (by omega)).trans ge2
   by_cases cz : z = okF
   ·simp only [cz, decide_true, go_sem, ↓reduceIte]
    exact hJ 1 _ _ (by omega) ⟨2, _, rfl, by omega, rfl, K6, fun _ => hp1 (by omega), fun _ => cz, fun _ => (X6.get _ (by omega)).trans ((X5.get _ (by omega)).trans ((X4.get _ (by omega)).trans (hit (by omega)))), by omega⟩
   ·simp only [itc, sl0] at gx6 gr6
    simp only [cz, decide_false, go_sem, ↓reduceIte]
    refine MC.dregion ?_
    simp only [go_sem, ↓reduceIte, g6, gx6, gr6, ge6, hn4, hn4', veqs, veq, Bool.and_self, beq_self_eq_true, q01, q02, q03, q04, q05, q10, q12, q13, q14, q15, q20, q21, q23, q24, q25, q30, q31, q32, q34, q35, q40, q41, q42, q43, q45, q50, q51, q52, q53, q54]
    have e : parseI f = (bareI f, z) := by
     unfold parseI
     rw [if_neg (by simp [hp1 (by omega)]), if_pos (by rw [hz]; exact cz), hz]
    rw [e]
    exact ⟨sl0, sl0, rfl, .inl ⟨rfl, 0, rfl⟩, fun b hb => (by cases hb), .inl ⟨rfl, rfl⟩, fun b hb => (by cases hb), ((K6.toExt (by omega) (by omega) (X1.trans X2)).set (by omega) _).set (by omega) _⟩
  ·-- look 3
   simp only [go_sem, ↓reduceIte, gs]
   refine MCall.by (sLook3 gb (by omega) (hit (by omega)) (by omega) rfl rfl hvh hf hl (hp2 (by omega)) hvb) ?_
   rintro u h4 ⟨rfl, It4, K4⟩
   have hn4 : ¬ h4.size = h.size + 1 := by have := K4.size; omega
   have hn4' : ¬ h4.size = h.size + 1 + 1 := by have := K4.size; omega
   have K4 := K4.low (lo := h.size + 6) hsz
   have s4 := K4.size
   simp only [fltV, go_sem, ↓reduceIte]
   generalize hz : (readI (bareI f) f).2 = z at *
   generalize hq : LHeap.set _ h4.size _ = h5
   have X5 : Ext h4 h5 := by rw [← hq]; exact (Ext.push _ _).set (Nat.le_refl _) _
   have g5 : h5.get h4.size = some (.cells [.int .i64 (z.1 : Nat), .bool z.2] true true) := by rw [← hq]; simp
   have hs5 : h4.size < h5.size := by rw [← hq]; simp
   clear hq
   refine MCall.by (sOKF z) ?_
   rintro u h6 ⟨rfl, X6⟩
   have g6 := (X6.get h4.size hs5).trans g5
   have K46 : Kp (h.size + 6) (h.size + 1 + 1 + 1 + 1) h4 h6 := (X5.kp (by omega)).trans (X6.kp (by have := X5.size; omega))
   have K6 := (K.trans K4).trans K46
   have gx6 := (K6.get (h.size + 1 + 1 + 1) (by omega) (by omega)).trans gx2
   have gr6 := (K6.get (h.size + 1) (by omega) (by omega)).trans gr2
   have ge6 := (K6.get (h.size + 1 + 1) (by omega) (by omega)).trans ge2
   by_cases cz : z = okF
   ·simp only [cz, decide_true, go_sem, ↓reduceIte]
    exact hJ 0 _ _ (by omega) ⟨3, _, rfl, by omega, rfl, K6, fun _ => hp1 (by omega), fun _ => hp2 (by omega), by omega, fun _ => ⟨cz, ((It4.ext (by omega) X5).ext (by omega) X6).lo (by omega)⟩⟩
   ·simp only [itc, sl0] at gx6 gr6
    simp only [cz, decide_false, go_sem, ↓reduceIte]
    refine MC.dregion ?_
    simp only [go_sem, ↓reduceIte, g6, gx6, gr6, ge6, hn4, hn4', veqs, veq, Bool.and_self, beq_self_eq_true, q01, q02, q03, q04, q05, q10, q12, q13, q14, q15, q20, q21, q23, q24, q25, q30, q31, q32, q34, q35, q40, q41, q42, q43, q45, q50, q51, q52, q53, q54]
    have e : parseI f = (bareI f, z) := by
     unfold parseI
     rw [if_neg (by simp [hp1 (by omega)]), if_neg (by simp [hp2 (by omega)])]; simp [hz, cz]
    rw [e]
    exact ⟨sl0, sl0, rfl, .inl ⟨rfl, 0, rfl⟩, fun b hb => (by cases hb), .inl ⟨rfl, rfl⟩, fun b hb => (by cases hb), ((K6.toExt (by omega) (by omega) (X1.trans X2)).set (by omega) _).set (by omega) _⟩
  ·obtain ⟨hr3, tv, pv, gi3, B3, lo3, G3, lo3'⟩ := hi4 rfl
   have gr3 := (K.get (h.size + 1) (by omega) (by omega)).trans gr2
   have ge3 := (K.get (h.size + 1 + 1) (by omega) (by omega)).trans ge2
   have e : parseI f = ((readI (bareI f) f).1, okF) := by
    unfold parseI
    rw [if_neg (by simp [hp1 (by omega)]), if_neg (by simp [hp2 (by omega)])]
    simp [hr3]
   obtain ⟨ta, tn, te, rfl⟩ := B3.shape
   obtain ⟨pa, pn, pe, rfl⟩ := G3.shape
   simp only [itc, sl0] at gr3 gi3
   simp only [go_sem, ↓reduceIte, gi3, gr3, ge3, q01, q02, q03, q04, q05, q10, q12, q13, q14, q15, q20, q21, q23, q24, q25, q30, q31, q32, q34, q35, q40, q41, q42, q43, q45, q50, q51, q52, q53, q54]
   rw [e]
   refine ⟨.slice ta tn te, .slice pa pn pe, rfl, ?_, fun b hb => by have := lo3 b hb; omega, ?_, fun b hb => by have := lo3' b hb; omega, ((K.toExt (by omega) (by omega) (X1.trans X2)).set (by omega) _).set (by omega) _⟩
   ·exact (B3.upd (fun e => by have := lo3 _ e; omega) (Upd.set _ _ _)).upd (fun e => by have := lo3 _ e; omega) (Upd.set _ _ _)
   ·exact (G3.upd (Upd.set _ _ _) (fun e => by have := lo3' _ e; omega)).upd (Upd.set _ _ _) (fun e => by have := lo3' _ e; omega)
end Go.E1
