/-
  Texts joined: GL, M08, SpM, SpN, SpO, SpP, SpQ, SpR, SpS.
-/
import Derived.Test.YtdbjklgnhbmlaaaKi
import Derived.Test.YtdbjklgnhbmlaaaKm
/-
  Lists that were gathered, of whatever cells.
-/
namespace Go.E1
open Go Go.Proofs Go.M
set_option linter.unusedSimpArgs false

/-- The block of a slice. -/
def blkOf : Value → Option Nat
  | .slice (some a) _ _ => some a.block
  | _ => none
@[simp] theorem blkOf_nil (n E : Nat) : blkOf (.slice none n E) = none := rfl
@[simp] theorem blkOf_some (a : Addr) (n E : Nat) : blkOf (.slice (some a) n E) = some a.block := rfl

/-- So many cells each, none of them of more than one. -/
structure Cel {α : Type} (k : Nat) (c : α → List Value) : Prop where
  len : ∀ x, (c x).length = k
  one : ∀ x, oneCells (c x) = true
  pos : 0 < k

theorem one_append {a b : List Value} (ha : oneCells a = true) (hb : oneCells b = true) : oneCells (a ++ b) = true := by
  unfold oneCells at *
  rw [List.all_append, ha, hb]; rfl
theorem Cel.flat_one {α : Type} {k : Nat} {c : α → List Value} (C : Cel k c) : ∀ l : List α, oneCells (l.flatMap c) = true
  | [] => rfl
  | x :: l => by
    rw [List.flatMap_cons]
    exact one_append (C.one x) (C.flat_one l)
theorem Cel.flat_len {α : Type} {k : Nat} {c : α → List Value} (C : Cel k c) : ∀ l : List α, (l.flatMap c).length = l.length * k
  | [] => by simp
  | x :: l => by
    rw [List.flatMap_cons, List.length_append, C.len, C.flat_len l, List.length_cons, Nat.add_mul]; omega
theorem Cel.get {α : Type} {k : Nat} {c : α → List Value} (C : Cel k c) {l : List α} {i : Nat} {x : α} (hi : l[i]? = some x) : ((l.flatMap c).drop (i * k)).take k = c x ∧ i * k + k ≤ (l.flatMap c).length := by
  have hlt : i < l.length := by
    rcases Nat.lt_or_ge i l.length with q | q
    · exact q
    · simp [List.getElem?_eq_none q] at hi
  have h1 : l = l.take i ++ x :: l.drop (i + 1) := by
    rw [List.getElem?_eq_getElem hlt] at hi
    rw [← Option.some.inj hi, List.getElem_cons_drop, List.take_append_drop]
  have h2 : (((l.take i ++ x :: l.drop (i + 1)).flatMap c).drop ((l.take i).length * k)).take k = c x := by
    rw [List.flatMap_append, ← C.flat_len, List.drop_left, List.flatMap_cons, ← C.len x, List.take_left]
  rw [← h1, List.length_take, Nat.min_eq_left (by omega)] at h2
  refine ⟨h2, ?_⟩
  rw [C.flat_len, ← Nat.succ_mul]
  exact Nat.mul_le_mul_right _ hlt
theorem Cel.cell {α : Type} {k : Nat} {c : α → List Value} (C : Cel k c) {l : List α} {i j : Nat} {x : α} (hi : l[i]? = some x) (hj : j < k) : (l.flatMap c)[i * k + j]? = (c x)[j]? := by
  obtain ⟨h1, h2⟩ := C.get hi
  rw [← h1, List.getElem?_take_of_lt hj, List.getElem?_drop]

/-- A list that was gathered: its cells. -/
def GL {α : Type} (k : Nat) (c : α → List Value) (h : LHeap) (v : Value) (l : List α) : Prop :=
  (l = [] ∧ v = .slice none 0 0) ∨ ∃ b, v = .slice (some ⟨b, 0, none⟩) l.length k ∧ b < h.size ∧ h.get b = some (.cells (l.flatMap c) true true)
theorem GL.nil {α : Type} {k : Nat} {c : α → List Value} {h : LHeap} : GL k c h (.slice none 0 0) ([] : List α) := .inl ⟨rfl, rfl⟩
theorem GL.blk {α : Type} {k : Nat} {c : α → List Value} {h : LHeap} {v : Value} {l : List α} (g : GL k c h v l) {x : Nat} (hx : blkOf v = some x) : x < h.size ∧ v = .slice (some ⟨x, 0, none⟩) l.length k ∧ h.get x = some (.cells (l.flatMap c) true true) := by
  rcases g with ⟨_, rfl⟩ | ⟨b, rfl, h2, h3⟩
  · cases hx
  · cases hx; exact ⟨h2, rfl, h3⟩
theorem GL.move {α : Type} {k : Nat} {c : α → List Value} {h h' : LHeap} {v : Value} {l : List α} (g : GL k c h v l) (hs : h.size ≤ h'.size) (hg : ∀ x, blkOf v = some x → h'.get x = h.get x) : GL k c h' v l := by
  rcases g with h1 | ⟨b, rfl, h2, h3⟩
  · exact .inl h1
  · exact .inr ⟨b, rfl, by omega, by rw [hg b rfl]; exact h3⟩
theorem GL.ext {α : Type} {k : Nat} {c : α → List Value} {h h' : LHeap} {v : Value} {l : List α} (g : GL k c h v l) (X : Ext h h') : GL k c h' v l :=
  g.move X.size fun x hx => X.get x (g.blk hx).1
theorem GL.len {α : Type} {k : Nat} {c : α → List Value} {q : EqF} {h hh : LHeap} {v : Value} {l : List α} (g : GL k c hh v l) : lexec q (.lenS v) h = some (.int .i64 l.length, h) := by
  rcases g with ⟨rfl, rfl⟩ | ⟨b, rfl, _⟩ <;> rfl
theorem GL.at {α : Type} {k : Nat} {c : α → List Value} {h : LHeap} {v : Value} {l : List α} (g : GL k c h v l) {i : Nat} {x : α} (hx : l[i]? = some x) : ∃ b, v = .slice (some ⟨b, 0, none⟩) l.length k ∧ b < h.size ∧ h.get b = some (.cells (l.flatMap c) true true) := by
  rcases g with ⟨rfl, _⟩ | h1
  · simp at hx
  · exact h1

theorem gl_append {α : Type} {k by' : Nat} {c : α → List Value} (C : Cel k c) {q : EqF} {hh : LHeap} {v : Value} {l : List α} (g : GL k c hh v l) (x : α) (hn : l.length < 1000000) (hb : by' ≤ 1000) :
    ∃ v' hh', lexec q (.append k by' v (.slice (some ⟨hh.size, 0, none⟩) 1 k)) (hh.push (.cells (c x) true true)) = some (v', hh') ∧ GL k c hh' v' (l ++ [x]) ∧ hh.size ≤ hh'.size ∧
      (∀ b, b < hh.size → blkOf v ≠ some b → hh'.get b = hh.get b) ∧ (∀ b, blkOf v' = some b → hh.size ≤ b) := by
  have hm : (l.length + 1) * by' ≤ 1000000 * 1000 := Nat.mul_le_mul (by omega) hb
  have hr : roomOk (l.length + 1) by' = true := by
    simp only [roomOk, Bool.and_eq_true, decide_eq_true_eq]
    omega
  have hf : (hh.push (.cells (c x) true true)).firstCells k (.slice (some ⟨hh.size, 0, none⟩) 1 k) = some (1, c x) := by
    rw [first_some (cs := c x) (t := true) (r := true) (by simp) (by rw [C.len]; omega) (by simp), List.drop_zero, Nat.one_mul]
    rw [← C.len x, List.take_length]
  rcases g with ⟨rfl, rfl⟩ | ⟨b, rfl, h3, h4⟩
  · refine ⟨_, _, x_append_none hf (by simp) (C.one x) (by simpa using hr), .inr ⟨hh.size + 1, by simp, by simp, by simp⟩, by simp; omega, ?_, ?_⟩
    · intro i hi _
      simp [show i ≠ hh.size + 1 by omega, show i ≠ hh.size by omega]
    · intro b he
      simp only [LHeap.size_push, blkOf_some, Option.some.injEq] at he
      omega
  · have hbn : b ≠ hh.size := by omega
    refine ⟨_, _, x_append_some (cs := l.flatMap c) (r := true) hf (by simp) (by simp [hbn, h4]) (by rw [C.flat_len]; omega) (C.one x) hr, .inr ⟨hh.size + 1, by simp, by simp, by simp⟩, by simp; omega, ?_, ?_⟩
    · intro i hi hno
      have : i ≠ b := fun h => hno (by rw [h]; rfl)
      simp [show i ≠ hh.size + 1 by omega, show i ≠ hh.size by omega, this]
    · intro b he
      simp only [LHeap.size_push, LHeap.size_set, blkOf_some, Option.some.injEq] at he
      omega

theorem x_substr_lo {q : EqF} {h : LHeap} {l : Bytes} {i : Nat} {k : IntKind} (hi : i ≤ l.length) : lexec q (.sliceStr (.string (toBA l)) (some (.int k (i : Nat))) none) h = some (.string (toBA (l.drop i)), h) := by
  have e : (toBA l).extract i (toBA l).size = toBA (l.drop i) := by
    apply ByteArray.ext
    rw [ByteArray.data_extract]
    have : (l.drop i).take (l.length - i) = l.drop i := List.take_of_length_le (by rw [List.length_drop]; omega)
    simp [toBA, ByteArray.size, this]
  rw [toBA_size] at e
  simp only [lexec, lo1]
  simp [hi, e, toBA_size]
end Go.E1

/-
  The code, written: what it reckons, in plain Lean.
-/
namespace Go.M
open Go.E1

def nbits : Nat → Nat → List Bool
  | 0, _ => []
  | k + 1, c => c.testBit k :: nbits k c
theorem nbits_len : ∀ (k c : Nat), (nbits k c).length = k
  | 0, _ => rfl
  | k + 1, c => by simp [nbits, nbits_len k c]
theorem letters_nbits : ∀ (k c : Nat), letters k c = lets (nbits k c)
  | 0, _ => rfl
  | k + 1, c => by
    simp only [letters, nbits, letters_nbits k c]
    cases c.testBit k <;> rfl
theorem val_base : ∀ (bs : List Bool) (a : Nat), val a bs = a * 2 ^ bs.length + val 0 bs
  | [], a => by simp [val]
  | b :: bs, a => by
    rw [val_cons, val_cons, val_base bs (2 * a + b.toNat), val_base bs (2 * 0 + b.toNat), List.length_cons, Nat.pow_succ, Nat.add_mul, Nat.add_mul, Nat.mul_zero, Nat.zero_mul, Nat.zero_add, Nat.mul_comm 2 a, Nat.mul_assoc, Nat.mul_comm 2, Nat.add_assoc]
theorem val_nbits (k c : Nat) : val 0 (nbits k c) = c % 2 ^ k := by
  have h1 := letters_val (nbits k c)
  rw [nbits_len, ← letters_nbits] at h1
  have h2 : val 0 (nbits k c) < 2 ^ k := by
    have := val_lt (nbits k c) 0
    rwa [nbits_len, Nat.zero_add, Nat.one_mul] at this
  exact letters_inj k _ _ h2 (Nat.mod_lt _ (Nat.two_pow_pos k)) (h1.trans (letters_mod k c (c % 2 ^ k) (by simp)))

theorem val_take8 {bs : List Bool} (k : Nat) (_hk : k ≤ bs.length) : val 0 bs / 2 ^ (bs.length - k) = val 0 (bs.take k) := by
  have h := val_shift (bs.drop k) (val 0 (bs.take k))
  rw [← val_append, List.take_append_drop, List.length_drop] at h
  exact h
theorem val_drop8 {bs : List Bool} (k : Nat) (_hk : k ≤ bs.length) : val 0 bs % 2 ^ (bs.length - k) = val 0 (bs.drop k) := by
  have h := val_mod (bs.drop k) (val 0 (bs.take k))
  rw [← val_append, List.take_append_drop, List.length_drop] at h
  exact h

/-- Eight bits each a byte. -/
def pack : List Bool → Bytes
  | a :: b :: c :: d :: e :: f :: g :: h :: r => UInt8.ofNat (val 0 [a, b, c, d, e, f, g, h]) :: pack r
  | _ => []
theorem pack_eight {bs r : List Bool} (h : bs.length = 8) : pack (bs ++ r) = UInt8.ofNat (val 0 bs) :: pack r := by
  match bs, h with
  | [_, _, _, _, _, _, _, _], _ => rfl
theorem pack_append : ∀ (n : Nat) (a b : List Bool), a.length = 8 * n → pack (a ++ b) = pack a ++ pack b
  | 0, a, b, h => by
    obtain rfl : a = [] := List.length_eq_zero_iff.1 (by omega)
    rfl
  | n + 1, a, b, h => by
    have h1 : a = a.take 8 ++ a.drop 8 := (List.take_append_drop 8 a).symm
    have h2 : (a.take 8).length = 8 := by rw [List.length_take]; omega
    rw [h1, List.append_assoc, pack_eight h2, pack_eight h2, pack_append n (a.drop 8) b (by rw [List.length_drop]; omega), List.cons_append]
theorem pack_len : ∀ (n : Nat) (a : List Bool), a.length = 8 * n → (pack a).length = n
  | 0, a, h => by
    obtain rfl : a = [] := List.length_eq_zero_iff.1 (by omega)
    rfl
  | n + 1, a, h => by
    have h1 : a = a.take 8 ++ a.drop 8 := (List.take_append_drop 8 a).symm
    have h2 : (a.take 8).length = 8 := by rw [List.length_take]; omega
    rw [h1, pack_eight h2, List.length_cons, pack_len n (a.drop 8) (by rw [List.length_drop]; omega)]

noncomputable def encBits (l : Bytes) : List Bool := l.flatMap fun c => nbits (lenOf c.toNat) (codeOf c.toNat)
def padBits (bs : List Bool) : List Bool := bs ++ List.replicate ((8 - bs.length % 8) % 8) true
noncomputable def huffEnc (l : Bytes) : Bytes := pack (padBits (encBits l))
theorem encBits_append (a b : Bytes) : encBits (a ++ b) = encBits a ++ encBits b := by simp [encBits]
theorem encBits_one (c : UInt8) : encBits [c] = nbits (lenOf c.toNat) (codeOf c.toNat) := by simp [encBits]
theorem encBits_len : ∀ l : Bytes, (encBits l).length ≤ 30 * l.length
  | [] => Nat.le_refl _
  | c :: l => by
    have h1 := encBits_append [c] l
    rw [List.singleton_append] at h1
    have h2 := encBits_len l
    have h3 := (sym_of (x := c.toNat) (by have := c.toNat_lt; omega)).2.2.2
    rw [h1, encBits_one, List.length_append, nbits_len, List.length_cons]; omega
theorem padBits_len (bs : List Bool) : (padBits bs).length = 8 * ((bs.length + 7) / 8) := by
  unfold padBits
  rw [List.length_append, List.length_replicate]; omega
theorem huffEnc_len (l : Bytes) : (huffEnc l).length = ((encBits l).length + 7) / 8 := pack_len _ _ (padBits_len _)
theorem val_ones : ∀ k : Nat, val 0 (List.replicate k true) = 2 ^ k - 1
  | 0 => rfl
  | k + 1 => by
    rw [List.replicate_succ, val_cons, val_base, val_ones k, List.length_replicate, Nat.pow_succ]
    have := Nat.two_pow_pos k
    simp
    omega

/-- The bits of bytes that were packed. -/
theorem bits8_val {bs : List Bool} (h : bs.length = 8) : bits8 (UInt8.ofNat (val 0 bs)) = bs := by
  match bs, h with
  | [a, b, c, d, e, f, g, i], _ => cases a <;> cases b <;> cases c <;> cases d <;> cases e <;> cases f <;> cases g <;> cases i <;> rfl
theorem bitsOf_pack : ∀ (n : Nat) (a : List Bool), a.length = 8 * n → bitsOf (pack a) = a
  | 0, a, h => by
    obtain rfl : a = [] := List.length_eq_zero_iff.1 (by omega)
    rfl
  | n + 1, a, h => by
    have h1 : a = a.take 8 ++ a.drop 8 := (List.take_append_drop 8 a).symm
    have h2 : (a.take 8).length = 8 := by rw [List.length_take]; omega
    conv => lhs; rw [h1, pack_eight h2, bitsOf_cons, bits8_val h2, bitsOf_pack n (a.drop 8) (by rw [List.length_drop]; omega)]
    exact h1.symm

theorem chk_ones : (List.range 8).all (fun k => (List.range 257).all fun x => decide (k < lenOf x) || decide (val 0 ((List.replicate k true).take (lenOf x)) ≠ codeOf x)) = true := by kernel_rfl
theorem ones_free {k x : Nat} (hk : k < 8) (hx : x < 257) : ¬ Beg x (List.replicate k true) := by
  rintro ⟨h1, h2⟩
  have := List.all_eq_true.1 (List.all_eq_true.1 chk_ones k (List.mem_range.2 hk)) x (List.mem_range.2 hx)
  rw [List.length_replicate] at h1
  simp only [Bool.or_eq_true, decide_eq_true_eq] at this
  rcases this with h | h
  · omega
  · exact h h2

/-- What is written is read. -/
theorem huffGo_enc (k : Nat) (hk : k < 8) : ∀ (l out : Bytes), huffGo (encBits l ++ List.replicate k true) 0 0 true out = .ok (out ++ l)
  | [], out => by
    have h : encBits [] = [] := rfl
    rw [h, List.nil_append, go_end (fun x hx => ones_free hk hx), if_neg (by simp; omega), List.append_nil]
  | c :: l, out => by
    have hc : c.toNat < 257 := by have := c.toNat_lt; omega
    have h1 := encBits_append [c] l
    rw [List.singleton_append, encBits_one] at h1
    have hs := sym_of hc
    have hb : Beg c.toNat (encBits (c :: l) ++ List.replicate k true) := by
      refine ⟨by rw [h1, List.length_append, List.length_append, nbits_len]; omega, ?_⟩
      rw [h1, List.append_assoc]
      have : (nbits (lenOf c.toNat) (codeOf c.toNat)).length = lenOf c.toNat := nbits_len _ _
      rw [List.take_append_of_le_length (by omega), List.take_of_length_le (by omega), val_nbits, Nat.mod_eq_of_lt hs.2.1]
    rw [go_beg hc hb, if_neg (by have := c.toNat_lt; omega), h1, List.append_assoc, List.drop_left' (nbits_len _ _), huffGo_enc k hk l]
    simp
theorem huffDec_enc (l : Bytes) : huffDec (huffEnc l) = .ok l := by
  unfold huffDec huffEnc
  rw [bitsOf_pack _ _ (padBits_len _), padBits, huffGo_enc _ (by omega)]
  simp
end Go.M

/-
  Layer 3: a number's bytes.
-/
namespace Go.M
open Go.E1
/-- The rest of a number. -/
def restGo : Nat → Nat → Bytes
  | 0, _ => []
  | k + 1, n => if n < 128 then [UInt8.ofNat n] else UInt8.ofNat (128 + n % 128) :: restGo k (n / 128)
def pfxEnc (n bits mark : Nat) : Bytes :=
  if n < 2 ^ bits - 1 then [UInt8.ofNat (mark * 2 ^ bits + n)] else UInt8.ofNat (mark * 2 ^ bits + (2 ^ bits - 1)) :: restGo 10 (n - (2 ^ bits - 1))

theorem restGo_step (k n : Nat) : restGo (k + 1) n = if n < 128 then [UInt8.ofNat n] else UInt8.ofNat (128 + n % 128) :: restGo k (n / 128) := rfl

theorem restGo_len : ∀ k n, (restGo k n).length ≤ k
  | 0, _ => Nat.le_refl _
  | k + 1, n => by
    rw [restGo_step]
    split
    · simp
    · have := restGo_len k (n / 128)
      simp only [List.length_cons]; omega
theorem pfxEnc_len (n bits mark : Nat) : (pfxEnc n bits mark).length ≤ 11 ∧ 1 ≤ (pfxEnc n bits mark).length := by
  unfold pfxEnc
  split
  · simp
  · have := restGo_len 10 (n - (2 ^ bits - 1))
    simp only [List.length_cons]; omega

theorem toNat_ofNat {n : Nat} (h : n < 256) : (UInt8.ofNat n).toNat = n := by simp; omega

/-- What is written is read. -/
theorem pfxGo_enc (m : Bytes) : ∀ (k i n r : Nat), i + k ≤ 5 → r < 2 ^ (7 * k) → n + r * 2 ^ (7 * i) ≤ 2147483647 → 1 ≤ k → pfxGo i n (restGo 10 r ++ m) = (n + r * 2 ^ (7 * i), i + (restGo 10 r).length + 1, 0) ∧ (restGo 10 r).length ≤ k := by
  have gen : ∀ (f k i n r : Nat), k ≤ f → i + k ≤ 5 → r < 2 ^ (7 * k) → n + r * 2 ^ (7 * i) ≤ 2147483647 → 1 ≤ k → pfxGo i n (restGo f r ++ m) = (n + r * 2 ^ (7 * i), i + (restGo f r).length + 1, 0) ∧ (restGo f r).length ≤ k := by
    intro f
    induction f with
    | zero => intro k i n r h1 h2 h3 h4 h5; omega
    | succ f ih =>
      intro k i n r hf hi hr hn hk
      rw [restGo_step]
      by_cases h : r < 128
      · rw [if_pos h]
        simp only [List.singleton_append, pfxGo, toNat_ofNat (show r < 256 by omega), List.length_singleton]
        rw [if_neg (by omega), Nat.mod_eq_of_lt h, if_neg (by omega), if_pos h]
        exact ⟨rfl, hk⟩
      · rw [if_neg h]
        have hb : 128 + r % 128 < 256 := by omega
        have hk2 : 2 ≤ k := by
          rcases Nat.lt_or_ge k 2 with q | q
          · obtain rfl : k = 1 := by omega
            simp at hr; omega
          · exact q
        have e1 : (128 + r % 128) % 128 = r % 128 := by omega
        have e2 : 2 ^ (7 * (i + 1)) = 2 ^ (7 * i) * 128 := by rw [Nat.mul_add, Nat.pow_add]
        have e3 : n + r % 128 * 2 ^ (7 * i) + r / 128 * 2 ^ (7 * (i + 1)) = n + r * 2 ^ (7 * i) := by
          rw [e2, Nat.mul_comm (2 ^ (7 * i)) 128, ← Nat.mul_assoc, Nat.add_assoc, ← Nat.add_mul]
          congr 2
          omega
        have e4 : r / 128 < 2 ^ (7 * (k - 1)) := by
          have : 2 ^ (7 * k) = 2 ^ (7 * (k - 1)) * 128 := by
            rw [show 7 * k = 7 * (k - 1) + 7 by omega, Nat.pow_add]
          omega
        have h1 := ih (k - 1) (i + 1) (n + r % 128 * 2 ^ (7 * i)) (r / 128) (by omega) (by omega) e4 (by rw [e3]; exact hn) (by omega)
        rw [e3] at h1
        simp only [List.cons_append, pfxGo, toNat_ofNat hb, e1, List.length_cons]
        rw [if_neg (by omega), if_neg (by
          have : n + r % 128 * 2 ^ (7 * i) ≤ n + r * 2 ^ (7 * i) := Nat.add_le_add_left (Nat.mul_le_mul_right _ (Nat.mod_le _ _)) _
          omega), if_neg (by omega), h1.1]
        refine ⟨?_, by have := h1.2; omega⟩
        rw [show i + 1 + (restGo f (r / 128)).length + 1 = i + ((restGo f (r / 128)).length + 1) + 1 by omega]
  intro k i n r h2 h3 h4 h5
  exact gen 10 k i n r (by omega) h2 h3 h4 h5

theorem pfx_enc {n bits mark : Nat} (hm : mark * 2 ^ bits + 2 ^ bits ≤ 256) (hn : n ≤ 2147483647) (m : Bytes) : pfx bits (pfxEnc n bits mark ++ m) = (n, (pfxEnc n bits mark).length, 0) := by
  have hp := Nat.two_pow_pos bits
  have hmod : ∀ x, x < 2 ^ bits → (mark * 2 ^ bits + x) % 2 ^ bits = x := fun x hx => by
    rw [Nat.add_comm, Nat.add_mul_mod_self_right, Nat.mod_eq_of_lt hx]
  unfold pfxEnc
  split
  · rename_i h
    simp only [List.singleton_append, pfx, List.length_singleton]
    rw [toNat_ofNat (by omega), hmod n (by omega), if_pos h]
  · rename_i h
    simp only [List.cons_append, pfx, List.length_cons]
    rw [toNat_ofNat (by omega), hmod (2 ^ bits - 1) (by omega), if_neg (by omega)]
    have := (pfxGo_enc m 5 0 (2 ^ bits - 1) (n - (2 ^ bits - 1)) (by omega) (Nat.lt_of_le_of_lt (Nat.sub_le _ _) (Nat.lt_of_le_of_lt hn (by decide))) (by omega) (by omega)).1
    rw [this]
    simp only [Nat.mul_zero, Nat.pow_zero, Nat.mul_one, Nat.zero_add]
    rw [show 2 ^ bits - 1 + (n - (2 ^ bits - 1)) = n by omega]
theorem pfxEnc_head {n bits mark : Nat} (hm : mark * 2 ^ bits + 2 ^ bits ≤ 256) : ∃ c r, pfxEnc n bits mark = c :: r ∧ mark * 2 ^ bits ≤ c.toNat ∧ c.toNat < mark * 2 ^ bits + 2 ^ bits := by
  have hp := Nat.two_pow_pos bits
  unfold pfxEnc
  split
  · rename_i h
    exact ⟨_, _, rfl, by rw [toNat_ofNat (by omega)]; omega, by rw [toNat_ofNat (by omega)]; omega⟩
  · exact ⟨_, _, rfl, by rw [toNat_ofNat (by omega)]; omega, by rw [toNat_ofNat (by omega)]; omega⟩
end Go.M

/-
  Layer 3: a number's bytes: the walk.
-/
namespace Go.E1
open Go Go.Proofs Go.M
set_option linter.unusedSimpArgs false

theorem chk_or128 : (List.range 128).all (fun n => decide (orI .i64 (n : Nat) 128 = ((128 + n : Nat) : Int))) = true := by kernel_rfl
theorem or_nat {k : IntKind} {a c : Nat} (ha : a < 2 ^ k.bits) (hc : c < 2 ^ k.bits) : orI k (a : Int) (c : Int) = k.wrap ((a ||| c : Nat) : Int) := by
  have e : ∀ x : Nat, BitVec.ofInt k.bits (x : Int) = BitVec.ofNat k.bits x := fun x => by simp
  unfold orI
  rw [e, e]
  congr 2
  simp only [BitVec.toNat_or, BitVec.toNat_ofNat]
  rw [Nat.mod_eq_of_lt ha, Nat.mod_eq_of_lt hc]
theorem or_add {m b c : Nat} (hc : c < 2 ^ b) : m * 2 ^ b ||| c = m * 2 ^ b + c := by
  rw [Nat.mul_comm m, Nat.two_pow_add_eq_or_of_lt hc]
theorem or_i64 {m b c : Nat} (hc : c < 2 ^ b) (h : m * 2 ^ b + c < 9223372036854775808) : orI .i64 ((m * 2 ^ b : Nat) : Int) (c : Int) = ((m * 2 ^ b + c : Nat) : Int) := by
  have e : IntKind.i64.bits = 64 := rfl
  rw [or_nat (by rw [e]; omega) (by rw [e]; omega), or_add hc, IntWalk.i64_in _ (by omega)]

theorem shl_i64 {m b : Nat} (hb : b ≤ 64) (h : m * 2 ^ b < 9223372036854775808) : shlI .i64 (m : Int) (b : Int) = ((m * 2 ^ b : Nat) : Int) := by
  have e : IntKind.i64.bits = 64 := rfl
  unfold shlI
  rw [e, Int.toNat_natCast, Nat.min_eq_left hb]
  have : (m : Int) * 2 ^ b = ((m * 2 ^ b : Nat) : Int) := by simp
  rw [this, IntWalk.i64_in _ (by omega)]
theorem shr_i64 {m b : Nat} (hb : b ≤ 64) : shrI .i64 (m : Int) (b : Int) = ((m / 2 ^ b : Nat) : Int) := by
  have e : IntKind.i64.bits = 64 := rfl
  unfold shrI
  rw [e, Int.toNat_natCast, Nat.min_eq_left hb]
  have : (2 : Int) ^ b = ((2 ^ b : Nat) : Int) := by simp
  rw [this, Int.fdiv_eq_ediv_of_nonneg _ (Int.natCast_nonneg _)]
  rfl

theorem bv_one1 (c : UInt8) : bv [c] = [.int .u8 c.toNat] := rfl
theorem OutAt.one {h : LHeap} (c : UInt8) {lo : Nat} (hlo : lo ≤ h.size) : OutAt (h.push (.cells [.int .u8 c.toNat] true true)) lo (.slice (some ⟨h.size, 0, none⟩) 1 1) [c] :=
  .inr ⟨h.size, rfl, hlo, by simp, by simp [bv]⟩

theorem sPfxEnc {h : LHeap} {n bits mark : Nat} (hn : n ≤ 2147483647) (hb1 : 1 ≤ bits) (hb : bits ≤ 7) (hm : mark ≤ 2 ^ (8 - bits) - 1) :
    LCalls EC 57 [.int .i64 (n : Int), .int .i64 (bits : Int), .int .i64 (mark : Int)] h fun u h' => ∃ v, u = .tuple #[v, .int .i64 0] ∧ OutAt h' h.size v (pfxEnc n bits mark) ∧ Ext h h' := by
  refine LCalls.enter (lf := lf57) rfl rfl (by simp [lf57]) ?_
  have q1 : (1 : Int) ≤ (bits : Int) := by omega
  have q2 : (bits : Int) ≤ 8 := by omega
  have q3 : ¬ (n : Int) < 0 := by omega
  have q4 : ¬ (2147483647 : Int) < (n : Int) := by omega
  have q5 : ¬ (mark : Int) < 0 := by omega
  have w8 : IntKind.i64.wrap (8 - (bits : Int)) = ((8 - bits : Nat) : Int) := by rw [IntWalk.i64_in _ (by omega)]; omega
  have q11 : (bits : Int) ≤ 8 := q2
  have q6 : (0 : Int) ≤ ((8 - bits : Nat) : Int) := by omega
  have q7 : ((8 - bits : Nat) : Int) ≤ 8 := by omega
  have hp8 : 2 ^ (8 - bits) * 2 ^ bits = 256 := by rw [← Nat.pow_add, show 8 - bits + bits = 8 by omega]
  have hpb := Nat.two_pow_pos bits
  have hp8p := Nat.two_pow_pos (8 - bits)
  have hmb : mark * 2 ^ bits + 2 ^ bits ≤ 256 := by
    rw [← hp8, ← Nat.succ_mul]
    exact Nat.mul_le_mul_right _ (by omega)
  have q8 : ¬ ((2 ^ (8 - bits) - 1 : Nat) : Int) < (mark : Int) := by omega
  have q9 : ¬ (bits : Int) < 0 := by omega
  have q10 : (0 : Int) ≤ (bits : Int) := by omega
  have s1 : shlI .i64 (mark : Int) (bits : Int) = ((mark * 2 ^ bits : Nat) : Int) := shl_i64 (by omega) (by omega)
  simp only [go_sem, lf57, ↓reduceIte, q1, q2, q3, q4, q5, w8, q6, q7, q8, q9, q10, s1]
  by_cases hs : n < 2 ^ bits - 1
  · have c1 : (n : Int) < ((2 ^ bits - 1 : Nat) : Int) := by omega
    have o1 : orI .i64 ((mark * 2 ^ bits : Nat) : Int) (n : Int) = ((mark * 2 ^ bits + n : Nat) : Int) := or_i64 (by omega) (by omega)
    have o2 : IntKind.u8.wrap ((mark * 2 ^ bits + n : Nat) : Int) = ((UInt8.ofNat (mark * 2 ^ bits + n)).toNat : Int) := u8_of (by omega)
    have e : pfxEnc n bits mark = [UInt8.ofNat (mark * 2 ^ bits + n)] := if_pos hs
    rw [e]
    generalize UInt8.ofNat (mark * 2 ^ bits + n) = c at *
    simp only [go_sem, ↓reduceIte, c1, o1, o2]
    exact ⟨_, rfl, OutAt.one c (Nat.le_refl _), Ext.push _ _⟩
  · have c1 : ¬ (n : Int) < ((2 ^ bits - 1 : Nat) : Int) := by omega
    have o1 : orI .i64 ((mark * 2 ^ bits : Nat) : Int) ((2 ^ bits - 1 : Nat) : Int) = ((mark * 2 ^ bits + (2 ^ bits - 1) : Nat) : Int) := or_i64 (by omega) (by omega)
    have o2 : IntKind.u8.wrap ((mark * 2 ^ bits + (2 ^ bits - 1) : Nat) : Int) = ((UInt8.ofNat (mark * 2 ^ bits + (2 ^ bits - 1))).toNat : Int) := u8_of (by omega)
    have e : pfxEnc n bits mark = UInt8.ofNat (mark * 2 ^ bits + (2 ^ bits - 1)) :: restGo 10 (n - (2 ^ bits - 1)) := if_neg hs
    have w1 : IntKind.i64.wrap ((n : Int) - ((2 ^ bits - 1 : Nat) : Int)) = ((n - (2 ^ bits - 1) : Nat) : Int) := by rw [IntWalk.i64_in _ (by omega)]; omega
    generalize hc0 : UInt8.ofNat (mark * 2 ^ bits + (2 ^ bits - 1)) = c at *
    generalize htg : pfxEnc n bits mark = tg at *
    simp only [go_sem, ↓reduceIte, c1, o1, o2, w1, q10, q2]
    refine MC.cutb (fun fr hh => ∃ v acc r tl, fr = (9, v) :: (10, .int .i64 ((r : Nat) : Int)) :: tl ∧ OutAt hh h.size v acc ∧ Low h.size h hh ∧ r < 128 ∧ acc ++ [UInt8.ofNat r] = tg ∧ acc.length < 1000) ?_ ?_
    · refine MC.loop (fun m fr hh => ∃ k v acc r, m = r ∧ fr = [(9, v), (10, .int .i64 ((r : Nat) : Int))] ∧ OutAt hh h.size v acc ∧ Low h.size h hh ∧ acc ++ restGo k r = tg ∧ r < 2 ^ (7 * k) ∧ acc.length + k < 1000 ∧ r ≤ 2147483647 ∧ 1 ≤ k) (n - (2 ^ bits - 1)) ⟨10, _, [c], _, rfl, rfl, OutAt.one c (Nat.le_refl _), ⟨by simp, fun i hi => by simp [show i ≠ h.size by omega]⟩, by rw [e]; rfl, Nat.lt_of_le_of_lt (Nat.sub_le _ _) (Nat.lt_of_le_of_lt hn (by decide)), by simp, by omega, by omega⟩ ?_
      rintro m fr hh J ⟨k, v, acc, r, rfl, rfl, O, X, hk, hr, hl, hr2, hk1⟩ hJ
      cases k with
      | zero => omega
      | succ k =>
        rw [restGo_step] at hk
        by_cases h128 : m < 128
        · have c2 : ¬ (128 : Int) ≤ (m : Int) := by omega
          rw [if_pos h128] at hk
          simp only [go_sem, ↓reduceIte, c2]
          exact ⟨v, acc, m, _, rfl, O, X, h128, hk, by omega⟩
        · have c2 : (128 : Int) ≤ (m : Int) := by omega
          rw [if_neg h128] at hk
          have hm2 : ((m : Int)).tmod 128 = ((m % 128 : Nat) : Int) := rfl
          have o3 : orI .i64 ((m % 128 : Nat) : Int) 128 = ((128 + m % 128 : Nat) : Int) := by
            have := all_range chk_or128 (i := m % 128) (by omega)
            exact of_decide_eq_true this
          have o4 : IntKind.u8.wrap ((128 + m % 128 : Nat) : Int) = ((UInt8.ofNat (128 + m % 128)).toNat : Int) := u8_of (by omega)
          have o5 : shrI .i64 (m : Int) 7 = ((m / 128 : Nat) : Int) := shr_i64 (b := 7) (by omega)
          obtain ⟨v', h', ha, O', X'⟩ := out_append (q := EC.q) O X.size (UInt8.ofNat (128 + m % 128)) (by omega)
          simp only [go_sem, ↓reduceIte, c2, hm2, o3, o4, ha, o5]
          have hk0 : 1 ≤ k := by
            rcases Nat.eq_zero_or_pos k with q | q
            · subst q; simp at hr; omega
            · exact q
          refine hJ (m / 128) _ _ (by omega) ⟨k, v', acc ++ [UInt8.ofNat (128 + m % 128)], m / 128, rfl, rfl, O', X.trans X', by simpa using hk, ?_, by simp; omega, by omega, hk0⟩
          have : 2 ^ (7 * (k + 1)) = 2 ^ (7 * k) * 128 := by rw [Nat.mul_add, Nat.pow_add]
          omega
    · rintro fr hh ⟨v, acc, r, tl, rfl, O, X, hr, hk, hl⟩
      have o4 : IntKind.u8.wrap ((r : Nat) : Int) = ((UInt8.ofNat r).toNat : Int) := u8_of (by omega)
      obtain ⟨v', h', ha, O', X'⟩ := out_append (q := EC.q) O X.size (UInt8.ofNat r) (by omega)
      simp only [go_sem, ↓reduceIte, o4, ha]
      exact ⟨v', rfl, hk ▸ O', (X.trans X').ext (Nat.le_refl _)⟩
end Go.E1

/-
  Layer 2: the text of bytes: the walk.
-/
namespace Go.E1
open Go Go.Proofs Go.M
set_option linter.unusedSimpArgs false

theorem tabCode : (List.range 257).all (fun n => isAt (4 + n) (.int .u32 (codeOf n)) && decide (codeOf n < 4294967296)) = true := by kernel_rfl
theorem codeAt1 {n : Nat} (hn : n < 257) : coder1[4 + n]? = some (.int .u32 (codeOf n)) := by
  have := all_range tabCode hn
  rw [Bool.and_eq_true] at this
  exact isAt_eq this.1

theorem u64_bits : IntKind.u64.bits = 64 := rfl
theorem u64_wrap (n : Nat) : IntKind.u64.wrap (n : Int) = ((n % 2 ^ 64 : Nat) : Int) := by
  simp [IntKind.wrap, IntKind.bits, IntKind.signed]
theorem shl_u64 {m b : Nat} (hb : b ≤ 64) : shlI .u64 (m : Int) (b : Int) = ((m * 2 ^ b % 2 ^ 64 : Nat) : Int) := by
  unfold shlI
  rw [u64_bits, Int.toNat_natCast, Nat.min_eq_left hb]
  have : (m : Int) * 2 ^ b = ((m * 2 ^ b : Nat) : Int) := by simp
  rw [this, u64_wrap]
theorem shr_u64 {m b : Nat} (hb : b ≤ 64) : shrI .u64 (m : Int) (b : Int) = ((m / 2 ^ b : Nat) : Int) := by
  unfold shrI
  rw [u64_bits, Int.toNat_natCast, Nat.min_eq_left hb]
  have : (2 : Int) ^ b = ((2 ^ b : Nat) : Int) := by simp
  rw [this, Int.fdiv_eq_ediv_of_nonneg _ (Int.natCast_nonneg _)]
  rfl
/-- A symbol's code behind what is had. -/
theorem have_next {H L c : Nat} (hL : L ≤ 64) (hc : c < 2 ^ L) : orI .u64 ((H * 2 ^ L % 2 ^ 64 : Nat) : Int) (c : Int) = ((H * 2 ^ L % 2 ^ 64 + c : Nat) : Int) ∧ H * 2 ^ L % 2 ^ 64 + c < 2 ^ 64 ∧ ∀ n, n + L ≤ 64 → (H * 2 ^ L % 2 ^ 64 + c) % 2 ^ (n + L) = H % 2 ^ n * 2 ^ L + c := by
  have e1 : H * 2 ^ L % 2 ^ 64 = H % 2 ^ (64 - L) * 2 ^ L := by
    rw [show (2 : Nat) ^ 64 = 2 ^ (64 - L) * 2 ^ L by rw [← Nat.pow_add, show 64 - L + L = 64 by omega], Nat.mul_mod_mul_right]
  have e2 : 2 ^ (64 - L) * 2 ^ L = 2 ^ 64 := by rw [← Nat.pow_add, show 64 - L + L = 64 by omega]
  have e3 : H % 2 ^ (64 - L) + 1 ≤ 2 ^ (64 - L) := Nat.mod_lt _ (Nat.two_pow_pos _)
  have e4 : (H % 2 ^ (64 - L) + 1) * 2 ^ L ≤ 2 ^ 64 := by rw [← e2]; exact Nat.mul_le_mul_right _ e3
  have e5 : H % 2 ^ (64 - L) * 2 ^ L + c < 2 ^ 64 := by rw [Nat.add_mul, Nat.one_mul] at e4; omega
  rw [e1]
  refine ⟨?_, e5, fun n hn => ?_⟩
  · rw [or_nat (by rw [u64_bits]; omega) (by rw [u64_bits]; omega), or_add hc, u64_wrap, Nat.mod_eq_of_lt e5]
  · have h1 : (H % 2 ^ (64 - L) * 2 ^ L + c) % 2 ^ (n + L) = (H % 2 ^ (64 - L)) % 2 ^ n * 2 ^ L + c := by
      have hp := Nat.two_pow_pos L
      have hn0 := Nat.two_pow_pos n
      have a1 : (H % 2 ^ (64 - L) * 2 ^ L + c) % 2 ^ L = c := by rw [Nat.mul_comm (H % _), Nat.mul_add_mod]; exact Nat.mod_eq_of_lt hc
      have a2 : (H % 2 ^ (64 - L) * 2 ^ L + c) / 2 ^ L = H % 2 ^ (64 - L) := by rw [Nat.mul_comm (H % _), Nat.mul_add_div hp, Nat.div_eq_of_lt hc, Nat.add_zero]
      rw [Nat.pow_add, Nat.mul_comm (2 ^ n), Nat.mod_mul, a1, a2, Nat.add_comm, Nat.mul_comm]
    rw [h1, Nat.mod_mod_of_dvd _ (Nat.pow_dvd_pow 2 (by omega))]

theorem pend_byte {H : Nat} {pend : List Bool} (hH : H % 2 ^ pend.length = val 0 pend) (h8 : 8 ≤ pend.length) : IntKind.u8.wrap ((H / 2 ^ (pend.length - 8) : Nat) : Int) = ((UInt8.ofNat (val 0 (pend.take 8))).toNat : Int) ∧ H % 2 ^ (pend.length - 8) = val 0 (pend.drop 8) := by
  have e1 : H / 2 ^ (pend.length - 8) % 2 ^ 8 = val 0 (pend.take 8) := by
    rw [← val_take8 8 h8, ← hH, show (2 : Nat) ^ pend.length = 2 ^ (pend.length - 8) * 2 ^ 8 by rw [← Nat.pow_add, show pend.length - 8 + 8 = pend.length by omega], Nat.mod_mul_right_div_self]
  have e2 : val 0 (pend.take 8) < 2 ^ 8 := by rw [← e1]; exact Nat.mod_lt _ (by decide)
  refine ⟨?_, ?_⟩
  · rw [IntKind.wrap_u8, toNat_ofNat e2, ← e1]; omega
  · rw [← val_drop8 8 h8, ← hH, Nat.mod_mod_of_dvd _ (Nat.pow_dvd_pow 2 (by omega))]

theorem chk_last : (List.range 8).all (fun n => decide (n = 0) || (decide (IntKind.u8.wrap (shlI .u8 1 ((8 - n : Nat) : Int) - 1) = ((2 ^ (8 - n) - 1 : Nat) : Int)) && (List.range (2 ^ n)).all fun x => decide (orI .u8 ((x * 2 ^ (8 - n) : Nat) : Int) ((2 ^ (8 - n) - 1 : Nat) : Int) = ((x * 2 ^ (8 - n) + (2 ^ (8 - n) - 1) : Nat) : Int)))) = true := by kernel_rfl
theorem last_byte {H n : Nat} (h1 : 1 ≤ n) (h8 : n < 8) : IntKind.u8.wrap ((H * 2 ^ (8 - n) % 2 ^ 64 : Nat) : Int) = ((H % 2 ^ n * 2 ^ (8 - n) : Nat) : Int) ∧ IntKind.u8.wrap (shlI .u8 1 ((8 - n : Nat) : Int) - 1) = ((2 ^ (8 - n) - 1 : Nat) : Int) ∧
    orI .u8 ((H % 2 ^ n * 2 ^ (8 - n) : Nat) : Int) ((2 ^ (8 - n) - 1 : Nat) : Int) = ((H % 2 ^ n * 2 ^ (8 - n) + (2 ^ (8 - n) - 1) : Nat) : Int) := by
  have h := List.all_eq_true.1 chk_last n (List.mem_range.2 h8)
  rw [Bool.or_eq_true, Bool.and_eq_true] at h
  rcases h with h | ⟨h, hx⟩
  · have := of_decide_eq_true h; omega
  · refine ⟨?_, of_decide_eq_true h, of_decide_eq_true (List.all_eq_true.1 hx (H % 2 ^ n) (List.mem_range.2 (Nat.mod_lt _ (Nat.two_pow_pos n))))⟩
    have e : H * 2 ^ (8 - n) % 2 ^ 64 % 256 = H % 2 ^ n * 2 ^ (8 - n) := by
      rw [show 256 = 2 ^ n * 2 ^ (8 - n) by rw [← Nat.pow_add, show n + (8 - n) = 8 by omega], ← Nat.mul_mod_mul_right, Nat.mod_mod_of_dvd]
      rw [← Nat.pow_add, show n + (8 - n) = 8 by omega]
      exact Nat.pow_dvd_pow 2 (by omega)
    rw [IntKind.wrap_u8, ← e]; omega

theorem bsl {h : LHeap} {v : Value} {l : Bytes} (hv : BytesAt h v l) : ∃ o n E, v = .slice o n E := by
  rcases hv with ⟨_, c, rfl⟩ | ⟨b, o, _, _, _, rfl, _⟩ <;> exact ⟨_, _, _, rfl⟩

set_option maxRecDepth 10000 in
theorem sCoderE {h : LHeap} {sb : Nat} {v : Value} {l : Bytes} (hs : h.size = sb + 1) (hg : h.get sb = some (.cells coder0 true true)) (hv : BytesAt h v l) (hvs : ∀ b o n E, v = .slice (some ⟨b, o, none⟩) n E → b < sb) (hl : l.length < 1000000) :
    LCalls EC 103 [.pointer (some ⟨sb, 0, none⟩), v] h fun u h' => OutAt h' (sb + 1) u (huffEnc l) ∧ Low sb h h' := by
  refine LCalls.enter (lf := lf103) rfl rfl (by simp [lf103]) ?_
  have hget := getP_mk hg
  have elen : ∀ {h}, lexec EC.q (.lenS v) h = some (.int .i64 l.length, h) := by
    intro h
    rcases hv with ⟨rfl, c, rfl⟩ | ⟨b, o, _, _, _, rfl, _⟩ <;> rfl
  simp only [go_sem, lf103, ↓reduceIte, hget, elen]
  have L0 : Low sb h (h.set sb (.cells coder1 true true)) := ⟨by simp, fun i hi => by simp [show i ≠ sb by omega]⟩
  refine MC.cutb (fun fr hh => ∃ ov H pend full q tl, fr = (0, .pointer (some ⟨sb, 0, none⟩)) :: (5, ov) :: (6, .int .u64 ((H : Nat) : Int)) :: (7, .int .i64 (pend.length : Int)) :: tl ∧ OutAt hh (sb + 1) ov (pack full) ∧ Low sb h hh ∧ sb < hh.size ∧ full.length = 8 * q ∧ encBits l = full ++ pend ∧ H % 2 ^ pend.length = val 0 pend ∧ pend.length < 8) ?_ ?_
  · refine MC.loop (fun m fr hh => ∃ i ov H pend full q, m = l.length - i ∧ i ≤ l.length ∧ fr = [(0, .pointer (some ⟨sb, 0, none⟩)), (5, ov), (6, .int .u64 ((H : Nat) : Int)), (7, .int .i64 (pend.length : Int)), (12, v), (13, .int .i64 (l.length : Int)), (14, .int .i64 (i : Int))] ∧
      OutAt hh (sb + 1) ov (pack full) ∧ Low (sb + 1) (h.set sb (.cells coder1 true true)) hh ∧ full.length = 8 * q ∧ encBits (l.take i) = full ++ pend ∧ H % 2 ^ pend.length = val 0 pend ∧ pend.length < 8) l.length
      ⟨0, _, 0, [], [], 0, rfl, Nat.zero_le _, rfl, .inl ⟨rfl, rfl⟩, Low.refl _ _, rfl, rfl, rfl, by decide⟩ ?_
    rintro m fr hh J ⟨i, ov, H, pend, full, q, rfl, hi, rfl, O, X, hq, henc, hH, hp8⟩ hJ
    have g1 : hh.get sb = some (.cells coder1 true true) := by rw [X.get sb (by omega)]; simp
    by_cases hlt : i < l.length
    · obtain ⟨b, o, cs, t, r, rfl, hb1, hb2, hb3, hb4⟩ : ∃ b o cs t r, v = .slice (some ⟨b, o, none⟩) l.length 1 ∧ b < h.size ∧ h.get b = some (.cells cs t r) ∧ o + l.length ≤ cs.length ∧ (cs.drop o).take l.length = bv l := by
        rcases hv with ⟨rfl, _⟩ | h1
        · simp at hlt
        · exact h1
      have hbs := hvs b o _ _ rfl
      obtain ⟨c, hc⟩ : ∃ c, l[i]? = some c := ⟨l[i], by simp [hlt]⟩
      have hcell := bytes_get hb4 hc
      have hgb : hh.get b = some (.cells cs t r) := by rw [X.get b (by omega)]; simp [show b ≠ sb by omega, hb2]
      have c0 : (0 : Int) ≤ (i : Int) := by omega
      have c1 : (i : Int) < (l.length : Int) := by omega
      have hcu := c.toNat_lt
      have w1 : IntKind.i64.wrap (c.toNat : Int) = (c.toNat : Int) := by rw [IntWalk.i64_in _ (by omega)]
      have d0 : (0 : Int) ≤ (c.toNat : Int) := by omega
      have d1 : (c.toNat : Int) < 257 := by omega
      have hsy := sym_of (x := c.toNat) (by omega)
      have d2 : ¬ ((lenOf c.toNat : Nat) : Int) < 0 := by omega
      have hcd := codeAt1 (n := c.toNat) (by omega)
      have hcode : codeOf c.toNat < 4294967296 := Nat.lt_of_lt_of_le hsy.2.1 (Nat.le_trans (Nat.pow_le_pow_right (by omega) hsy.2.2.2) (by decide))
      have w2 : IntKind.u64.wrap ((codeOf c.toNat : Nat) : Int) = ((codeOf c.toNat : Nat) : Int) := by rw [IntWalk.u64_in _ (by omega)]
      have s1 := shl_u64 (m := H) (b := lenOf c.toNat) (by omega)
      obtain ⟨o1, o2, o3⟩ := have_next (H := H) (L := lenOf c.toNat) (c := codeOf c.toNat) (by omega) hsy.2.1
      have w3 : IntKind.i64.wrap ((pend.length : Int) + ((lenOf c.toNat : Nat) : Int)) = ((pend.length + lenOf c.toNat : Nat) : Int) := by rw [IntWalk.i64_in _ (by omega)]; omega
      have w4 : IntKind.i64.wrap ((i : Int) + 1) = ((i + 1 : Nat) : Int) := by rw [IntWalk.i64_in _ (by omega)]; omega
      have htk : encBits (l.take (i + 1)) = full ++ (pend ++ nbits (lenOf c.toNat) (codeOf c.toNat)) := by
        rw [List.take_add_one, hc, encBits_append, henc, List.append_assoc]
        simp [encBits_one]
      have hval : (H * 2 ^ lenOf c.toNat % 2 ^ 64 + codeOf c.toNat) % 2 ^ (pend ++ nbits (lenOf c.toNat) (codeOf c.toNat)).length = val 0 (pend ++ nbits (lenOf c.toNat) (codeOf c.toNat)) := by
        rw [List.length_append, nbits_len, o3 _ (by omega), hH, val_append, val_base (nbits _ _), nbits_len, val_nbits, Nat.mod_eq_of_lt hsy.2.1]
      have hpl : (pend ++ nbits (lenOf c.toNat) (codeOf c.toNat)).length = pend.length + lenOf c.toNat := by rw [List.length_append, nbits_len]
      simp only [go_sem, ↓reduceIte, c0, c1, hgb, hcell]
      refine MC.dregion ?_
      simp only [go_sem, ↓reduceIte, c0, c1, hgb, hcell, w1, d0, d1, d2, g1, hcd, w2, s1, o1, w3]
      generalize pend ++ nbits (lenOf c.toNat) (codeOf c.toNat) = pend' at *
      generalize H * 2 ^ lenOf c.toNat % 2 ^ 64 + codeOf c.toNat = H' at *
      rw [← hpl]
      refine MC.cutbb (fun fr hh => ∃ ov H pend full q tl, fr = (0, .pointer (some ⟨sb, 0, none⟩)) :: (5, ov) :: (6, .int .u64 ((H : Nat) : Int)) :: (7, .int .i64 (pend.length : Int)) :: (12, .slice (some ⟨b, o, none⟩) l.length 1) :: (13, .int .i64 (l.length : Int)) :: (14, .int .i64 (i : Int)) :: tl ∧
        OutAt hh (sb + 1) ov (pack full) ∧ Low (sb + 1) (h.set sb (.cells coder1 true true)) hh ∧ full.length = 8 * q ∧ encBits (l.take (i + 1)) = full ++ pend ∧ H % 2 ^ pend.length = val 0 pend ∧ pend.length < 8) ?_ ?_
      · refine MC.loop (fun m fr hh => ∃ ov pend full q, m = pend.length ∧ fr = [(0, .pointer (some ⟨sb, 0, none⟩)), (5, ov), (6, .int .u64 ((H' : Nat) : Int)), (7, .int .i64 (pend.length : Int)), (12, .slice (some ⟨b, o, none⟩) l.length 1), (13, .int .i64 (l.length : Int)), (14, .int .i64 (i : Int))] ∧
          OutAt hh (sb + 1) ov (pack full) ∧ Low (sb + 1) (h.set sb (.cells coder1 true true)) hh ∧ full.length = 8 * q ∧ encBits (l.take (i + 1)) = full ++ pend ∧ H' % 2 ^ pend.length = val 0 pend ∧ pend.length ≤ 40) pend'.length ⟨ov, pend', full, q, rfl, rfl, O, X, hq, htk, hval, by omega⟩ ?_
        clear O X hq htk hval hpl henc hH hp8 g1 hgb
        rintro m fr hh J2 ⟨ov, pend, full, q, rfl, rfl, O, X, hq, htk, hval, hpl⟩ hJ2
        by_cases h8 : 8 ≤ pend.length
        · have c2 : (8 : Int) ≤ (pend.length : Int) := by omega
          have w5 : IntKind.i64.wrap ((pend.length : Int) - 8) = ((pend.length - 8 : Nat) : Int) := by rw [IntWalk.i64_in _ (by omega)]; omega
          have c3 : ¬ ((pend.length - 8 : Nat) : Int) < 0 := by omega
          have s2 := shr_u64 (m := H') (b := pend.length - 8) (by omega)
          obtain ⟨p1, p2⟩ := pend_byte hval h8
          have hlen := encBits_len (l.take (i + 1))
          rw [htk, List.length_append, List.length_take] at hlen
          have hpk := pack_len q full hq
          obtain ⟨v', h', ha, O', X'⟩ := out_append (q := EC.q) O (by have := X.size; simp at this; omega) (UInt8.ofNat (val 0 (pend.take 8))) (by omega)
          have htl : (pend.take 8).length = 8 := by rw [List.length_take]; omega
          simp only [go_sem, ↓reduceIte, c2, w5, c3, s2, p1, ha]
          have hdl : pend.length - 8 = (pend.drop 8).length := by rw [List.length_drop]
          rw [hdl] at p2 ⊢
          refine hJ2 _ _ _ (by rw [List.length_drop]; omega) ⟨v', pend.drop 8, full ++ pend.take 8, q + 1, rfl, rfl, ?_, X.trans X', by rw [List.length_append, htl]; omega, by rw [htk, List.append_assoc, List.take_append_drop], p2, by rw [List.length_drop]; omega⟩
          rw [pack_append q _ _ hq, show pend.take 8 = pend.take 8 ++ [] by simp, pack_eight htl]
          exact O'
        · have c2 : ¬ (8 : Int) ≤ (pend.length : Int) := by omega
          simp only [go_sem, ↓reduceIte, c2]
          exact ⟨ov, H', pend, full, q, _, rfl, O, X, hq, htk, hval, by omega⟩
      · rintro fr hh ⟨ov, H, pend, full, q, tl, rfl, O, X, hq, htk, hval, hp⟩
        simp only [go_sem, ↓reduceIte, w4]
        exact hJ (l.length - (i + 1)) _ _ (by omega) ⟨i + 1, ov, H, pend, full, q, rfl, by omega, rfl, O, X, hq, htk, hval, hp⟩
    · have c1 : ¬ (i : Int) < (l.length : Int) := by omega
      simp only [go_sem, ↓reduceIte, c1]
      rw [List.take_of_length_le (by omega)] at henc
      exact ⟨ov, H, pend, full, q, _, rfl, O, L0.trans ⟨X.size, fun j hj => X.get j (by omega)⟩, by have := X.size; simp at this; omega, hq, henc, hH, hp8⟩
  · rintro fr hh ⟨ov, H, pend, full, q, tl, rfl, O, X, hsb, hq, henc, hH, hp⟩
    have hlen := encBits_len l
    rw [henc, List.length_append] at hlen
    have hpk := pack_len q full hq
    by_cases h0 : pend.length = 0
    · obtain rfl : pend = [] := List.length_eq_zero_iff.1 h0
      have e : huffEnc l = pack full := by
        unfold huffEnc padBits
        rw [henc, List.append_nil, show (8 - full.length % 8) % 8 = 0 by omega, List.replicate_zero, List.append_nil]
      simp only [go_sem, ↓reduceIte, List.length_nil]
      rw [e]
      exact ⟨O, X⟩
    · have c1 : (0 : Int) < (pend.length : Int) := by omega
      have e : huffEnc l = pack full ++ [UInt8.ofNat (val 0 (pend ++ List.replicate (8 - pend.length) true))] := by
        unfold huffEnc padBits
        have h8 : (pend ++ List.replicate (8 - pend.length) true).length = 8 := by rw [List.length_append, List.length_replicate]; omega
        rw [henc, List.length_append, show (8 - (full.length + pend.length) % 8) % 8 = 8 - pend.length by omega, List.append_assoc, pack_append q _ _ hq]
        conv => lhs; rw [show pend ++ List.replicate (8 - pend.length) true = (pend ++ List.replicate (8 - pend.length) true) ++ [] by simp, pack_eight h8]
        rfl
      have w5 : IntKind.i64.wrap (8 - (pend.length : Int)) = ((8 - pend.length : Nat) : Int) := by rw [IntWalk.i64_in _ (by omega)]; omega
      have c3 : ¬ ((8 - pend.length : Nat) : Int) < 0 := by omega
      have s1 := shl_u64 (m := H) (b := 8 - pend.length) (by omega)
      have hv := val_append 0 pend (List.replicate (8 - pend.length) true)
      rw [val_base (List.replicate _ _), List.length_replicate, val_ones] at hv
      have hvl : val 0 pend < 2 ^ pend.length := by have := val_lt pend 0; omega
      obtain ⟨b1, b2, b3⟩ := last_byte (H := H) (n := pend.length) (by omega) (by omega)
      rw [hH] at b1 b3
      rw [← hv, show ((val 0 (pend ++ List.replicate (8 - pend.length) true) : Nat) : Int) = ((UInt8.ofNat (val 0 (pend ++ List.replicate (8 - pend.length) true))).toNat : Int) by
        rw [toNat_ofNat]
        have := val_lt (pend ++ List.replicate (8 - pend.length) true) 0
        rw [List.length_append, List.length_replicate, show pend.length + (8 - pend.length) = 8 by omega] at this
        omega] at b3
      obtain ⟨v', h', ha, O', X'⟩ := out_append (q := EC.q) O (Nat.succ_le_of_lt hsb) (UInt8.ofNat (val 0 (pend ++ List.replicate (8 - pend.length) true))) (by omega)
      simp only [go_sem, ↓reduceIte, c1]
      refine MC.dregion ?_
      simp only [go_sem, ↓reduceIte, w5, c3, s1, b1, b2, b3, ha]
      rw [e]
      exact ⟨O', X.trans ⟨X'.size, fun j hj => X'.get j (by omega)⟩⟩
end Go.E1

/-
  Layer 4: a text's bytes: the walks.
-/
namespace Go.M
open Go.E1
noncomputable def litEnc (coded : Bool) (s : Bytes) : Bytes :=
  if coded = true then pfxEnc (huffEnc s).length 7 1 ++ huffEnc s else pfxEnc s.length 7 0 ++ s
noncomputable def litShort (s : Bytes) : Bytes := if (litEnc true s).length < (litEnc false s).length then litEnc true s else litEnc false s

theorem huffEnc_le (s : Bytes) : (huffEnc s).length ≤ 4 * s.length := by
  rw [huffEnc_len]
  have := encBits_len s
  omega
theorem litEnc_len (coded : Bool) (s : Bytes) : (litEnc coded s).length ≤ 4 * s.length + 11 := by
  unfold litEnc
  split
  · have := (pfxEnc_len (huffEnc s).length 7 1).1
    have := huffEnc_le s
    rw [List.length_append]; omega
  · have := (pfxEnc_len s.length 7 0).1
    rw [List.length_append]; omega
theorem litShort_is (s : Bytes) : ∃ coded, litShort s = litEnc coded s := by
  unfold litShort
  split
  · exact ⟨true, rfl⟩
  · exact ⟨false, rfl⟩

/-- What is written is read. -/
theorem litDec_enc (coded : Bool) (s m : Bytes) {limit : Nat} (hs : s.length ≤ limit) (hl : s.length ≤ 1000000) : litDec limit (litEnc coded s ++ m) = (s, (litEnc coded s).length, 0) := by
  have hh := huffEnc_le s
  cases coded with
  | true =>
    have e : litEnc true s = pfxEnc (huffEnc s).length 7 1 ++ huffEnc s := rfl
    have hp := pfx_enc (n := (huffEnc s).length) (bits := 7) (mark := 1) (by decide) (by omega) (huffEnc s ++ m)
    rw [← List.append_assoc, ← e] at hp
    obtain ⟨c, r, hc, h1, _⟩ := pfxEnc_head (n := (huffEnc s).length) (bits := 7) (mark := 1) (by decide)
    have hhd : (litEnc true s ++ m).headD 0 = c := by rw [e, hc]; rfl
    have hlen : (litEnc true s ++ m).length = (pfxEnc (huffEnc s).length 7 1).length + (huffEnc s).length + m.length := by rw [List.length_append, e, List.length_append]
    have hdr : ((litEnc true s ++ m).drop (pfxEnc (huffEnc s).length 7 1).length).take (huffEnc s).length = huffEnc s := by
      rw [e, List.append_assoc, List.drop_left, List.take_left]
    unfold litDec
    rw [hp, hhd]
    simp only
    rw [if_neg (by simp), if_neg (by omega), hdr, if_pos (by omega), huffDec_enc]
    simp only
    rw [if_neg (by omega), e, List.length_append]
  | false =>
    have e : litEnc false s = pfxEnc s.length 7 0 ++ s := rfl
    have hp := pfx_enc (n := s.length) (bits := 7) (mark := 0) (by decide) (by omega) (s ++ m)
    rw [← List.append_assoc, ← e] at hp
    obtain ⟨c, r, hc, _, h1⟩ := pfxEnc_head (n := s.length) (bits := 7) (mark := 0) (by decide)
    have hhd : (litEnc false s ++ m).headD 0 = c := by rw [e, hc]; rfl
    have hlen : (litEnc false s ++ m).length = (pfxEnc s.length 7 0).length + s.length + m.length := by rw [List.length_append, e, List.length_append]
    have hdr : ((litEnc false s ++ m).drop (pfxEnc s.length 7 0).length).take s.length = s := by
      rw [e, List.append_assoc, List.drop_left, List.take_left]
    unfold litDec
    rw [hp, hhd]
    simp only
    rw [if_neg (by simp), if_neg (by omega), hdr, if_neg (by omega)]
    simp only
    rw [if_neg (by omega), e, List.length_append]
end Go.M
namespace Go.E1
open Go Go.Proofs Go.M
set_option linter.unusedSimpArgs false

theorem sHuffE {h : LHeap} {v : Value} {l : Bytes} (hv : BytesAt h v l) (hl : l.length < 1000000) :
    LCalls EC 94 [v] h fun u h' => OutAt h' h.size u (huffEnc l) ∧ Ext h h' := by
  refine LCalls.enter (lf := lf94) rfl rfl (by simp [lf94]) ?_
  simp only [go_sem, lf94, ↓reduceIte]
  refine MCall.by (sNew h) ?_
  rintro u h1 ⟨rfl, rfl⟩
  simp only [go_sem, ↓reduceIte]
  refine MCall.by (sCoderE (sb := h.size) (by simp) (by simp) (hv.ext (Ext.push _ _)) ?_ hl) ?_
  · intro b o n E he
    rcases hv with ⟨_, c, rfl⟩ | ⟨b', o', cs, t, r, rfl, hb, _⟩
    · cases he
    · cases he; exact hb
  rintro u h2 ⟨O, X⟩
  simp only [go_sem, ↓reduceIte]
  exact ⟨O.low (Nat.le_succ _), ⟨by have := X.size; simp at this; omega, fun b hb => by rw [X.get b hb]; simp [show b ≠ h.size by omega]⟩⟩

theorem bv_ones (l : Bytes) : oneCells (bv l) = true := by
  simp only [oneCells, bv, List.all_map]
  exact List.all_eq_true.2 fun x _ => rfl
theorem bv_append (a b : Bytes) : bv (a ++ b) = bv a ++ bv b := by simp [bv]
theorem BytesAt.first {h : LHeap} {v : Value} {l : Bytes} (a : BytesAt h v l) : h.firstCells 1 v = some (l.length, bv l) := by
  rcases a with ⟨rfl, c, rfl⟩ | ⟨b, o, cs, t, r, rfl, h0, h1, h2, h3⟩
  · rfl
  · by_cases h0 : l.length = 0
    · obtain rfl : l = [] := List.length_eq_zero_iff.1 h0
      simp [LHeap.firstCells, bv]
    · rw [first_some h1 (by omega) h0, Nat.mul_one, h3]
theorem BytesAt.len {q : EqF} {h hh : LHeap} {v : Value} {l : Bytes} (a : BytesAt hh v l) : lexec q (.lenS v) h = some (.int .i64 l.length, h) := by
  rcases a with ⟨rfl, c, rfl⟩ | ⟨b, o, cs, t, r, rfl, _⟩ <;> rfl
/-- Bytes behind bytes. -/
theorem out_cat {q : EqF} {hh : LHeap} {lo : Nat} {v w : Value} {out l : Bytes} (h : OutAt hh lo v out) (hlo : lo ≤ hh.size) (hw : hh.firstCells 1 w = some (l.length, bv l)) (hn : out.length + l.length ≤ 1000000000) :
    ∃ v' hh', lexec q (.append 1 1 v w) hh = some (v', hh') ∧ OutAt hh' lo v' (out ++ l) ∧ Low lo hh hh' ∧ (∀ b, b < hh.size → blkOf v ≠ some b → hh'.get b = hh.get b) ∧ (∀ b, blkOf v' = some b → blkOf v = some b ∨ hh.size ≤ b) := by
  by_cases h0 : l.length = 0
  · obtain rfl : l = [] := List.length_eq_zero_iff.1 h0
    refine ⟨v, hh, ?_, by simpa using h, Low.refl _ _, fun b _ _ => rfl, fun b hb => .inl hb⟩
    rcases h with ⟨rfl, rfl⟩ | ⟨b, rfl, h1, h2, h3⟩
    · exact x_append_zero (c := 0) hw
    · have e1 : oneCells (bv []) = true := rfl
      have e2 : roomOk (out.length + 0) 1 = true := by simp only [roomOk, Bool.and_eq_true, decide_eq_true_eq]; omega
      simp only [List.length_nil] at hw
      simp [lexec, hw, e1, e2, h3, bv_len]
      simpa using e2
  · have hr : ∀ k, k ≤ 1000000000 → roomOk k 1 = true := fun k hk => by simp only [roomOk, Bool.and_eq_true, decide_eq_true_eq]; omega
    rcases h with ⟨rfl, rfl⟩ | ⟨b, rfl, h1, h2, h3⟩
    · refine ⟨_, _, x_append_none hw h0 (bv_ones l) (hr _ (by omega)), .inr ⟨hh.size, rfl, hlo, by simp, by simp⟩, ⟨by simp, fun i hi => by simp [show i ≠ hh.size by omega]⟩, fun b hb _ => by simp [show b ≠ hh.size by omega], fun b hb => .inr (by simp only [blkOf_some, Option.some.injEq] at hb; omega)⟩
    · refine ⟨_, _, x_append_some hw h0 h3 (by rw [bv_len]; omega) (bv_ones l) (hr _ hn), .inr ⟨hh.size, by rw [List.length_append], hlo, by simp, by simp [bv_append]⟩, ⟨by simp, fun i hi => by simp [show i ≠ hh.size by omega, show i ≠ b by omega]⟩, fun i hi hne => by simp [show i ≠ hh.size by omega, show i ≠ b from fun h => hne (by rw [h]; rfl)], fun b hb => .inr (by simp only [blkOf_some, Option.some.injEq] at hb; omega)⟩

theorem Ext.low {h h2 h' : LHeap} {lo : Nat} (X : Ext h h2) (L : Low lo h2 h') (hl : h.size ≤ lo) : Ext h h' :=
  ⟨Nat.le_trans X.size L.size, fun b hb => (L.get b (Nat.lt_of_lt_of_le hb hl)).trans (X.get b hb)⟩
theorem litEnc_true (s : Bytes) : litEnc true s = pfxEnc (huffEnc s).length 7 1 ++ huffEnc s := rfl
theorem litEnc_false (s : Bytes) : litEnc false s = pfxEnc s.length 7 0 ++ s := rfl

theorem sLitEnc {h : LHeap} {v : Value} {s : Bytes} (hv : BytesAt h v s) (hs : s.length ≤ 4096) (coded : Bool) :
    LCalls EC 83 [v, .bool coded] h fun u h' => ∃ w, u = .tuple #[w, .int .i64 0] ∧ OutAt h' h.size w (litEnc coded s) ∧ Ext h h' := by
  refine LCalls.enter (lf := lf83) rfl rfl (by simp [lf83]) ?_
  have c1 : ¬ (4096 : Int) < (s.length : Int) := by omega
  have el := fun h => hv.len (q := EC.q) (h := h)
  have hh := huffEnc_le s
  cases coded with
  | true =>
    simp only [go_sem, lf83, ↓reduceIte, el, c1]
    refine MCall.by (sHuffE hv (by omega)) ?_
    rintro u h1 ⟨O1, X1⟩
    have e1 := fun h => out_len (q := EC.q) (h := h) O1
    simp only [go_sem, ↓reduceIte, e1]
    refine MCall.by (sPfxEnc (n := (huffEnc s).length) (bits := 7) (mark := 1) (by omega) (by omega) (by omega) (by omega)) ?_
    rintro u2 h2 ⟨w, rfl, O2, X2⟩
    obtain ⟨v', h', ha, O3, X3, g3, _⟩ := out_cat (q := EC.q) O2 X2.size (O1.bytes.ext X2).first (by have := (pfxEnc_len (huffEnc s).length 7 1).1; omega)
    simp only [go_sem, ↓reduceIte, ha]
    exact ⟨v', rfl, O3.low X1.size, (X1.trans X2).low X3 X1.size⟩
  | false =>
    simp only [go_sem, lf83, ↓reduceIte, el, c1]
    refine MCall.by (sPfxEnc (n := s.length) (bits := 7) (mark := 0) (by omega) (by omega) (by omega) (by omega)) ?_
    rintro u2 h2 ⟨w, rfl, O2, X2⟩
    obtain ⟨v', h', ha, O3, X3, g3, _⟩ := out_cat (q := EC.q) O2 X2.size (hv.ext X2).first (by have := (pfxEnc_len s.length 7 0).1; omega)
    simp only [go_sem, ↓reduceIte, ha]
    exact ⟨v', rfl, O3, X2.low X3 (Nat.le_refl _)⟩

theorem sLitBad {h : LHeap} {v : Value} {s : Bytes} (hv : BytesAt h v s) (hs : 4096 < s.length) (coded : Bool) :
    LCalls EC 83 [v, .bool coded] h fun u h' => u = .tuple #[.slice none 0 0, .int .i64 11] ∧ h' = h := by
  refine LCalls.enter (lf := lf83) rfl rfl (by simp [lf83]) ?_
  have c1 : (4096 : Int) < (s.length : Int) := by omega
  have el := fun h => hv.len (q := EC.q) (h := h)
  simp only [go_sem, lf83, ↓reduceIte, el, c1]

theorem sShort {h : LHeap} {v : Value} {s : Bytes} (hv : BytesAt h v s) (hs : s.length ≤ 4096) :
    LCalls EC 59 [v] h fun u h' => OutAt h' h.size u (litShort s) ∧ Ext h h' := by
  refine LCalls.enter (lf := lf59) rfl rfl (by simp [lf59]) ?_
  simp only [go_sem, lf59, ↓reduceIte]
  refine MCall.by (sLitEnc hv hs false) ?_
  rintro u1 h1 ⟨w1, rfl, O1, X1⟩
  have n0 : (((0 : Int)) != 0) = false := rfl
  simp only [go_sem, ↓reduceIte, n0]
  refine MCall.by (sLitEnc (hv.ext X1) hs true) ?_
  rintro u2 h2 ⟨w2, rfl, O2, X2⟩
  have e1 := fun h => out_len (q := EC.q) (h := h) O1
  have e2 := fun h => out_len (q := EC.q) (h := h) O2
  by_cases hlt : (litEnc true s).length < (litEnc false s).length
  · have c1 : ((litEnc true s).length : Int) < ((litEnc false s).length : Int) := by omega
    have e : litShort s = litEnc true s := if_pos hlt
    rw [e]
    simp only [go_sem, ↓reduceIte, e1, e2, c1]
    exact ⟨O2.low X1.size, X1.trans X2⟩
  · have c1 : ¬ ((litEnc true s).length : Int) < ((litEnc false s).length : Int) := by omega
    have e : litShort s = litEnc false s := if_neg hlt
    rw [e]
    simp only [go_sem, ↓reduceIte, e1, e2, c1]
    exact ⟨O1.ext X2, X1.trans X2⟩
end Go.E1

/-
  Layer 8: lines' forms: the walks.
-/
namespace Go.M
open Go.E1
noncomputable def lineEnc (x : Ln) : Bytes :=
  if 0 < fieldIx x.f.1 x.f.2 ∧ x.never = false then pfxEnc (fieldIx x.f.1 x.f.2).toNat 7 1
  else pfxEnc (nameIx x.f.1).toNat 4 (if x.never = true then 1 else 0) ++ (if nameIx x.f.1 = 0 then litShort x.f.1.data.toList else []) ++ litShort x.f.2.data.toList
noncomputable def blockEnc (l : List Ln) : Bytes := l.flatMap lineEnc
theorem litShort_len (s : Bytes) : (litShort s).length ≤ 4 * s.length + 11 := by
  obtain ⟨c, h⟩ := litShort_is s
  rw [h]; exact litEnc_len c s
theorem ba_len (a : ByteArray) : a.data.toList.length = a.size := rfl
theorem lineEnc_len (x : Ln) : (lineEnc x).length ≤ 4 * (x.f.1.size + x.f.2.size) + 40 := by
  unfold lineEnc
  have a := (pfxEnc_len (fieldIx x.f.1 x.f.2).toNat 7 1).1
  have b := (pfxEnc_len (nameIx x.f.1).toNat 4 (if x.never = true then 1 else 0)).1
  have c := litShort_len x.f.1.data.toList
  have d := litShort_len x.f.2.data.toList
  rw [ba_len] at c d
  by_cases h1 : 0 < fieldIx x.f.1 x.f.2 ∧ x.never = false
  · rw [if_pos h1]; omega
  · rw [if_neg h1, List.length_append, List.length_append]
    have e : (if nameIx x.f.1 = 0 then litShort x.f.1.data.toList else []).length ≤ 4 * x.f.1.size + 11 := by
      by_cases h2 : nameIx x.f.1 = 0
      · rw [if_pos h2]; exact c
      · rw [if_neg h2]; simp
    omega
end Go.M
namespace Go.E1
open Go Go.Proofs Go.M
set_option linter.unusedSimpArgs false

theorem sMark8 {h : LHeap} {f : Fld} {nv : Bool} : LCalls EC 58 [lineV f nv] h fun u h' => u = .int .i64 ((if nv = true then 1 else 0 : Nat) : Int) ∧ Ext h h' := by
  refine LCalls.enter (lf := lf58) rfl rfl (by simp [lf58]) ?_
  cases nv
  · simp only [go_sem, lf58, ↓reduceIte, lineV]
    exact ⟨rfl, Ext.push _ _⟩
  · simp only [go_sem, lf58, ↓reduceIte, lineV]
    first | exact Ext.push _ _ | exact ⟨rfl, Ext.push _ _⟩

theorem str_bytes (h : LHeap) (s : ByteArray) : BytesAt (h.push (.cells (s.data.toList.map fun b => .int .u8 b.toNat) true true)) (.slice (some ⟨h.size, 0, none⟩) s.size 1) s.data.toList :=
  .inr ⟨h.size, 0, bv s.data.toList, true, true, by rw [ba_len], by simp, by simp [bv], by rw [bv_len]; omega, by rw [List.drop_zero, ← bv_len, List.take_length]⟩

theorem sLine {h : LHeap} {x : Ln} (hn : x.f.1.size ≤ 4096) (hv : x.f.2.size ≤ 4096) :
    LCalls EC 36 [lineV x.f x.never] h fun u h' => ∃ w, u = .tuple #[w, .int .i64 0] ∧ OutAt h' h.size w (lineEnc x) ∧ Ext h h' := by
  refine LCalls.enter (lf := lf36) rfl rfl (by simp [lf36]) ?_
  obtain ⟨⟨a, b⟩, nv⟩ := x
  simp only at hn hv
  have c1 : ¬ (4096 : Int) < (a.size : Int) := by omega
  have c2 : ¬ (4096 : Int) < (b.size : Int) := by omega
  have hfi := fieldIx_in a b
  have hni := nameIx_in a
  have X0 := Ext.push h (.cells [.string a, .string b, .bool nv] true true)
  by_cases hx : 0 < fieldIx a b ∧ nv = false
  · have e : lineEnc ⟨(a, b), nv⟩ = pfxEnc (fieldIx a b).toNat 7 1 := if_pos hx
    obtain ⟨h0, rfl⟩ := hx
    obtain ⟨k, hk⟩ : ∃ k : Nat, fieldIx a b = k := ⟨(fieldIx a b).toNat, by omega⟩
    rw [e, hk, Int.toNat_natCast]
    simp only [go_sem, lf36, ↓reduceIte, lineV, c1, c2, h0]
    rw [hk]
    refine MCall.by (sPfxEnc (n := k) (bits := 7) (mark := 1) (by omega) (by omega) (by omega) (by omega)) ?_
    rintro u h1 ⟨w, rfl, O, X⟩
    simp only [go_sem, ↓reduceIte]
    exact ⟨w, rfl, O.low X0.size, X0.trans X⟩
  · obtain ⟨k, hk⟩ : ∃ k : Nat, nameIx a = k := ⟨(nameIx a).toNat, by omega⟩
    have e : lineEnc ⟨(a, b), nv⟩ = pfxEnc k 4 (if nv = true then 1 else 0) ++ (if k = 0 then litShort a.data.toList else []) ++ litShort b.data.toList := by
      have e1 : lineEnc ⟨(a, b), nv⟩ = pfxEnc (nameIx a).toNat 4 (if nv = true then 1 else 0) ++ (if nameIx a = 0 then litShort a.data.toList else []) ++ litShort b.data.toList := if_neg hx
      rw [e1, hk, Int.toNat_natCast]
      congr 2
      by_cases q : k = 0
      · subst q; rfl
      · rw [if_neg q, if_neg (by omega)]
    rw [e]
    have hst : ∀ {hh}, Ext (h.push (.cells [.string a, .string b, .bool nv] true true)) hh → hh.get h.size = some (.cells [.string a, .string b, .bool nv] true true) := fun X => by rw [X.get _ (by simp)]; simp
    obtain ⟨mk, hmk0⟩ : ∃ mk : Nat, mk = (if nv = true then 1 else 0) := ⟨_, rfl⟩
    have hmk : mk ≤ 1 := by rw [hmk0]; split <;> omega
    rw [← hmk0]
    rcases Classical.em (0 < fieldIx a b) with h0 | h0
    all_goals
      first
        | have hnv : nv = true := (Bool.eq_false_or_eq_true nv).elim id fun h => absurd (And.intro h0 h) hx
          subst hnv
          simp only [go_sem, lf36, ↓reduceIte, lineV, c1, c2, h0]
        | simp only [go_sem, lf36, ↓reduceIte, lineV, c1, c2, h0]
      refine MCall.by (sMark8 (f := (a, b)) (nv := _)) ?_
      rintro u h1 ⟨rfl, X1⟩
      rw [← hmk0, hk]
      simp only [go_sem, ↓reduceIte]
      refine MCall.by (sPfxEnc (n := k) (bits := 4) (mark := mk) (by omega) (by omega) (by omega) (by omega)) ?_
      rintro u h2 ⟨w, rfl, O2, X2⟩
      have X02 := X0.trans (X1.trans X2)
      have hg2 := hst (X1.trans X2)
      have hp := (pfxEnc_len k 4 mk).1
      have hla := litShort_len a.data.toList
      have hlb := litShort_len b.data.toList
      rw [ba_len] at hla hlb
      simp only [go_sem, ↓reduceIte]
      refine MB.cut (fun fr h' => ∃ w3 tl, fr = (1, .pointer (some ⟨h.size, 0, none⟩)) :: (7, w3) :: (8, .int .i64 0) :: tl ∧ OutAt h' h1.size w3 (pfxEnc k 4 mk ++ (if k = 0 then litShort a.data.toList else [])) ∧ Ext h1 h') ?_ ?_
      · by_cases hz : k = 0
        · have q1 : ((k : Int) == 0) = true := by simp [hz]
          rw [if_pos hz]
          simp only [go_sem, ↓reduceIte, q1, hg2]
          have X3 := Ext.push h2 (.cells (a.data.toList.map fun b => .int .u8 b.toNat) true true)
          refine MCall.by (sShort (str_bytes h2 a) (by rw [ba_len]; exact hn)) ?_
          rintro u h4 ⟨O4, X4⟩
          have O2' := O2.ext (X3.trans X4)
          obtain ⟨v', h5, ha, O5, X5, _, _⟩ := out_cat (q := EC.q) O2' (Nat.le_trans X2.size (X3.trans X4).size) O4.bytes.first (by omega)
          simp only [go_sem, ↓reduceIte, ha]
          exact ⟨v', _, rfl, O5, (X2.trans (X3.trans X4)).low X5 (Nat.le_refl _)⟩
        · have q1 : ((k : Int) == 0) = false := by simp; omega
          rw [if_neg hz, List.append_nil]
          simp only [go_sem, ↓reduceIte, q1]
          exact ⟨w, _, rfl, O2, X2⟩
      · rintro fr h3 ⟨w3, tl, rfl, O3, X3⟩
        have hg3 := hst (X1.trans X3)
        simp only [go_sem, ↓reduceIte, hg3]
        have X4 := Ext.push h3 (.cells (b.data.toList.map fun b => .int .u8 b.toNat) true true)
        refine MCall.by (sShort (str_bytes h3 b) (by rw [ba_len]; exact hv)) ?_
        rintro u h5 ⟨O5, X5⟩
        have O3' := O3.ext (X4.trans X5)
        obtain ⟨v', h6, ha, O6, X6, _, _⟩ := out_cat (q := EC.q) O3' (Nat.le_trans X3.size (X4.trans X5).size) O5.bytes.first (by
          rw [List.length_append]
          have : (if k = 0 then litShort a.data.toList else []).length ≤ 4 * a.size + 11 := by
            by_cases h2 : k = 0
            · rw [if_pos h2]; exact hla
            · rw [if_neg h2]; simp
          omega)
        simp only [go_sem, ↓reduceIte, ha]
        exact ⟨v', rfl, O6.low (X0.trans X1).size, (X0.trans (X1.trans (X3.trans (X4.trans X5)))).low X6 (X0.trans X1).size⟩

theorem sLineBad {h : LHeap} {x : Ln} (hb : 4096 < x.f.1.size ∨ 4096 < x.f.2.size) :
    LCalls EC 36 [lineV x.f x.never] h fun u h' => u = .tuple #[.slice none 0 0, .int .i64 11] ∧ Ext h h' := by
  refine LCalls.enter (lf := lf36) rfl rfl (by simp [lf36]) ?_
  obtain ⟨⟨a, b⟩, nv⟩ := x
  simp only at hb
  by_cases h1 : 4096 < a.size
  · have c1 : (4096 : Int) < (a.size : Int) := by omega
    simp only [go_sem, lf36, ↓reduceIte, lineV, c1]
    exact Ext.push _ _
  · have c1 : ¬ (4096 : Int) < (a.size : Int) := by omega
    have c2 : (4096 : Int) < (b.size : Int) := by omega
    simp only [go_sem, lf36, ↓reduceIte, lineV, c1, c2]
    exact Ext.push _ _
end Go.E1

/-
  Layer 8: blocks: the walks.
-/
namespace Go.E1
open Go Go.Proofs Go.M
set_option linter.unusedSimpArgs false

/-- Slices of bytes. -/
def BLB (h : LHeap) (v : Value) (ls : List Bytes) : Prop := (ls = [] ∧ v = .slice none 0 0) ∨ ∃ b vs t r, v = .slice (some ⟨b, 0, none⟩) ls.length 1 ∧ b < h.size ∧ h.get b = some (.cells vs t r) ∧ vs.length = ls.length ∧ ∀ (i : Nat) (u : Value) (l : Bytes), vs[i]? = some u → ls[i]? = some l → BytesAt h u l
theorem BLB.len {q : EqF} {h hh : LHeap} {v : Value} {ls : List Bytes} (a : BLB hh v ls) : lexec q (.lenS v) h = some (.int .i64 ls.length, h) := by
  rcases a with ⟨rfl, rfl⟩ | ⟨b, _, _, _, rfl, _⟩ <;> rfl
theorem BLB.ext {h h' : LHeap} {v : Value} {ls : List Bytes} (a : BLB h v ls) (X : Ext h h') : BLB h' v ls := by
  rcases a with h1 | ⟨b, vs, t, r, h1, h2, h3, h4, h5⟩
  · exact .inl h1
  · exact .inr ⟨b, vs, t, r, h1, Nat.lt_of_lt_of_le h2 X.size, by rw [X.get b h2]; exact h3, h4, fun i u l a b => (h5 i u l a b).ext X⟩
theorem BLB.at {h : LHeap} {v : Value} {ls : List Bytes} (B : BLB h v ls) {i : Nat} (hi : i < ls.length) : ∃ b vs t r u l, v = .slice (some ⟨b, 0, none⟩) ls.length 1 ∧ b < h.size ∧ h.get b = some (.cells vs t r) ∧ vs[i]? = some u ∧ ls[i]? = some l ∧ BytesAt h u l := by
  rcases B with ⟨rfl, _⟩ | ⟨b, vs, t, r, h1, h2, h3, h4, h5⟩
  · simp at hi
  · exact ⟨b, vs, t, r, vs[i]'(by omega), ls[i], h1, h2, h3, by simp, by simp, h5 i _ _ (by simp) (by simp)⟩

theorem flat_take (ls : List Bytes) {i : Nat} {l : Bytes} (hl : ls[i]? = some l) : (ls.take (i + 1)).flatten = (ls.take i).flatten ++ l := by
  rw [List.take_add_one, hl]; simp
theorem flat_take_le (ls : List Bytes) (i : Nat) : (ls.take i).flatten.length ≤ ls.flatten.length := by
  conv => rhs; rw [← List.take_append_drop i ls, List.flatten_append, List.length_append]
  omega

theorem sConcat {h : LHeap} {v : Value} {ls : List Bytes} (B : BLB h v ls) (hs : ls.flatten.length ≤ 1000000) (hn : ls.length ≤ 1000000) :
    LCalls EC 64 [v] h fun u h' => OutAt h' h.size u ls.flatten ∧ Ext h h' := by
  refine LCalls.enter (lf := lf64) rfl rfl (by simp [lf64]) ?_
  have el := fun h => B.len (q := EC.q) (h := h)
  simp only [go_sem, lf64, ↓reduceIte, el]
  refine MC.cutb (fun fr hh => ∃ tl, fr = (0, v) :: (3, .int .i64 (ls.flatten.length : Int)) :: tl ∧ hh = h) ?_ ?_
  · refine MC.loop (fun m fr hh => ∃ i, m = ls.length - i ∧ i ≤ ls.length ∧ fr = [(0, v), (3, .int .i64 ((ls.take i).flatten.length : Int)), (9, v), (10, .int .i64 (ls.length : Int)), (11, .int .i64 (i : Int))] ∧ hh = h) ls.length ⟨0, rfl, Nat.zero_le _, rfl, rfl⟩ ?_
    rintro m fr hh J ⟨i, rfl, hi, rfl, rfl⟩ hJ
    by_cases hlt : i < ls.length
    · obtain ⟨b, vs, t, r, u, l, rfl, h1, h2, h3, h4, A⟩ := B.at hlt
      have c0 : (0 : Int) ≤ (i : Int) := by omega
      have c1 : (i : Int) < (ls.length : Int) := by omega
      have ea := fun h => A.len (q := EC.q) (h := h)
      have hft := flat_take ls h4
      have hle := flat_take_le ls (i + 1)
      rw [hft, List.length_append] at hle
      have w1 : IntKind.i64.wrap (((ls.take i).flatten.length : Int) + (l.length : Int)) = ((ls.take (i + 1)).flatten.length : Int) := by rw [IntWalk.i64_in _ (by omega), hft, List.length_append]; omega
      have c2 : ¬ ((ls.take (i + 1)).flatten.length : Int) < 0 := by omega
      have w3 : IntKind.i64.wrap ((i : Int) + 1) = ((i + 1 : Nat) : Int) := by rw [IntWalk.i64_in _ (by omega)]; omega
      simp only [go_sem, ↓reduceIte, c0, c1, h2, h3, ea, w1, c2, w3]
      exact hJ (ls.length - (i + 1)) _ _ (by omega) ⟨i + 1, rfl, by omega, rfl, rfl⟩
    · have c1 : ¬ (i : Int) < (ls.length : Int) := by omega
      obtain rfl : i = ls.length := by omega
      simp only [go_sem, ↓reduceIte, c1]
      rw [List.take_length]
      exact ⟨_, rfl⟩
  · rintro fr hh ⟨tl, rfl, rfl⟩
    rw [MC_seq]
    refine MC.cut (fun fr h2 => ∃ w, fr = [(0, v), (6, w)] ∧ OutAt h2 hh.size w [] ∧ Ext hh h2) ?_ ?_
    · by_cases h0 : ls.flatten.length = 0
      · have c1 : (ls.flatten.length : Int) = 0 := by omega
        simp only [go_sem, ↓reduceIte, c1]
        exact ⟨_, rfl, .inl ⟨rfl, rfl⟩, Ext.refl _⟩
      · have c1 : ¬ (ls.flatten.length : Int) = 0 := by omega
        have c2 : (0 : Int) < (ls.flatten.length : Int) := by omega
        have c3 : (ls.flatten.length : Int) ≤ 1099511627776 := by omega
        simp only [go_sem, ↓reduceIte, c1, c2, c3]
        exact ⟨_, rfl, .inr ⟨hh.size, rfl, Nat.le_refl _, by simp, by simp [bv]⟩, Ext.push _ _⟩
    rintro fr h2 ⟨w, rfl, O, X2⟩
    simp only [go_sem, ↓reduceIte, el]
    refine MC.cutb (fun fr h3 => ∃ w tl, fr = (6, w) :: tl ∧ OutAt h3 hh.size w ls.flatten ∧ Ext hh h3) ?_ ?_
    · refine MC.loop (fun m fr h3 => ∃ i w, m = ls.length - i ∧ i ≤ ls.length ∧ fr = [(6, w), (25, v), (26, .int .i64 (ls.length : Int)), (27, .int .i64 (i : Int))] ∧ OutAt h3 hh.size w (ls.take i).flatten ∧ Ext hh h3) ls.length ⟨0, w, rfl, Nat.zero_le _, rfl, O, X2⟩ ?_
      clear O X2
      rintro m fr h3 J ⟨i, w, rfl, hi, rfl, O, X⟩ hJ
      by_cases hlt : i < ls.length
      · obtain ⟨b, vs, t, r, u, l, rfl, h1, g2, g3, g4, A⟩ := B.at hlt
        have c0 : (0 : Int) ≤ (i : Int) := by omega
        have c1 : (i : Int) < (ls.length : Int) := by omega
        have hft := flat_take ls g4
        have hle := flat_take_le ls (i + 1)
        rw [hft, List.length_append] at hle
        have g2' : h3.get b = some (.cells vs t r) := by rw [X.get b h1]; exact g2
        obtain ⟨w', h4, ha, O4, X4, _, _⟩ := out_cat (q := EC.q) O X.size (A.ext X).first (by omega)
        have w3 : IntKind.i64.wrap ((i : Int) + 1) = ((i + 1 : Nat) : Int) := by rw [IntWalk.i64_in _ (by omega)]; omega
        simp only [go_sem, ↓reduceIte, c0, c1, g2', g3, ha, w3]
        exact hJ (ls.length - (i + 1)) _ _ (by omega) ⟨i + 1, w', rfl, by omega, rfl, by rw [hft]; exact O4, X.low X4 (Nat.le_refl _)⟩
      · have c1 : ¬ (i : Int) < (ls.length : Int) := by omega
        obtain rfl : i = ls.length := by omega
        simp only [go_sem, ↓reduceIte, c1]
        rw [List.take_length] at O
        exact ⟨w, _, rfl, O, X⟩
    · rintro fr h3 ⟨w, tl, rfl, O, X⟩
      simp only [go_sem, ↓reduceIte]
      exact ⟨O, X⟩

/-- A list of slices, being gathered. -/
abbrev SlT := Option Addr × Nat × Nat
def slv (s : SlT) : List Value := [.slice s.1 s.2.1 s.2.2]
theorem slv_cel : Cel 1 slv := ⟨fun _ => rfl, fun _ => rfl, by omega⟩
structure GB (h : LHeap) (v : Value) (ls : List Bytes) : Prop where
  ex : ∃ ss : List SlT, GL 1 slv h v ss ∧ ss.length = ls.length ∧ ∀ (i : Nat) (s : SlT) (l : Bytes), ss[i]? = some s → ls[i]? = some l → BytesAt h (.slice s.1 s.2.1 s.2.2) l ∧ ∀ b, blkOf (.slice s.1 s.2.1 s.2.2) = some b → blkOf v ≠ some b
theorem slv_at (ss : List SlT) (i : Nat) : (ss.flatMap slv)[i]? = (ss[i]?).map fun s => .slice s.1 s.2.1 s.2.2 := by
  have : ss.flatMap slv = ss.map fun s => .slice s.1 s.2.1 s.2.2 := by
    induction ss with
    | nil => rfl
    | cons s ss ih => rw [List.flatMap_cons, List.map_cons, ih]; rfl
  rw [this, List.getElem?_map]
theorem GB.blb {h : LHeap} {v : Value} {ls : List Bytes} (g : GB h v ls) : BLB h v ls := by
  obtain ⟨ss, g1, g2, g3⟩ := g.ex
  rcases g1 with ⟨rfl, rfl⟩ | ⟨b, rfl, h1, h2⟩
  · exact .inl ⟨List.length_eq_zero_iff.1 (by simpa using g2.symm), rfl⟩
  · refine .inr ⟨b, _, _, _, by rw [g2], h1, h2, by rw [slv_cel.flat_len, Nat.mul_one, g2], fun i u l hu hl => ?_⟩
    rw [slv_at, Option.map_eq_some_iff] at hu
    obtain ⟨s, hs, rfl⟩ := hu
    exact (g3 i s l hs hl).1
end Go.E1

/-
  Layer 8: Encode and Len: the walks.
-/
namespace Go.M
open Go.E1
def okLn (x : Ln) : Prop := x.f.1.size ≤ 4096 ∧ x.f.2.size ≤ 4096
theorem blockEnc_flat (l : List Ln) : blockEnc l = (l.map lineEnc).flatten := by simp [blockEnc, List.flatMap_def]
end Go.M
namespace Go.E1
open Go Go.Proofs Go.M
set_option linter.unusedSimpArgs false

theorem BytesAt.move {h h' : LHeap} {v : Value} {l : Bytes} (a : BytesAt h v l) (hs : h.size ≤ h'.size) (hg : ∀ b, b < h.size → blkOf v = some b → h'.get b = h.get b) : BytesAt h' v l := by
  rcases a with h1 | ⟨b, o, cs, t, r, rfl, h0, h1, h2, h3⟩
  · exact .inl h1
  · exact .inr ⟨b, o, cs, t, r, rfl, by omega, by rw [hg b h0 rfl]; exact h1, h2, h3⟩
theorem BytesAt.lt {h : LHeap} {v : Value} {l : Bytes} (a : BytesAt h v l) {b : Nat} (hb : blkOf v = some b) : b < h.size := by
  rcases a with ⟨_, c, rfl⟩ | ⟨b', o, cs, t, r, rfl, h0, _⟩
  · cases hb
  · cases hb; exact h0
theorem OutAt.ge {h : LHeap} {lo : Nat} {v : Value} {l : Bytes} (a : OutAt h lo v l) {b : Nat} (hb : blkOf v = some b) : lo ≤ b ∧ b < h.size := by
  rcases a with ⟨_, rfl⟩ | ⟨b', rfl, h1, h2, _⟩
  · cases hb
  · cases hb; exact ⟨h1, h2⟩

theorem gb_append {q : EqF} {hh : LHeap} {v w : Value} {ls : List Bytes} {l : Bytes} (g : GB hh v ls) (hw : BytesAt hh w l) (hwv : ∀ b, blkOf w = some b → blkOf v ≠ some b) (hn : ls.length < 1000000) :
    ∃ v' hh', lexec q (.append 1 24 v (.slice (some ⟨hh.size, 0, none⟩) 1 1)) (hh.push (.cells [w] true true)) = some (v', hh') ∧ GB hh' v' (ls ++ [l]) ∧ hh.size ≤ hh'.size ∧
      (∀ b, b < hh.size → blkOf v ≠ some b → hh'.get b = hh.get b) ∧ (∀ b, blkOf v' = some b → hh.size ≤ b) := by
  obtain ⟨ss, g1, g2, g3⟩ := g.ex
  obtain ⟨o, n, E, rfl⟩ := bsl hw
  obtain ⟨v', hh', ha, G, sz, gg, nn⟩ := gl_append slv_cel (q := q) (by' := 24) g1 (o, n, E) (by omega) (by omega)
  refine ⟨v', hh', ha, ⟨ss ++ [(o, n, E)], G, by simp [g2], ?_⟩, sz, gg, nn⟩
  intro i s x hs hx
  rcases Nat.lt_or_ge i ss.length with q | q
  · rw [List.getElem?_append_left q] at hs
    rw [List.getElem?_append_left (by omega)] at hx
    obtain ⟨a, b⟩ := g3 i s x hs hx
    exact ⟨a.move sz fun c hc hb => gg c hc (b c hb), fun c hc hv => by have := nn c hv; have := a.lt hc; omega⟩
  · rw [List.getElem?_append_right q] at hs
    rw [List.getElem?_append_right (by omega), ← g2] at hx
    match hi : i - ss.length, hs, hx with
    | 0, hs, hx =>
      cases hs; cases hx
      exact ⟨hw.move sz fun c hc hb => gg c hc (hwv c hb), fun c hc hv => by have := nn c hv; have := hw.lt hc; omega⟩
    | k + 1, hs, hx => cases hs
theorem GB.ext {h h' : LHeap} {v : Value} {ls : List Bytes} (g : GB h v ls) (X : Ext h h') : GB h' v ls := by
  obtain ⟨ss, g1, g2, g3⟩ := g.ex
  exact ⟨ss, g1.ext X, g2, fun i s l a b => ⟨(g3 i s l a b).1.ext X, (g3 i s l a b).2⟩⟩
theorem GB.lt {h : LHeap} {v : Value} {ls : List Bytes} (g : GB h v ls) {b : Nat} (hb : blkOf v = some b) : b < h.size := by
  obtain ⟨ss, g1, _⟩ := g.ex
  exact (g1.blk hb).1

theorem sEncode {h : LHeap} {v : Value} {l : List Ln} (S : LS0 h v l) (hl : l.length ≤ 100000) (ht : (blockEnc l).length ≤ 1000000) :
    LCalls EC 39 [v] h fun u h' => Ext h h' ∧ (((∀ x ∈ l, okLn x) ∧ ∃ w, u = .tuple #[w, .int .i64 0] ∧ OutAt h' h.size w (blockEnc l)) ∨ ((∃ x ∈ l, ¬ okLn x) ∧ u = .tuple #[.slice none 0 0, .int .i64 11])) := by
  refine LCalls.enter (lf := lf39) rfl rfl (by simp [lf39]) ?_
  have el := fun h => S.len (q := EC.q) (h := h)
  simp only [go_sem, lf39, ↓reduceIte, el]
  refine MC.cutb (fun fr hh => ∃ ov tl, fr = (4, ov) :: tl ∧ GB hh ov (l.map lineEnc) ∧ Ext h hh ∧ ∀ x ∈ l, okLn x) ?_ ?_
  · refine MC.loop (fun m fr hh => ∃ i ov, m = l.length - i ∧ i ≤ l.length ∧ fr = [(4, ov), (9, v), (10, .int .i64 (l.length : Int)), (11, .int .i64 (i : Int))] ∧ GB hh ov ((l.take i).map lineEnc) ∧ Ext h hh ∧ (∀ x ∈ l.take i, okLn x) ∧ ∀ b, blkOf ov = some b → h.size ≤ b) l.length ⟨0, _, rfl, Nat.zero_le _, rfl, ⟨[], .nil, rfl, fun i s l a => by cases a⟩, Ext.refl _, by simp, fun b hb => by cases hb⟩ ?_
    rintro m fr hh J ⟨i, ov, rfl, hi, rfl, G, X, hok, hlo⟩ hJ
    by_cases hlt : i < l.length
    · obtain ⟨b, x, t, r, rfl, h1, h2, h3, h4⟩ := S.at hlt
      have c0 : (0 : Int) ≤ (i : Int) := by omega
      have c1 : (i : Int) < (l.length : Int) := by omega
      have hle : i * 3 + 3 ≤ (lcells l).length := by rw [lcells_len]; omega
      have h2' : hh.get b = some (.cells (lcells l) t r) := by rw [X.get b h1]; exact h2
      have w3 : IntKind.i64.wrap ((i : Int) + 1) = ((i + 1 : Nat) : Int) := by rw [IntWalk.i64_in _ (by omega)]; omega
      have htk : l.take (i + 1) = l.take i ++ [x] := by rw [List.take_add_one, h3]; rfl
      have hX : ∀ {c c'}, Ext hh ((hh.push c).set hh.size c') := (Ext.push _ _).set (Nat.le_refl _) _
      simp only [go_sem, ↓reduceIte, c0, c1, h2', hle, h4]
      by_cases hx : okLn x
      · refine MCall.by (sLine (x := x) hx.1 hx.2) ?_
        rintro u h5 ⟨w, rfl, O, X5⟩
        obtain ⟨wo, wn, wE, rfl⟩ := bsl O.bytes
        have n0 : (((0 : Int)) != 0) = false := rfl
        have G5 := (G.ext hX).ext X5
        obtain ⟨ov', h6, ha, G6, sz6, g6, n6⟩ := gb_append (q := EC.q) G5 O.bytes (fun c hc hv => by have := (O.ge hc).1; have := G.lt hv; simp at *; omega) (by rw [List.length_map, List.length_take]; omega)
        simp only [go_sem, ↓reduceIte, n0, ha, w3]
        have sz5 := X5.size
        have szX := X.size
        simp only [LHeap.size_set, LHeap.size_push] at sz5
        refine hJ (l.length - (i + 1)) _ _ (by omega) ⟨i + 1, ov', rfl, by omega, rfl, by rw [htk, List.map_append]; exact G6, ⟨by omega, fun c hc => ?_⟩, ?_, fun c hc => by have := n6 c hc; omega⟩
        · rw [g6 c (by omega) (fun hv => by have := hlo c hv; omega)]
          exact ((X.trans hX).trans X5).get c hc
        · intro y hy
          rw [htk, List.mem_append] at hy
          rcases hy with hy | hy
          · exact hok y hy
          · rw [List.mem_singleton] at hy; rw [hy]; exact hx
      · refine MCall.by (sLineBad (x := x) (by unfold okLn at hx; omega)) ?_
        rintro u h5 ⟨rfl, X5⟩
        have n0 : (((11 : Int)) != 0) = true := rfl
        simp only [go_sem, ↓reduceIte, n0]
        exact ⟨(X.trans hX).trans X5, .inr ⟨x, List.mem_of_getElem? h3, hx⟩⟩
    · have c1 : ¬ (i : Int) < (l.length : Int) := by omega
      obtain rfl : i = l.length := by omega
      simp only [go_sem, ↓reduceIte, c1]
      rw [List.take_length] at G hok
      exact ⟨ov, _, rfl, G, X, hok⟩
  · rintro fr hh ⟨ov, tl, rfl, G, X, hok⟩
    simp only [go_sem, ↓reduceIte]
    refine MCall.by (sConcat G.blb (by rw [← blockEnc_flat]; exact ht) (by rw [List.length_map]; omega)) ?_
    rintro u h2 ⟨O, X2⟩
    rw [← blockEnc_flat] at O
    simp only [go_sem, ↓reduceIte]
    exact ⟨X.trans X2, .inl ⟨hok, u, rfl, O.low X.size⟩⟩

theorem sLen8 {h : LHeap} {v : Value} {l : List Ln} (S : LS0 h v l) (hl : l.length ≤ 100000) (ht : (blockEnc l).length ≤ 1000000) :
    LCalls EC 40 [v] h fun u h' => Ext h h' ∧ (((∀ x ∈ l, okLn x) ∧ u = .int .i64 ((blockEnc l).length : Int)) ∨ ((∃ x ∈ l, ¬ okLn x) ∧ u = .int .i64 0)) := by
  refine LCalls.enter (lf := lf40) rfl rfl (by simp [lf40]) ?_
  simp only [go_sem, lf40, ↓reduceIte]
  refine MCall.by (sEncode S hl ht) ?_
  rintro u h2 ⟨X, ⟨hok, w, rfl, O⟩ | ⟨hb, rfl⟩⟩
  · have e := fun h => out_len (q := EC.q) (h := h) O
    simp only [go_sem, ↓reduceIte, e]
    exact ⟨X, .inl hok⟩
  · have e : ∀ h, lexec EC.q (.lenS (.slice none 0 0)) h = some (.int .i64 0, h) := fun h => rfl
    simp only [go_sem, ↓reduceIte, e]
    exact ⟨X, .inr hb⟩
end Go.E1
