/-
  Texts joined: R2A, R2B, R2C, R2D, R2E, R2F, M08.
-/
import Derived.Test.YtdbjklgnhbmlaaaGreatKi
/-
  The document's code: the next code, and all of them.
-/
namespace Go.M
open Go.E1

/-- A number's lowest bits as letters, the highest first. -/
def letters : Nat → Nat → Bytes
  | 0, _ => []
  | k + 1, c => (if c.testBit k then 49 else 48) :: letters k c
noncomputable def codeBits (x : Nat) : Bytes := letters (lenOf x) (huffCodes.getD x 0)

/-- One more, from the last letter on. -/
def incR : Bool → Bytes → Bytes
  | _, [] => []
  | true, c :: r => if c.toNat = 48 then 49 :: incR false r else 48 :: incR true r
  | false, c :: r => c :: incR false r
def nextB (l : Bytes) : Bytes := (incR true l.reverse).reverse
def pad (n : Nat) (l : Bytes) : Bytes := l ++ List.replicate (n - l.length) 48

noncomputable def codeStep (n : Nat) (s : Bytes × List Bytes) (x : Nat) : Bytes × List Bytes :=
  if lenOf x = n then (pad n (if s.1 = [] then [48, 48, 48, 48, 48] else nextB s.1), s.2.set x (pad n (if s.1 = [] then [48, 48, 48, 48, 48] else nextB s.1))) else s
noncomputable def codeRow (s : Bytes × List Bytes) (n : Nat) : Bytes × List Bytes := (List.range 257).foldl (codeStep n) s
noncomputable def codeAll : Bytes × List Bytes := (List.range 26).foldl (fun s i => codeRow s (i + 5)) ([], List.replicate 257 [])

theorem incR_len : ∀ (c : Bool) (l : Bytes), (incR c l).length = l.length
  | true, [] => rfl
  | false, [] => rfl
  | true, c :: r => by
    simp only [incR]
    split <;> simp [incR_len]
  | false, c :: r => by simp [incR, incR_len]
theorem nextB_len (l : Bytes) : (nextB l).length = l.length := by simp [nextB, incR_len]
theorem pad_len {n : Nat} {l : Bytes} (h : l.length ≤ n) : (pad n l).length = n := by simp [pad]; omega
theorem codeStep_len {n : Nat} (hn : 5 ≤ n) {s : Bytes × List Bytes} (h : s.1.length ≤ n) (x : Nat) : (codeStep n s x).1.length ≤ n ∧ (codeStep n s x).2.length = s.2.length := by
  unfold codeStep
  split
  · refine ⟨Nat.le_of_eq (pad_len ?_), by simp⟩
    split
    · simpa using hn
    · rw [nextB_len]; exact h
  · exact ⟨h, rfl⟩
end Go.M

namespace Go.E1
open Go Go.Proofs Go.M
set_option linter.unusedSimpArgs false

theorem codes_all : codeAll.2 = (List.range 257).map codeBits := by kernel_rfl
end Go.E1

/-
  The document's code: the walks of the next code and of all codes.
-/
namespace Go.E1
open Go Go.Proofs Go.M
set_option linter.unusedSimpArgs false

@[go_sem] theorem toBA_data (l : Bytes) : (toBA l).data.toList = l := rfl
attribute [go_sem] toBA_size
theorem toBA_append (a b : Bytes) : toBA a ++ toBA b = toBA (a ++ b) := by
  apply ByteArray.ext
  rw [ByteArray.data_append]
  simp [toBA]

theorem MC.cutbb {E : Env} {c b : LCode} {id id' : Nat} {k : Cont} {fr : Fr} {h : LHeap} {Q : Value → LHeap → Prop} (J : Fr → LHeap → Prop) (w : MC E c (.block id (.block id' (.inv J k))) fr h Q) (hb : ∀ fr h, J fr h → MC E b k fr h Q) : MC E c (.block id (.block id' (.code b k))) fr h Q :=
  w.cont (kont_block (kont_block (kont_cut hb)))

/-- A slice of one byte, as a text. -/
theorem one_str {q : EqF} {h : LHeap} (c : UInt8) : lexec q (.bytesStr (.slice (some ⟨h.size, 0, none⟩) 1 1)) (h.push (.cells [.int .u8 c.toNat] true true)) = some (.string (toBA [c]), h.push (.cells [.int .u8 c.toNat] true true)) :=
  out_str (lo := 0) (s := [c]) (.inr ⟨h.size, rfl, Nat.zero_le _, by simp, by simp [bv]⟩)

def strs (l : List Bytes) : List Value := l.map fun b => .string (toBA b)
theorem strs_len (l : List Bytes) : (strs l).length = l.length := by simp [strs]
theorem strs_set (l : List Bytes) {i : Nat} (hi : i < l.length) (b : Bytes) : (strs l).take i ++ [.string (toBA b)] ++ (strs l).drop (i + 1) = strs (l.set i b) := by
  unfold strs
  rw [← List.map_take, ← List.map_drop, ← List.map_singleton (f := fun b => Value.string (toBA b)), ← List.map_append, ← List.map_append]
  congr 1
  rw [List.set_eq_take_append_cons_drop, if_pos hi]
  simp


/-- The zero's cells, however they are written. -/
def ZC (h : LHeap) (b : Nat) : Prop := ∃ z, h.get b = some (.cells z true true) ∧ z.length = 257

theorem codeAll_len : codeAll.2.length = 257 := by rw [codes_all]; simp

end Go.E1

/-
  The document's code: reading bits by codes is reading them bit by bit.
-/
namespace Go.M
open Go.E1

def lets (bs : List Bool) : Bytes := bs.map fun b => if b then 49 else 48
theorem lets_len (bs : List Bool) : (lets bs).length = bs.length := by simp [lets]
/-- A number's bits, behind those of another. -/
def val (c : Nat) (bs : List Bool) : Nat := bs.foldl (fun c b => 2 * c + b.toNat) c
theorem val_cons (c : Nat) (b : Bool) (bs : List Bool) : val c (b :: bs) = val (2 * c + b.toNat) bs := rfl
theorem val_append (c : Nat) (a b : List Bool) : val c (a ++ b) = val (val c a) b := by simp [val]
theorem val_lt : ∀ (bs : List Bool) (c : Nat), val c bs < (c + 1) * 2 ^ bs.length
  | [], c => by simp [val]
  | b :: bs, c => by
    have := val_lt bs (2 * c + b.toNat)
    rw [val_cons, List.length_cons, Nat.pow_succ]
    refine Nat.lt_of_lt_of_le this ?_
    have hb : b.toNat ≤ 1 := by cases b <;> decide
    calc (2 * c + b.toNat + 1) * 2 ^ bs.length ≤ (2 * (c + 1)) * 2 ^ bs.length := Nat.mul_le_mul_right _ (by omega)
      _ = (c + 1) * (2 ^ bs.length * 2) := by rw [Nat.mul_comm 2 (c + 1), Nat.mul_assoc, Nat.mul_comm 2]
theorem val_shift : ∀ (bs : List Bool) (c : Nat), val c bs / 2 ^ bs.length = c
  | [], c => by simp [val]
  | b :: bs, c => by
    rw [val_cons, List.length_cons, Nat.pow_succ, ← Nat.div_div_eq_div_mul, val_shift bs]
    cases b <;> simp <;> omega
theorem val_mod : ∀ (bs : List Bool) (c : Nat), val c bs % 2 ^ bs.length = val 0 bs
  | [], c => by simp [val, Nat.mod_one]
  | b :: bs, c => by
    have h1 := val_shift bs (2 * c + b.toNat)
    have h2 := val_mod bs (2 * c + b.toNat)
    have h3 := val_mod bs (2 * 0 + b.toNat)
    have h4 := val_shift bs (2 * 0 + b.toNat)
    rw [val_cons, val_cons, List.length_cons]
    have e : ∀ x, x % 2 ^ (bs.length + 1) = x % 2 ^ bs.length + 2 ^ bs.length * (x / 2 ^ bs.length % 2) := fun x => by
      rw [Nat.pow_succ, Nat.mod_mul]
    rw [e, h1, h2]
    have e2 : val (2 * 0 + b.toNat) bs = val 0 bs + 2 ^ bs.length * b.toNat := by
      conv => lhs; rw [← Nat.mod_add_div (val (2 * 0 + b.toNat) bs) (2 ^ bs.length)]
      rw [h3, h4]; simp
    rw [e2]
    congr 2
    cases b <;> simp <;> omega
theorem testBit_val (bs : List Bool) (b : Bool) : (val 0 (b :: bs)).testBit bs.length = b := by
  rw [val_cons, Nat.testBit, Nat.shiftRight_eq_div_pow, val_shift]
  cases b <;> rfl
theorem letters_mod : ∀ (k c d : Nat), c % 2 ^ k = d % 2 ^ k → letters k c = letters k d
  | 0, _, _, _ => rfl
  | k + 1, c, d, h => by
    have h1 : c % 2 ^ k = d % 2 ^ k := by
      have := congrArg (· % 2 ^ k) h
      simpa [Nat.pow_succ, Nat.mod_mul_right_mod] using this
    have h2 : c.testBit k = d.testBit k := by
      have a : (c % 2 ^ (k + 1)).testBit k = c.testBit k := by simp [Nat.testBit_mod_two_pow]
      have b : (d % 2 ^ (k + 1)).testBit k = d.testBit k := by simp [Nat.testBit_mod_two_pow]
      rw [← a, ← b, h]
    simp only [letters]
    rw [h2, letters_mod k c d h1]
theorem letters_val : ∀ (bs : List Bool), letters bs.length (val 0 bs) = lets bs
  | [] => rfl
  | b :: bs => by
    simp only [List.length_cons, letters, testBit_val]
    rw [letters_mod bs.length (val 0 (b :: bs)) (val 0 bs) (by
      rw [val_cons, val_mod, val_mod]), letters_val bs]
    cases b <;> rfl
theorem letters_inj : ∀ (k c d : Nat), c < 2 ^ k → d < 2 ^ k → letters k c = letters k d → c = d
  | 0, c, d, hc, hd, _ => by simp at hc hd; omega
  | k + 1, c, d, hc, hd, h => by
    simp only [letters, List.cons.injEq] at h
    obtain ⟨h1, h2⟩ := h
    have hb : c.testBit k = d.testBit k := by
      cases hx : c.testBit k <;> cases hy : d.testBit k <;> rw [hx, hy] at h1 <;> first | rfl | (revert h1; decide)
    have h3 : letters k (c % 2 ^ k) = letters k (d % 2 ^ k) := by
      rw [letters_mod k (c % 2 ^ k) c (by simp), letters_mod k (d % 2 ^ k) d (by simp)]; exact h2
    have h4 := letters_inj k _ _ (Nat.mod_lt _ (Nat.two_pow_pos k)) (Nat.mod_lt _ (Nat.two_pow_pos k)) h3
    have e : ∀ x, x < 2 ^ (k + 1) → x = x % 2 ^ k + 2 ^ k * (x.testBit k).toNat := fun x hx => by
      rw [Nat.testBit_eq_decide_div_mod_eq]
      have h5 : x / 2 ^ k < 2 := Nat.div_lt_of_lt_mul (by rw [Nat.pow_succ] at hx; omega)
      have h6 := Nat.mod_add_div x (2 ^ k)
      have h7 : (decide (x / 2 ^ k % 2 = 1)).toNat = x / 2 ^ k := by
        generalize x / 2 ^ k = y at h5
        match y, h5 with
        | 0, _ => rfl
        | 1, _ => rfl
      rw [h7]; omega
    rw [e c hc, e d hd, h4, hb]
theorem letters_len : ∀ (k c : Nat), (letters k c).length = k
  | 0, _ => rfl
  | k + 1, c => by simp [letters, letters_len k c]
end Go.M

/-
  The document's code: a symbol is found by its code, once, and as bit by bit.
-/
namespace Go.M
open Go.E1

def codeOf (x : Nat) : Nat := huffCodes.getD x 0

theorem chk_sym : (List.range 257).all (fun x => decide (symOf (codeOf x) (lenOf x) = some x ∧ codeOf x < 2 ^ lenOf x ∧ 1 ≤ lenOf x ∧ lenOf x ≤ 30)) = true := by kernel_rfl
theorem chk_back : (List.range 31).all (fun n => (List.range (cntAt n)).all fun k => decide (ordAt (begAt n + k) < 257 ∧ lenOf (ordAt (begAt n + k)) = n ∧ codeOf (ordAt (begAt n + k)) = fstAt n + k)) = true := by kernel_rfl
theorem chk_free : (List.range 257).all (fun x => (List.range (lenOf x)).all fun m => decide (symOf (codeOf x / 2 ^ (lenOf x - m)) m = none)) = true := by kernel_rfl

theorem sym_of {x : Nat} (hx : x < 257) : symOf (codeOf x) (lenOf x) = some x ∧ codeOf x < 2 ^ lenOf x ∧ 1 ≤ lenOf x ∧ lenOf x ≤ 30 := of_decide_eq_true (List.all_eq_true.1 chk_sym x (List.mem_range.2 hx))
theorem sym_back {c n x : Nat} (h : symOf c n = some x) : x < 257 ∧ lenOf x = n ∧ codeOf x = c := by
  unfold symOf at h
  split at h
  · rename_i hh
    cases h
    have h1 := of_decide_eq_true (List.all_eq_true.1 (List.all_eq_true.1 chk_back n (List.mem_range.2 (by omega))) (c - fstAt n) (List.mem_range.2 (by omega)))
    exact ⟨h1.1, h1.2.1, by rw [h1.2.2]; omega⟩
  · cases h
theorem sym_free {x m : Nat} (hx : x < 257) (hm : m < lenOf x) : symOf (codeOf x / 2 ^ (lenOf x - m)) m = none :=
  of_decide_eq_true (List.all_eq_true.1 (List.all_eq_true.1 chk_free x (List.mem_range.2 hx)) m (List.mem_range.2 hm))

/-- A symbol's code stands at the beginning. -/
def Beg (x : Nat) (bs : List Bool) : Prop := lenOf x ≤ bs.length ∧ val 0 (bs.take (lenOf x)) = codeOf x

theorem codeBits_eq (x : Nat) : codeBits x = letters (lenOf x) (codeOf x) := rfl
theorem beg_iff {x : Nat} (hx : x < 257) (bs : List Bool) : Beg x bs ↔ (lenOf x ≤ bs.length ∧ (lets bs).take (lenOf x) = codeBits x) := by
  constructor
  · rintro ⟨h1, h2⟩
    refine ⟨h1, ?_⟩
    rw [codeBits_eq, ← h2]
    have h3 := letters_val (bs.take (lenOf x))
    rw [List.length_take, Nat.min_eq_left h1] at h3
    rw [h3]
    simp [lets]
  · rintro ⟨h1, h2⟩
    refine ⟨h1, ?_⟩
    have h3 := letters_val (bs.take (lenOf x))
    rw [List.length_take, Nat.min_eq_left h1] at h3
    have h4 : letters (lenOf x) (val 0 (bs.take (lenOf x))) = letters (lenOf x) (codeOf x) := by
      rw [h3, ← codeBits_eq, ← h2]
      simp [lets]
    refine letters_inj _ _ _ ?_ (sym_of hx).2.1 h4
    have := val_lt (bs.take (lenOf x)) 0
    rwa [List.length_take, Nat.min_eq_left h1, Nat.zero_add, Nat.one_mul] at this

theorem beg_sym {x : Nat} (hx : x < 257) {bs : List Bool} (h : Beg x bs) : symOf (val 0 (bs.take (lenOf x))) (lenOf x) = some x := by rw [h.2]; exact (sym_of hx).1
theorem beg_less {x m : Nat} (hx : x < 257) {bs : List Bool} (h : Beg x bs) (hm : m < lenOf x) : symOf (val 0 (bs.take m)) m = none := by
  have h1 := sym_free hx hm
  rw [← h.2] at h1
  have h2 : bs.take (lenOf x) = bs.take m ++ (bs.take (lenOf x)).drop m := by
    have := List.take_append_drop m (bs.take (lenOf x))
    rw [List.take_take, Nat.min_eq_left (by omega)] at this
    exact this.symm
  have h3 := val_shift ((bs.take (lenOf x)).drop m) (val 0 (bs.take m))
  rw [← val_append, ← h2, List.length_drop, List.length_take, Nat.min_eq_left h.1] at h3
  rw [h3] at h1
  exact h1
theorem beg_one {x y : Nat} (hx : x < 257) (hy : y < 257) {bs : List Bool} (h : Beg x bs) (g : Beg y bs) : x = y := by
  have a := beg_sym hx h
  have b := beg_sym hy g
  rcases Nat.lt_trichotomy (lenOf x) (lenOf y) with q | q | q
  · rw [beg_less hy g q] at a; cases a
  · rw [q, b] at a; exact (Option.some.inj a).symm
  · rw [beg_less hx h q] at b; cases b

/-- Bits with which no symbol ends. -/
theorem go_none : ∀ (p q : List Bool) (c n : Nat) (o : Bool) (out : Bytes), (∀ m, m < p.length → symOf (val c (p.take (m + 1))) (n + m + 1) = none) → huffGo (p ++ q) c n o out = huffGo q (val c p) (n + p.length) (o && p.all id) out
  | [], q, c, n, o, out, _ => by simp [val]
  | b :: p, q, c, n, o, out, h => by
    have h0 : symOf (2 * c + b.toNat) (n + 1) = none := h 0 (by simp)
    rw [List.cons_append]
    simp only [huffGo, h0]
    rw [go_none p q (2 * c + b.toNat) (n + 1) (o && b) out fun m hm => by
      have := h (m + 1) (by simpa using hm)
      rw [show n + 1 + m + 1 = n + (m + 1) + 1 by omega]
      exact this]
    simp only [val_cons, List.length_cons, List.all_cons, id_eq, Bool.and_assoc]
    rw [show n + 1 + p.length = n + (p.length + 1) by omega]

theorem go_beg {x : Nat} (hx : x < 257) {bs : List Bool} (h : Beg x bs) (out : Bytes) : huffGo bs 0 0 true out = if x = 256 then .error 21 else huffGo (bs.drop (lenOf x)) 0 0 true (out ++ [UInt8.ofNat x]) := by
  have hl := (sym_of hx).2.2.1
  obtain ⟨n, hn⟩ : ∃ n, lenOf x = n + 1 := ⟨lenOf x - 1, by omega⟩
  have hb := h.1
  obtain ⟨b, hbn⟩ : ∃ b, bs[n]? = some b := ⟨bs[n], by simp [show n < bs.length by omega]⟩
  have hsplit : bs = bs.take n ++ b :: bs.drop (n + 1) := by
    rw [List.getElem?_eq_getElem (by omega)] at hbn
    rw [← Option.some.inj hbn, List.getElem_cons_drop, List.take_append_drop]
  have htk : bs.take (n + 1) = bs.take n ++ [b] := by rw [List.take_add_one, hbn]; rfl
  have hs := beg_sym hx h
  rw [hn, htk, val_append] at hs
  conv => lhs; rw [hsplit]
  rw [go_none _ _ _ _ _ _ fun m hm => by
    rw [List.length_take] at hm
    rw [List.take_take, Nat.min_eq_left (by omega), Nat.zero_add]
    exact beg_less hx h (by omega)]
  rw [List.length_take, Nat.min_eq_left (by omega), Nat.zero_add]
  have hs' : symOf (2 * val 0 (bs.take n) + b.toNat) (n + 1) = some x := hs
  simp only [huffGo, hs', hn]

theorem go_end {bs : List Bool} (h : ∀ x, x < 257 → ¬ Beg x bs) (out : Bytes) : huffGo bs 0 0 true out = if 7 < bs.length ∨ bs.all id = false then .error 20 else .ok out := by
  have := go_none bs [] 0 0 true out fun m hm => by
    cases hc : symOf (val 0 (bs.take (m + 1))) (0 + m + 1) with
    | none => rfl
    | some x =>
      obtain ⟨h1, h2, h3⟩ := sym_back hc
      refine absurd ⟨by omega, ?_⟩ (h x h1)
      rw [h2, Nat.zero_add]; exact h3.symm
  rw [List.append_nil] at this
  rw [this]
  simp only [huffGo, Nat.zero_add, Bool.true_and]
end Go.M

/-
  The document's code: the walks of bits and of reading.
-/
namespace Go.E1
open Go Go.Proofs Go.M
set_option linter.unusedSimpArgs false

def kAt (j : Nat) : Nat := 128 / 2 ^ j
theorem chk_letter : (List.range 256).all (fun c => (List.range 8).all fun j => decide (IntKind.u8.wrap (IntKind.i64.wrap (48 + (IntKind.i64.wrap ((c : Int).tdiv (kAt j : Int))).tmod 2)) = (if c.testBit (7 - j) then 49 else 48))) = true := by kernel_rfl
theorem chk_k : (List.range 8).all (fun j => decide (IntKind.i64.wrap ((kAt j : Int).tdiv 2) = (kAt (j + 1) : Int) ∧ 0 < kAt j)) = true := by kernel_rfl
def letter (b : Bool) : UInt8 := if b then 49 else 48
theorem lets_append (a b : List Bool) : lets (a ++ b) = lets a ++ lets b := by simp [lets]
theorem bits_get (c : UInt8) {j : Nat} (hj : j < 8) : (bits8 c)[j]? = some (c.toNat.testBit (7 - j)) := by
  match j, hj with
  | 0, _ | 1, _ | 2, _ | 3, _ | 4, _ | 5, _ | 6, _ | 7, _ => rfl
theorem letter_eq (c : UInt8) {j : Nat} (hj : j < 8) : IntKind.u8.wrap (IntKind.i64.wrap (48 + (IntKind.i64.wrap ((c.toNat : Int).tdiv (kAt j : Int))).tmod 2)) = ((letter (c.toNat.testBit (7 - j))).toNat : Int) := by
  have := of_decide_eq_true (List.all_eq_true.1 (List.all_eq_true.1 chk_letter c.toNat (List.mem_range.2 c.toNat_lt)) j (List.mem_range.2 hj))
  rw [this]
  cases c.toNat.testBit (7 - j) <;> rfl


end Go.E1

/-
  The document's code: the walk of reading by codes.
-/
namespace Go.M
open Go.E1
noncomputable def begB (rest : List Bool) (x : Nat) : Bool := decide (lenOf x ≤ rest.length) && ((lets rest).take (lenOf x) == codeBits x)
theorem begB_iff {x : Nat} (hx : x < 257) (rest : List Bool) : begB rest x = true ↔ Beg x rest := by
  rw [beg_iff hx]
  simp [begB]
noncomputable def fndB (rest : List Bool) : Nat → Int
  | 0 => -1
  | x + 1 => if begB rest x then x else fndB rest x
theorem fnd_spec (rest : List Bool) : ∀ n, n ≤ 257 → (fndB rest n = -1 ∧ ∀ x, x < n → ¬ Beg x rest) ∨ ∃ x : Nat, x < n ∧ Beg x rest ∧ fndB rest n = x
  | 0, _ => .inl ⟨rfl, fun x hx => by omega⟩
  | n + 1, hn => by
    simp only [fndB]
    cases hb : begB rest n with
    | true => exact .inr ⟨n, by omega, (begB_iff (by omega) rest).1 hb, by simp⟩
    | false =>
      have hnb : ¬ Beg n rest := fun h => by rw [(begB_iff (by omega) rest).2 h] at hb; cases hb
      rcases fnd_spec rest n (by omega) with ⟨h1, h2⟩ | ⟨x, h1, h2, h3⟩
      · refine .inl ⟨by simpa using h1, fun x hx => ?_⟩
        rcases Nat.lt_succ_iff_lt_or_eq.1 hx with q | rfl
        · exact h2 x q
        · exact hnb
      · exact .inr ⟨x, by omega, h2, by simpa using h3⟩
end Go.M

namespace Go.E1
open Go Go.Proofs Go.M
set_option linter.unusedSimpArgs false

theorem x_substr {q : EqF} {h : LHeap} {l : Bytes} {i j : Nat} {k k' : IntKind} (hij : i ≤ j) (hj : j ≤ l.length) : lexec q (.sliceStr (.string (toBA l)) (some (.int k (i : Nat))) (some (.int k' (j : Nat)))) h = some (.string (toBA ((l.drop i).take (j - i))), h) := by
  have e : (toBA l).extract i j = toBA ((l.drop i).take (j - i)) := by
    apply ByteArray.ext
    rw [ByteArray.data_extract]
    simp [toBA]
  simp only [lexec, lo1]
  simp [hij, hj, e, toBA_size]

theorem codeAt {x : Nat} (hx : x < 257) : (strs codeAll.2)[x]? = some (.string (toBA (codeBits x))) := by
  rw [codes_all]
  simp [strs, hx]

end Go.E1

/-
  The code, written: what it reckons, in plain Lean.
-/
namespace Go.M
open Go.E1

def nbits : Nat → Nat → List Bool
  | 0, _ => []
  | k + 1, c => c.testBit k :: nbits k c
theorem nbits_len : ∀ (k c : Nat), (nbits k c).length = k
  | 0, _ => rfl
  | k + 1, c => by simp [nbits, nbits_len k c]
theorem letters_nbits : ∀ (k c : Nat), letters k c = lets (nbits k c)
  | 0, _ => rfl
  | k + 1, c => by
    simp only [letters, nbits, letters_nbits k c]
    cases c.testBit k <;> rfl
theorem val_base : ∀ (bs : List Bool) (a : Nat), val a bs = a * 2 ^ bs.length + val 0 bs
  | [], a => by simp [val]
  | b :: bs, a => by
    rw [val_cons, val_cons, val_base bs (2 * a + b.toNat), val_base bs (2 * 0 + b.toNat), List.length_cons, Nat.pow_succ, Nat.add_mul, Nat.add_mul, Nat.mul_zero, Nat.zero_mul, Nat.zero_add, Nat.mul_comm 2 a, Nat.mul_assoc, Nat.mul_comm 2, Nat.add_assoc]
theorem val_nbits (k c : Nat) : val 0 (nbits k c) = c % 2 ^ k := by
  have h1 := letters_val (nbits k c)
  rw [nbits_len, ← letters_nbits] at h1
  have h2 : val 0 (nbits k c) < 2 ^ k := by
    have := val_lt (nbits k c) 0
    rwa [nbits_len, Nat.zero_add, Nat.one_mul] at this
  exact letters_inj k _ _ h2 (Nat.mod_lt _ (Nat.two_pow_pos k)) (h1.trans (letters_mod k c (c % 2 ^ k) (by simp)))

theorem val_take8 {bs : List Bool} (k : Nat) (_hk : k ≤ bs.length) : val 0 bs / 2 ^ (bs.length - k) = val 0 (bs.take k) := by
  have h := val_shift (bs.drop k) (val 0 (bs.take k))
  rw [← val_append, List.take_append_drop, List.length_drop] at h
  exact h
theorem val_drop8 {bs : List Bool} (k : Nat) (_hk : k ≤ bs.length) : val 0 bs % 2 ^ (bs.length - k) = val 0 (bs.drop k) := by
  have h := val_mod (bs.drop k) (val 0 (bs.take k))
  rw [← val_append, List.take_append_drop, List.length_drop] at h
  exact h

/-- Eight bits each a byte. -/
def pack : List Bool → Bytes
  | a :: b :: c :: d :: e :: f :: g :: h :: r => UInt8.ofNat (val 0 [a, b, c, d, e, f, g, h]) :: pack r
  | _ => []
theorem pack_eight {bs r : List Bool} (h : bs.length = 8) : pack (bs ++ r) = UInt8.ofNat (val 0 bs) :: pack r := by
  match bs, h with
  | [_, _, _, _, _, _, _, _], _ => rfl
theorem pack_append : ∀ (n : Nat) (a b : List Bool), a.length = 8 * n → pack (a ++ b) = pack a ++ pack b
  | 0, a, b, h => by
    obtain rfl : a = [] := List.length_eq_zero_iff.1 (by omega)
    rfl
  | n + 1, a, b, h => by
    have h1 : a = a.take 8 ++ a.drop 8 := (List.take_append_drop 8 a).symm
    have h2 : (a.take 8).length = 8 := by rw [List.length_take]; omega
    rw [h1, List.append_assoc, pack_eight h2, pack_eight h2, pack_append n (a.drop 8) b (by rw [List.length_drop]; omega), List.cons_append]
theorem pack_len : ∀ (n : Nat) (a : List Bool), a.length = 8 * n → (pack a).length = n
  | 0, a, h => by
    obtain rfl : a = [] := List.length_eq_zero_iff.1 (by omega)
    rfl
  | n + 1, a, h => by
    have h1 : a = a.take 8 ++ a.drop 8 := (List.take_append_drop 8 a).symm
    have h2 : (a.take 8).length = 8 := by rw [List.length_take]; omega
    rw [h1, pack_eight h2, List.length_cons, pack_len n (a.drop 8) (by rw [List.length_drop]; omega)]

noncomputable def encBits (l : Bytes) : List Bool := l.flatMap fun c => nbits (lenOf c.toNat) (codeOf c.toNat)
def padBits (bs : List Bool) : List Bool := bs ++ List.replicate ((8 - bs.length % 8) % 8) true
noncomputable def huffEnc (l : Bytes) : Bytes := pack (padBits (encBits l))
theorem encBits_append (a b : Bytes) : encBits (a ++ b) = encBits a ++ encBits b := by simp [encBits]
theorem encBits_one (c : UInt8) : encBits [c] = nbits (lenOf c.toNat) (codeOf c.toNat) := by simp [encBits]
theorem encBits_len : ∀ l : Bytes, (encBits l).length ≤ 30 * l.length
  | [] => Nat.le_refl _
  | c :: l => by
    have h1 := encBits_append [c] l
    rw [List.singleton_append] at h1
    have h2 := encBits_len l
    have h3 := (sym_of (x := c.toNat) (by have := c.toNat_lt; omega)).2.2.2
    rw [h1, encBits_one, List.length_append, nbits_len, List.length_cons]; omega
theorem padBits_len (bs : List Bool) : (padBits bs).length = 8 * ((bs.length + 7) / 8) := by
  unfold padBits
  rw [List.length_append, List.length_replicate]; omega
theorem huffEnc_len (l : Bytes) : (huffEnc l).length = ((encBits l).length + 7) / 8 := pack_len _ _ (padBits_len _)
theorem val_ones : ∀ k : Nat, val 0 (List.replicate k true) = 2 ^ k - 1
  | 0 => rfl
  | k + 1 => by
    rw [List.replicate_succ, val_cons, val_base, val_ones k, List.length_replicate, Nat.pow_succ]
    have := Nat.two_pow_pos k
    simp
    omega

/-- The bits of bytes that were packed. -/
theorem bits8_val {bs : List Bool} (h : bs.length = 8) : bits8 (UInt8.ofNat (val 0 bs)) = bs := by
  match bs, h with
  | [a, b, c, d, e, f, g, i], _ => cases a <;> cases b <;> cases c <;> cases d <;> cases e <;> cases f <;> cases g <;> cases i <;> rfl
theorem bitsOf_pack : ∀ (n : Nat) (a : List Bool), a.length = 8 * n → bitsOf (pack a) = a
  | 0, a, h => by
    obtain rfl : a = [] := List.length_eq_zero_iff.1 (by omega)
    rfl
  | n + 1, a, h => by
    have h1 : a = a.take 8 ++ a.drop 8 := (List.take_append_drop 8 a).symm
    have h2 : (a.take 8).length = 8 := by rw [List.length_take]; omega
    conv => lhs; rw [h1, pack_eight h2, bitsOf_cons, bits8_val h2, bitsOf_pack n (a.drop 8) (by rw [List.length_drop]; omega)]
    exact h1.symm

theorem chk_ones : (List.range 8).all (fun k => (List.range 257).all fun x => decide (k < lenOf x) || decide (val 0 ((List.replicate k true).take (lenOf x)) ≠ codeOf x)) = true := by kernel_rfl
theorem ones_free {k x : Nat} (hk : k < 8) (hx : x < 257) : ¬ Beg x (List.replicate k true) := by
  rintro ⟨h1, h2⟩
  have := List.all_eq_true.1 (List.all_eq_true.1 chk_ones k (List.mem_range.2 hk)) x (List.mem_range.2 hx)
  rw [List.length_replicate] at h1
  simp only [Bool.or_eq_true, decide_eq_true_eq] at this
  rcases this with h | h
  · omega
  · exact h h2

/-- What is written is read. -/
theorem huffGo_enc (k : Nat) (hk : k < 8) : ∀ (l out : Bytes), huffGo (encBits l ++ List.replicate k true) 0 0 true out = .ok (out ++ l)
  | [], out => by
    have h : encBits [] = [] := rfl
    rw [h, List.nil_append, go_end (fun x hx => ones_free hk hx), if_neg (by simp; omega), List.append_nil]
  | c :: l, out => by
    have hc : c.toNat < 257 := by have := c.toNat_lt; omega
    have h1 := encBits_append [c] l
    rw [List.singleton_append, encBits_one] at h1
    have hs := sym_of hc
    have hb : Beg c.toNat (encBits (c :: l) ++ List.replicate k true) := by
      refine ⟨by rw [h1, List.length_append, List.length_append, nbits_len]; omega, ?_⟩
      rw [h1, List.append_assoc]
      have : (nbits (lenOf c.toNat) (codeOf c.toNat)).length = lenOf c.toNat := nbits_len _ _
      rw [List.take_append_of_le_length (by omega), List.take_of_length_le (by omega), val_nbits, Nat.mod_eq_of_lt hs.2.1]
    rw [go_beg hc hb, if_neg (by have := c.toNat_lt; omega), h1, List.append_assoc, List.drop_left' (nbits_len _ _), huffGo_enc k hk l]
    simp
theorem huffDec_enc (l : Bytes) : huffDec (huffEnc l) = .ok l := by
  unfold huffDec huffEnc
  rw [bitsOf_pack _ _ (padBits_len _), padBits, huffGo_enc _ (by omega)]
  simp
end Go.M
