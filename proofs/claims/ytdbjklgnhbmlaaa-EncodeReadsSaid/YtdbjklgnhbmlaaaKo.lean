/-
  Texts joined: R8A, Lw8A, Lw8B.
-/
import Derived.Test.YtdbjklgnhbmlaaaKn
import Derived.Test.YtdbjklgnhbmlaaaKe
/-
  The document's forms: the walks.
-/
namespace Go.E1
open Go Go.Proofs Go.M
set_option linter.unusedSimpArgs false

theorem sR03E {h : LHeap} {n bits mark : Nat} (hn : n ≤ 2147483647) (hb1 : 1 ≤ bits) (hb : bits ≤ 7) (hm : mark ≤ 2 ^ (8 - bits) - 1) :
    LCalls EC 61 [.int .i64 (n : Int), .int .i64 (bits : Int), .int .i64 (mark : Int)] h fun u h' => u = .string (toBA (pfxEnc n bits mark)) ∧ Ext h h' := by
  refine LCalls.enter (lf := lf61) rfl rfl (by simp [lf61]) ?_
  have q1 : (0 : Int) ≤ (bits : Int) := by omega
  have q2 : (bits : Int) ≤ 8 := by omega
  have hp8 : 2 ^ (8 - bits) * 2 ^ bits = 256 := by rw [← Nat.pow_add, show 8 - bits + bits = 8 by omega]
  have hpb := Nat.two_pow_pos bits
  have hp8p := Nat.two_pow_pos (8 - bits)
  have hmb : mark * 2 ^ bits + 2 ^ bits ≤ 256 := by
    rw [← hp8, ← Nat.succ_mul]
    exact Nat.mul_le_mul_right _ (by omega)
  have w1 : IntKind.i64.wrap (((2 ^ bits : Nat) : Int) - 1) = ((2 ^ bits - 1 : Nat) : Int) := by rw [IntWalk.i64_in _ (by omega)]; omega
  have w2 : IntKind.i64.wrap ((mark : Int) * ((2 ^ bits : Nat) : Int)) = ((mark * 2 ^ bits : Nat) : Int) := by
    rw [← Int.natCast_mul, IntWalk.i64_in _ (by omega)]
  simp only [go_sem, lf61, ↓reduceIte, q1, q2, w1]
  by_cases hs : n < 2 ^ bits - 1
  · have c1 : (n : Int) < ((2 ^ bits - 1 : Nat) : Int) := by omega
    have w3 : IntKind.i64.wrap (((mark * 2 ^ bits : Nat) : Int) + (n : Int)) = ((mark * 2 ^ bits + n : Nat) : Int) := by rw [IntWalk.i64_in _ (by omega)]; omega
    have o2 : IntKind.u8.wrap ((mark * 2 ^ bits + n : Nat) : Int) = ((UInt8.ofNat (mark * 2 ^ bits + n)).toNat : Int) := u8_of (by omega)
    have e : pfxEnc n bits mark = [UInt8.ofNat (mark * 2 ^ bits + n)] := if_pos hs
    rw [e]
    generalize UInt8.ofNat (mark * 2 ^ bits + n) = c at *
    have e1 := one_str (q := EC.q) (h := h) c
    simp only [go_sem, ↓reduceIte, q1, q2, c1, w2, w3, o2, e1]
    exact Ext.push _ _
  · have c1 : ¬ (n : Int) < ((2 ^ bits - 1 : Nat) : Int) := by omega
    have w3 : IntKind.i64.wrap (((mark * 2 ^ bits : Nat) : Int) + ((2 ^ bits - 1 : Nat) : Int)) = ((mark * 2 ^ bits + (2 ^ bits - 1) : Nat) : Int) := by rw [IntWalk.i64_in _ (by omega)]; omega
    have o2 : IntKind.u8.wrap ((mark * 2 ^ bits + (2 ^ bits - 1) : Nat) : Int) = ((UInt8.ofNat (mark * 2 ^ bits + (2 ^ bits - 1))).toNat : Int) := u8_of (by omega)
    have e : pfxEnc n bits mark = UInt8.ofNat (mark * 2 ^ bits + (2 ^ bits - 1)) :: restGo 10 (n - (2 ^ bits - 1)) := if_neg hs
    have w4 : IntKind.i64.wrap ((n : Int) - ((2 ^ bits - 1 : Nat) : Int)) = ((n - (2 ^ bits - 1) : Nat) : Int) := by rw [IntWalk.i64_in _ (by omega)]; omega
    generalize UInt8.ofNat (mark * 2 ^ bits + (2 ^ bits - 1)) = c at *
    generalize htg : pfxEnc n bits mark = tg at *
    simp only [go_sem, ↓reduceIte, q1, q2, c1, w2, w3, o2, w4]
    refine MC.cutb (fun fr hh => ∃ v acc r tl, fr = (8, v) :: (9, .int .i64 ((r : Nat) : Int)) :: tl ∧ OutAt hh h.size v acc ∧ Low h.size h hh ∧ r < 128 ∧ acc ++ [UInt8.ofNat r] = tg ∧ acc.length < 1000) ?_ ?_
    · refine MC.loop (fun m fr hh => ∃ k v acc r, m = r ∧ fr = [(8, v), (9, .int .i64 ((r : Nat) : Int))] ∧ OutAt hh h.size v acc ∧ Low h.size h hh ∧ acc ++ restGo k r = tg ∧ r < 2 ^ (7 * k) ∧ acc.length + k < 1000 ∧ r ≤ 2147483647 ∧ 1 ≤ k) (n - (2 ^ bits - 1)) ⟨10, _, [c], _, rfl, rfl, OutAt.one c (Nat.le_refl _), ⟨by simp, fun i hi => by simp [show i ≠ h.size by omega]⟩, by rw [e]; rfl, Nat.lt_of_le_of_lt (Nat.sub_le _ _) (Nat.lt_of_le_of_lt hn (by decide)), by simp, by omega, by omega⟩ ?_
      rintro m fr hh J ⟨k, v, acc, r, rfl, rfl, O, X, hk, hr, hl, hr2, hk1⟩ hJ
      cases k with
      | zero => omega
      | succ k =>
        rw [restGo_step] at hk
        by_cases h128 : m < 128
        · have c2 : ¬ (128 : Int) ≤ (m : Int) := by omega
          rw [if_pos h128] at hk
          simp only [go_sem, ↓reduceIte, c2]
          exact ⟨v, acc, m, _, rfl, O, X, h128, hk, by omega⟩
        · have c2 : (128 : Int) ≤ (m : Int) := by omega
          rw [if_neg h128] at hk
          have hm2 : ((m : Int)).tmod 128 = ((m % 128 : Nat) : Int) := rfl
          have o3 : IntKind.i64.wrap (128 + ((m % 128 : Nat) : Int)) = ((128 + m % 128 : Nat) : Int) := by rw [IntWalk.i64_in _ (by omega)]; omega
          have o4 : IntKind.u8.wrap ((128 + m % 128 : Nat) : Int) = ((UInt8.ofNat (128 + m % 128)).toNat : Int) := u8_of (by omega)
          have o5 : IntKind.i64.wrap ((m : Int).tdiv 128) = ((m / 128 : Nat) : Int) := by
            have : (m : Int).tdiv 128 = ((m / 128 : Nat) : Int) := rfl
            rw [this, IntWalk.i64_in _ (by omega)]
          obtain ⟨v', h', ha, O', X'⟩ := out_append (q := EC.q) O X.size (UInt8.ofNat (128 + m % 128)) (by omega)
          simp only [go_sem, ↓reduceIte, c2, hm2, o3, o4, ha, o5]
          have hk0 : 1 ≤ k := by
            rcases Nat.eq_zero_or_pos k with q | q
            · subst q; simp at hr; omega
            · exact q
          refine hJ (m / 128) _ _ (by omega) ⟨k, v', acc ++ [UInt8.ofNat (128 + m % 128)], m / 128, rfl, rfl, O', X.trans X', by simpa using hk, ?_, by simp; omega, by omega, hk0⟩
          have : 2 ^ (7 * (k + 1)) = 2 ^ (7 * k) * 128 := by rw [Nat.mul_add, Nat.pow_add]
          omega
    · rintro fr hh ⟨v, acc, r, tl, rfl, O, X, hr, hk, hl⟩
      have o4 : IntKind.u8.wrap ((r : Nat) : Int) = ((UInt8.ofNat r).toNat : Int) := u8_of (by omega)
      obtain ⟨v', h', ha, O', X'⟩ := out_append (q := EC.q) O X.size (UInt8.ofNat r) (by omega)
      have e1 := out_str (q := EC.q) O'
      simp only [go_sem, ↓reduceIte, o4, ha, e1, hk]
      exact (X.trans X').ext (Nat.le_refl _)

set_option maxRecDepth 20000 in
theorem sR02T {h : LHeap} {l : Bytes} (hl : l.length < 100000) :
    LCalls EC 96 [.string (toBA l)] h fun u h' => u = .string (toBA (lets (padBits (encBits l)))) ∧ Ext h h' := by
  refine LCalls.enter (lf := lf96) rfl rfl (by simp [lf96]) ?_
  simp only [lf96]
  rw [MC_seq]
  refine MC.cut (fun fr hh => fr = [(0, .string (toBA l))] ∧ hh = h) (by simp only [go_sem, ↓reduceIte]) ?_
  rintro fr hh ⟨rfl, rfl⟩
  rw [MC_seq]
  refine MC.cut (fun fr hx => ∃ b, fr = [(0, .string (toBA l)), (3, .pointer (some ⟨b, 0, none⟩))] ∧ hx.get b = some (.cells (strs codeAll.2) true true) ∧ b < hx.size ∧ Ext hh hx) ?_ ?_
  · simp only [go_sem, ↓reduceIte]
    refine MCall.by sCodes ?_
    rintro u h1 ⟨rfl, X1⟩
    have hl : (strs codeAll.2).length = 257 := by rw [strs_len]; exact codeAll_len
    have h3 : oneCells (strs codeAll.2) = true := by
      simp only [oneCells, strs, List.all_map]
      exact List.all_eq_true.2 fun x _ => rfl
    generalize strs codeAll.2 = cs at *
    simp only [go_sem, ↓reduceIte, hl, h3]
    exact ⟨h1.size, rfl, by simp, by simp, X1.trans ((Ext.push _ _).set (Nat.le_refl _) _)⟩
  rintro fr h1 ⟨b, rfl, gb, lb, X1⟩
  have hcl := codeAll_len
  simp only [go_sem, ↓reduceIte]
  refine MC.cutb (fun fr hx => ∃ tl, fr = (0, .string (toBA l)) :: (3, .pointer (some ⟨b, 0, none⟩)) :: (4, .string (toBA (lets (encBits l)))) :: tl ∧ hx = h1) ?_ ?_
  · refine MC.loop (fun m fr hx => ∃ i, m = l.length - i ∧ i ≤ l.length ∧ fr = [(0, .string (toBA l)), (3, .pointer (some ⟨b, 0, none⟩)), (4, .string (toBA (lets (encBits (l.take i))))), (5, .int .i64 (i : Int))] ∧ hx = h1) l.length ⟨0, rfl, Nat.zero_le _, rfl, rfl⟩ ?_
    rintro m fr hx J ⟨i, rfl, hi, rfl, rfl⟩ hJ
    by_cases hlt : i < l.length
    · obtain ⟨c, hc⟩ : ∃ c, l[i]? = some c := ⟨l[i], by simp [hlt]⟩
      have c0 : (0 : Int) ≤ (i : Int) := by omega
      have c1 : (i : Int) < (l.length : Int) := by omega
      have hcu := c.toNat_lt
      have w1 : IntKind.i64.wrap (c.toNat : Int) = (c.toNat : Int) := by rw [IntWalk.i64_in _ (by omega)]
      have d0 : (0 : Int) ≤ (c.toNat : Int) := by omega
      have d1 : (c.toNat : Int) < 257 := by omega
      have hca := codeAt (x := c.toNat) (by omega)
      have htk : encBits (l.take (i + 1)) = encBits (l.take i) ++ nbits (lenOf c.toNat) (codeOf c.toNat) := by
        rw [List.take_add_one, hc, encBits_append]
        simp [encBits_one]
      have hcb : codeBits c.toNat = lets (nbits (lenOf c.toNat) (codeOf c.toNat)) := by rw [codeBits_eq, letters_nbits]
      have happ : toBA (lets (encBits (l.take i))) ++ toBA (codeBits c.toNat) = toBA (lets (encBits (l.take (i + 1)))) := by rw [toBA_append, hcb, ← lets_append, htk]
      have hlen := encBits_len (l.take i)
      rw [List.length_take] at hlen
      have hsy := sym_of (x := c.toNat) (by omega)
      have hlc : (codeBits c.toNat).length = lenOf c.toNat := letters_len _ _
      have hle : (lets (encBits (l.take i))).length + (codeBits c.toNat).length ≤ 4611686018427387904 := by rw [lets_len, hlc]; omega
      have w3 : IntKind.i64.wrap ((i : Int) + 1) = ((i + 1 : Nat) : Int) := by rw [IntWalk.i64_in _ (by omega)]; omega
      simp only [go_sem, ↓reduceIte, c0, c1, hc, w1, d0, d1, gb, hca, hle, happ, w3]
      exact hJ (l.length - (i + 1)) _ _ (by omega) ⟨i + 1, rfl, by omega, rfl, rfl⟩
    · have c1 : ¬ (i : Int) < (l.length : Int) := by omega
      obtain rfl : i = l.length := by omega
      simp only [go_sem, ↓reduceIte, c1]
      rw [List.take_length]
      exact ⟨_, rfl⟩
  · rintro fr hx ⟨tl, rfl, rfl⟩
    simp only [go_sem, ↓reduceIte]
    have hlen := encBits_len l
    generalize hE : encBits l = E at *
    refine MC.cutb (fun fr hh' => ∃ tl, fr = (4, .string (toBA (lets (padBits E)))) :: tl ∧ hh' = hx) ?_ ?_
    · refine MC.loop (fun m fr hh' => ∃ j, m = (8 - E.length % 8) % 8 - j ∧ j ≤ (8 - E.length % 8) % 8 ∧ (∃ hd tl, (hd = [] ∨ hd = [(0, .string (toBA l)), (3, .pointer (some ⟨b, 0, none⟩))]) ∧ fr = hd ++ (4, .string (toBA (lets (E ++ List.replicate j true)))) :: tl) ∧ hh' = hx) ((8 - E.length % 8) % 8) ⟨0, rfl, Nat.zero_le _, ⟨[(0, .string (toBA l)), (3, .pointer (some ⟨b, 0, none⟩))], tl, .inr rfl, by rw [List.replicate_zero, List.append_nil]; rfl⟩, rfl⟩ ?_
      rintro m fr hh' J ⟨j, rfl, hj, ⟨hd, tl, hhd, rfl⟩, rfl⟩ hJ
      have hll : (lets (E ++ List.replicate j true)).length = E.length + j := by rw [lets_len]; simp
      have w1 : (((E.length + j : Nat) : Int)).tmod 8 = (((E.length + j) % 8 : Nat) : Int) := rfl
      by_cases hend : j < (8 - E.length % 8) % 8
      · have c1 : ((((E.length + j) % 8 : Nat) : Int) != 0) = true := by simp; omega
        have happ : toBA (lets (E ++ List.replicate j true)) ++ ⟨#[49]⟩ = toBA (lets (E ++ List.replicate (j + 1) true)) := by
          have := toBA_append (lets (E ++ List.replicate j true)) [49]
          rw [show ([49] : Bytes) = lets [true] from rfl, ← lets_append, List.append_assoc, ← List.replicate_succ'] at this
          exact this
        have hle : E.length + j ≤ 4611686018427387903 := by omega
        rcases hhd with rfl | rfl
        all_goals
          simp only [go_sem, ↓reduceIte, List.nil_append, List.cons_append, hll, w1, c1, hle, happ]
          exact hJ _ _ _ (by omega) ⟨j + 1, rfl, by omega, ⟨[], _, .inl rfl, rfl⟩, rfl⟩
      · have c1 : ((((E.length + j) % 8 : Nat) : Int) != 0) = false := by simp; omega
        obtain rfl : j = (8 - E.length % 8) % 8 := by omega
        rcases hhd with rfl | rfl
        all_goals
          simp only [go_sem, ↓reduceIte, List.nil_append, List.cons_append, hll, w1, c1]
          exact ⟨_, rfl⟩
    · rintro fr hh' ⟨tl, rfl, rfl⟩
      simp only [go_sem, ↓reduceIte]
      exact X1

theorem lets_get {bs : List Bool} {i : Nat} {b : Bool} (h : bs[i]? = some b) : (lets bs)[i]? = some (letter b) := by simp [lets, h, letter]
theorem letter_num (b : Bool) : IntKind.i64.wrap (IntKind.u8.wrap (((letter b).toNat : Int) - 48)) = ((b.toNat : Nat) : Int) := by cases b <;> rfl

theorem sR04b {h : LHeap} {bs : List Bool} {q : Nat} (hq : bs.length = 8 * q) (hl : bs.length < 1000000) :
    LCalls EC 95 [.string (toBA (lets bs))] h fun u h' => u = .string (toBA (pack bs)) ∧ Ext h h' := by
  refine LCalls.enter (lf := lf95) rfl rfl (by simp [lf95]) ?_
  have hll : (lets bs).length = bs.length := lets_len bs
  simp only [go_sem, lf95, ↓reduceIte]
  refine MC.cutb (fun fr hh => ∃ v tl, fr = (0, .string (toBA (lets bs))) :: (3, v) :: tl ∧ OutAt hh h.size v (pack bs) ∧ Low h.size h hh) ?_ ?_
  · refine MC.loop (fun m fr hh => ∃ i v, m = q - i ∧ i ≤ q ∧ fr = [(0, .string (toBA (lets bs))), (3, v), (4, .int .i64 ((8 * i : Nat) : Int))] ∧ OutAt hh h.size v (pack (bs.take (8 * i))) ∧ Low h.size h hh) q ⟨0, _, rfl, Nat.zero_le _, rfl, .inl ⟨rfl, rfl⟩, Low.refl _ _⟩ ?_
    rintro m fr hh J ⟨i, v, rfl, hi, rfl, O, X⟩ hJ
    have w1 : IntKind.i64.wrap (((8 * i : Nat) : Int) + 8) = ((8 * (i + 1) : Nat) : Int) := by rw [IntWalk.i64_in _ (by omega)]; omega
    by_cases hlt : i < q
    · have c1 : ((8 * (i + 1) : Nat) : Int) ≤ (bs.length : Int) := by omega
      have htk : bs.take (8 * (i + 1)) = bs.take (8 * i) ++ (bs.drop (8 * i)).take 8 := by rw [Nat.mul_add, List.take_add]
      have h8 : ((bs.drop (8 * i)).take 8).length = 8 := by rw [List.length_take, List.length_drop]; omega
      simp only [go_sem, ↓reduceIte, hll, w1, c1]
      refine MC.cutb (fun fr hh' => ∃ tl, fr = (0, .string (toBA (lets bs))) :: (3, v) :: (4, .int .i64 ((8 * i : Nat) : Int)) :: (5, .int .i64 ((val 0 ((bs.drop (8 * i)).take 8) : Nat) : Int)) :: tl ∧ hh' = hh) ?_ ?_
      · refine MC.loop (fun m fr hh' => ∃ k, m = 8 - k ∧ k ≤ 8 ∧ fr = [(0, .string (toBA (lets bs))), (3, v), (4, .int .i64 ((8 * i : Nat) : Int)), (5, .int .i64 ((val 0 ((bs.drop (8 * i)).take k) : Nat) : Int)), (6, .int .i64 (k : Int))] ∧ hh' = hh) 8 ⟨0, rfl, by omega, rfl, rfl⟩ ?_
        rintro m fr hh' J2 ⟨k, rfl, hk, rfl, rfl⟩ hJ2
        by_cases hk8 : k < 8
        · obtain ⟨b, hb⟩ : ∃ b, bs[8 * i + k]? = some b := ⟨bs[8 * i + k], by simp [show 8 * i + k < bs.length by omega]⟩
          have d1 : (k : Int) < 8 := by omega
          have w2 : IntKind.i64.wrap (((8 * i : Nat) : Int) + (k : Int)) = ((8 * i + k : Nat) : Int) := by rw [IntWalk.i64_in _ (by omega)]; omega
          have d0 : (0 : Int) ≤ ((8 * i + k : Nat) : Int) := by omega
          have hg := lets_get hb
          have hln := letter_num b
          have hkt : (bs.drop (8 * i)).take (k + 1) = (bs.drop (8 * i)).take k ++ [b] := by rw [List.take_add_one, List.getElem?_drop, hb]; rfl
          have hvl := val_lt ((bs.drop (8 * i)).take k) 0
          have hpw : 2 ^ ((bs.drop (8 * i)).take k).length ≤ 2 ^ 8 := Nat.pow_le_pow_right (by omega) (by rw [List.length_take]; omega)
          have hv1 : val 0 ((bs.drop (8 * i)).take (k + 1)) = 2 * val 0 ((bs.drop (8 * i)).take k) + b.toNat := by rw [hkt, val_append]; rfl
          have hbn : b.toNat ≤ 1 := by cases b <;> decide
          have w4 : IntKind.i64.wrap (((val 0 ((bs.drop (8 * i)).take k) : Nat) : Int) * 2) = ((val 0 ((bs.drop (8 * i)).take k) * 2 : Nat) : Int) := by rw [IntWalk.i64_in _ (by omega)]; omega
          have w5 : IntKind.i64.wrap (((val 0 ((bs.drop (8 * i)).take k) * 2 : Nat) : Int) + ((b.toNat : Nat) : Int)) = ((val 0 ((bs.drop (8 * i)).take (k + 1)) : Nat) : Int) := by rw [IntWalk.i64_in _ (by omega), hv1]; omega
          have w6 : IntKind.i64.wrap ((k : Int) + 1) = ((k + 1 : Nat) : Int) := by rw [IntWalk.i64_in _ (by omega)]; omega
          simp only [go_sem, ↓reduceIte, d1, w2, d0, hg, hln, w4, w5, w6]
          exact hJ2 (8 - (k + 1)) _ _ (by omega) ⟨k + 1, rfl, by omega, rfl, rfl⟩
        · have d1 : ¬ (k : Int) < 8 := by omega
          obtain rfl : k = 8 := by omega
          simp only [go_sem, ↓reduceIte, d1]
          exact ⟨_, rfl⟩
      · rintro fr hh' ⟨tl, rfl, rfl⟩
        have hvl := val_lt ((bs.drop (8 * i)).take 8) 0
        rw [h8] at hvl
        have o4 : IntKind.u8.wrap ((val 0 ((bs.drop (8 * i)).take 8) : Nat) : Int) = ((UInt8.ofNat (val 0 ((bs.drop (8 * i)).take 8))).toNat : Int) := u8_of (by omega)
        have hpl := pack_len i (bs.take (8 * i)) (by rw [List.length_take]; omega)
        obtain ⟨v', h', ha, O', X'⟩ := out_append (q := EC.q) O X.size (UInt8.ofNat (val 0 ((bs.drop (8 * i)).take 8))) (by omega)
        simp only [go_sem, ↓reduceIte, o4, ha, w1]
        refine hJ (q - (i + 1)) _ _ (by omega) ⟨i + 1, v', rfl, by omega, rfl, ?_, X.trans X'⟩
        rw [htk, pack_append i _ _ (by rw [List.length_take]; omega), show (bs.drop (8 * i)).take 8 = (bs.drop (8 * i)).take 8 ++ [] by simp, pack_eight h8]
        exact O'
    · have c1 : ¬ ((8 * (i + 1) : Nat) : Int) ≤ (bs.length : Int) := by omega
      obtain rfl : i = q := by omega
      simp only [go_sem, ↓reduceIte, hll, w1, c1]
      rw [List.take_of_length_le (by omega)] at O
      exact ⟨v, _, rfl, O, X⟩
  · rintro fr hh ⟨v, tl, rfl, O, X⟩
    have e1 := out_str (q := EC.q) O
    simp only [go_sem, ↓reduceIte, e1]
    exact X.ext (Nat.le_refl _)

theorem sR04E {h : LHeap} {s : Bytes} (hs : s.length ≤ 4096) (coded : Bool) :
    LCalls EC 84 [.string (toBA s), .int .i64 ((if coded = true then 1 else 0 : Nat) : Int)] h fun u h' => u = .string (toBA (litEnc coded s)) ∧ Ext h h' := by
  refine LCalls.enter (lf := lf84) rfl rfl (by simp [lf84]) ?_
  have hh := huffEnc_le s
  cases coded with
  | true =>
    have q0 : (((1 : Nat) : Int) == 1) = true := rfl
    have hE : huffEnc s = pack (padBits (encBits s)) := rfl
    have hle := encBits_len s
    have hpl := padBits_len (encBits s)
    simp only [go_sem, lf84, ↓reduceIte, q0]
    refine MCall.by (sR02T (by omega)) ?_
    rintro u h1 ⟨rfl, X1⟩
    simp only [go_sem, ↓reduceIte]
    refine MCall.by (sR04b hpl (by omega)) ?_
    rintro u h2 ⟨rfl, X2⟩
    rw [← hE]
    simp only [go_sem, ↓reduceIte]
    refine MCall.by (sR03E (n := (huffEnc s).length) (bits := 7) (mark := 1) (by omega) (by omega) (by omega) (by omega)) ?_
    rintro u h3 ⟨rfl, X3⟩
    have hp := (pfxEnc_len (huffEnc s).length 7 1).1
    have happ := toBA_append (pfxEnc (huffEnc s).length 7 1) (huffEnc s)
    have hsz : (pfxEnc (huffEnc s).length 7 1).length + (huffEnc s).length ≤ 4611686018427387904 := by omega
    simp only [go_sem, ↓reduceIte, happ, hsz]
    exact ⟨rfl, (X1.trans X2).trans X3⟩
  | false =>
    have q0 : (((0 : Nat) : Int) == 1) = false := rfl
    simp only [go_sem, lf84, ↓reduceIte, Bool.false_eq_true, q0]
    refine MCall.by (sR03E (n := s.length) (bits := 7) (mark := 0) (by omega) (by omega) (by omega) (by omega)) ?_
    rintro u h3 ⟨rfl, X3⟩
    have hp := (pfxEnc_len s.length 7 0).1
    have happ := toBA_append (pfxEnc s.length 7 0) s
    have hsz : (pfxEnc s.length 7 0).length + s.length ≤ 4611686018427387904 := by omega
    simp only [go_sem, ↓reduceIte, happ, hsz]
    exact ⟨rfl, X3⟩

theorem sR08S {h : LHeap} {s : Bytes} (hs : s.length ≤ 4096) :
    LCalls EC 63 [.string (toBA s)] h fun u h' => u = .string (toBA (litShort s)) ∧ Ext h h' := by
  refine LCalls.enter (lf := lf63) rfl rfl (by simp [lf63]) ?_
  simp only [go_sem, lf63, ↓reduceIte]
  refine MCall.by (sR04E hs false) ?_
  rintro u1 h1 ⟨rfl, X1⟩
  simp only [go_sem, ↓reduceIte]
  refine MCall.by (sR04E hs true) ?_
  rintro u2 h2 ⟨rfl, X2⟩
  by_cases hlt : (litEnc true s).length < (litEnc false s).length
  · have c1 : ((litEnc true s).length : Int) < ((litEnc false s).length : Int) := by omega
    have e : litShort s = litEnc true s := if_pos hlt
    rw [e]
    simp only [go_sem, ↓reduceIte, c1]
    exact X1.trans X2
  · have c1 : ¬ ((litEnc true s).length : Int) < ((litEnc false s).length : Int) := by omega
    have e : litShort s = litEnc false s := if_neg hlt
    rw [e]
    simp only [go_sem, ↓reduceIte, c1]
    exact X1.trans X2

theorem toBA_list (a : ByteArray) : toBA a.data.toList = a := rfl

theorem sR08L {h : LHeap} {x : Ln} (hn : x.f.1.size ≤ 4096) (hv : x.f.2.size ≤ 4096) :
    LCalls EC 37 [.string x.f.1, .string x.f.2, .int .i64 ((if x.never = true then 1 else 0 : Nat) : Int)] h fun u h' => u = .string (toBA (lineEnc x)) ∧ Ext h h' := by
  refine LCalls.enter (lf := lf37) rfl rfl (by simp [lf37]) ?_
  obtain ⟨⟨a, b⟩, nv⟩ := x
  simp only at hn hv
  have hfi := fieldIx_in a b
  have hni := nameIx_in a
  by_cases hx : 0 < fieldIx a b ∧ nv = false
  · have e : lineEnc ⟨(a, b), nv⟩ = pfxEnc (fieldIx a b).toNat 7 1 := if_pos hx
    obtain ⟨h0, rfl⟩ := hx
    obtain ⟨k, hk⟩ : ∃ k : Nat, fieldIx a b = k := ⟨(fieldIx a b).toNat, by omega⟩
    have q0 : (((0 : Nat) : Int) == 0) = true := rfl
    rw [e, hk, Int.toNat_natCast]
    simp only [go_sem, lf37, ↓reduceIte, Bool.false_eq_true, h0, q0]
    rw [hk]
    refine MCall.by (sR03E (n := k) (bits := 7) (mark := 1) (by omega) (by omega) (by omega) (by omega)) ?_
    rintro u h1 ⟨rfl, X⟩
    simp only [go_sem, ↓reduceIte]
    exact X
  · obtain ⟨k, hk⟩ : ∃ k : Nat, nameIx a = k := ⟨(nameIx a).toNat, by omega⟩
    have e : lineEnc ⟨(a, b), nv⟩ = pfxEnc k 4 (if nv = true then 1 else 0) ++ (if k = 0 then litShort a.data.toList else []) ++ litShort b.data.toList := by
      have e1 : lineEnc ⟨(a, b), nv⟩ = pfxEnc (nameIx a).toNat 4 (if nv = true then 1 else 0) ++ (if nameIx a = 0 then litShort a.data.toList else []) ++ litShort b.data.toList := if_neg hx
      rw [e1, hk, Int.toNat_natCast]
      congr 2
      by_cases q : k = 0
      · subst q; rfl
      · rw [if_neg q, if_neg (by omega)]
    rw [e]
    obtain ⟨mk, hmk0⟩ : ∃ mk : Nat, mk = (if nv = true then 1 else 0) := ⟨_, rfl⟩
    have hmk : mk ≤ 1 := by rw [hmk0]; split <;> omega
    rw [← hmk0]
    rcases Classical.em (0 < fieldIx a b) with h0 | h0
    all_goals
      first
        | have hnv : nv = true := (Bool.eq_false_or_eq_true nv).elim id fun h => absurd (And.intro h0 h) hx
          have q0 : ((mk : Int) == 0) = false := by rw [hmk0, if_pos hnv]; rfl
          simp only [go_sem, lf37, ↓reduceIte, h0, q0]
        | simp only [go_sem, lf37, ↓reduceIte, h0]
      rw [hk]
      refine MCall.by (sR03E (n := k) (bits := 4) (mark := mk) (by omega) (by omega) (by omega) (by omega)) ?_
      rintro u h2 ⟨rfl, X2⟩
      have hp := (pfxEnc_len k 4 mk).1
      have hla := litShort_len a.data.toList
      have hlb := litShort_len b.data.toList
      rw [ba_len] at hla hlb
      have hif : (if k = 0 then litShort a.data.toList else []).length ≤ 4 * a.size + 11 := by
        by_cases h2 : k = 0
        · rw [if_pos h2]; exact hla
        · rw [if_neg h2]; simp
      simp only [go_sem, ↓reduceIte]
      refine MB.cut (fun fr h' => ∃ hd tl, (hd = [] ∨ hd = [(0, .string a)]) ∧ fr = hd ++ (1, .string b) :: (10, .string (toBA (pfxEnc k 4 mk ++ (if k = 0 then litShort a.data.toList else [])))) :: tl ∧ Ext h h') ?_ ?_
      · by_cases hz : k = 0
        · have q1 : ((k : Int) == 0) = true := by simp [hz]
          rw [if_pos hz]
          simp only [go_sem, ↓reduceIte, q1]
          refine MCall.by (sR08S (s := a.data.toList) (by rw [ba_len]; exact hn)) ?_
          rintro u h4 ⟨rfl, X4⟩
          have happ := toBA_append (pfxEnc k 4 mk) (litShort a.data.toList)
          have hsz : (pfxEnc k 4 mk).length + (litShort a.data.toList).length ≤ 4611686018427387904 := by omega
          simp only [go_sem, ↓reduceIte, happ, hsz]
          exact ⟨[], _, .inl rfl, rfl, X2.trans X4⟩
        · have q1 : ((k : Int) == 0) = false := by simp; omega
          rw [if_neg hz, List.append_nil]
          simp only [go_sem, ↓reduceIte, q1]
          exact ⟨[(0, .string a)], _, .inr rfl, rfl, X2⟩
      · rintro fr h3 ⟨hd, tl, hhd, rfl, X3⟩
        have happ := toBA_append (pfxEnc k 4 mk ++ (if k = 0 then litShort a.data.toList else [])) (litShort b.data.toList)
        have hsz : (pfxEnc k 4 mk ++ (if k = 0 then litShort a.data.toList else [])).length + (litShort b.data.toList).length ≤ 4611686018427387904 := by rw [List.length_append]; omega
        generalize pfxEnc k 4 mk ++ (if k = 0 then litShort a.data.toList else []) = hdb at *
        rcases hhd with rfl | rfl
        all_goals
          simp only [go_sem, ↓reduceIte, List.nil_append, List.cons_append]
          refine MCall.by (sR08S (s := b.data.toList) (by rw [ba_len]; exact hv)) ?_
          rintro u h5 ⟨rfl, X5⟩
          simp only [go_sem, ↓reduceIte, happ, hsz]
          exact X3.trans X5
end Go.E1

/-
  Layer 8's statements: what comes in; EncodeForms.
-/
namespace Go.E1
open Go Go.Proofs Go.M
set_option linter.unusedSimpArgs false

theorem cells_line : Try.prog.cellsOf 47 = 3 := by kernel_rfl
theorem LRd_fld {h : LHeap} {n : Nat} {cs : List Value} (hl : LRd Try.prog h n 27 cs) : ∃ f : Fld, cs = [.string f.1, .string f.2] ∧ f.1.size ≤ reachBytes ∧ f.2.size ≤ reachBytes := by
  obtain ⟨m, parts, _, h1, h2, h3⟩ := LRd_struct Try.underlying27 hl
  match parts, h2 with
  | [p, q], _ =>
    obtain ⟨a, rfl, ha⟩ := LRd_string Try.underlying9 (h3 0 _ p rfl rfl).2
    obtain ⟨b, rfl, hb⟩ := LRd_string Try.underlying9 (h3 1 _ q rfl rfl).2
    exact ⟨(a, b), h1, ha, hb⟩
theorem LRd_line {h : LHeap} {n : Nat} {cs : List Value} (hl : LRd Try.prog h n 47 cs) : ∃ x : Ln, cs = lc x ∧ x.f.1.size ≤ reachBytes ∧ x.f.2.size ≤ reachBytes := by
  obtain ⟨m, parts, _, h1, h2, h3⟩ := LRd_struct Try.underlying47 hl
  match parts, h2 with
  | [p, q], _ =>
    obtain ⟨f, rfl, ha, hb⟩ := LRd_fld (h3 0 _ p rfl rfl).2
    obtain ⟨b, rfl⟩ := LRd_bool Try.underlying4 (h3 1 _ q rfl rfl).2
    exact ⟨⟨f, b⟩, h1, ha, hb⟩
/-- No text is longer than any can be. -/
def Rch (l : List Ln) : Prop := l.length ≤ reachBytes ∧ ∀ x ∈ l, x.f.1.size ≤ reachBytes ∧ x.f.2.size ≤ reachBytes
theorem LRd_lines {h : LHeap} {n : Nat} {cs : List Value} (hl : LRd Try.prog h n 40 cs) : ∃ v l, cs = [v] ∧ LS0 h v l ∧ Rch l := by
  rcases LRd_slice Try.underlying40 hl with rfl | ⟨b, len, css, m, rfl, rfl, h1, h2, h3, h4, h5⟩
  · exact ⟨_, [], rfl, .inl ⟨rfl, rfl⟩, by simp, by simp⟩
  · rw [cells_line] at h5 ⊢
    have key : ∀ (css : List (List Value)), (∀ c ∈ css, c.length = 3 ∧ LRd Try.prog h m 47 c) → ∃ l : List Ln, css.flatten = lcells l ∧ l.length = css.length ∧ ∀ x ∈ l, x.f.1.size ≤ reachBytes ∧ x.f.2.size ≤ reachBytes := by
      intro css
      induction css with
      | nil => intro _; exact ⟨[], rfl, rfl, by simp⟩
      | cons c css ih =>
        intro hc
        obtain ⟨l, h6, h7, h8⟩ := ih fun x hx => hc x (List.mem_cons_of_mem _ hx)
        obtain ⟨x, rfl, hx⟩ := LRd_line (hc c (List.mem_cons_self ..)).2
        exact ⟨x :: l, by rw [List.flatten_cons, h6]; rfl, by simp [h7], fun y hy => (List.mem_cons.1 hy).elim (fun e => e ▸ hx) (h8 y)⟩
    obtain ⟨l, h6, h7, h8⟩ := key css h5
    exact ⟨_, l, rfl, .inr ⟨b, _, _, _, by rw [h7, h3], h1, h2, h6⟩, by omega, h8⟩
theorem larg_lines {h : LHeap} {n : Nat} {lv : Value} (hl : LArg Try.prog h n 40 lv) : ∃ l, LS0 h lv l ∧ Rch l := by
  rcases hl with ⟨g1, _⟩ | ⟨_, hl⟩
  · simp [isAggP, Try.underlying40] at g1
  · obtain ⟨v, l, h1, h2, h3⟩ := LRd_lines hl
    simp only [List.cons.injEq, and_true] at h1
    subst h1
    exact ⟨l, h2, h3⟩

/-! ### How much -/
def s10 (l : List Ln) : Nat := (l.map fun x => 10 + x.f.1.size + x.f.2.size).sum
theorem s10_append (a b : List Ln) : s10 (a ++ b) = s10 a + s10 b := by simp [s10]
theorem s10_one (x : Ln) : s10 [x] = 10 + x.f.1.size + x.f.2.size := by simp [s10]
theorem s10_take (l : List Ln) (i : Nat) : s10 (l.take i) ≤ s10 l := by
  conv => rhs; rw [← List.take_append_drop i l]
  rw [s10_append]; omega
theorem s10_mem {l : List Ln} {x : Ln} (h : x ∈ l) : 10 + x.f.1.size + x.f.2.size ≤ s10 l := by
  induction l with
  | nil => cases h
  | cons y l ih =>
    have e : s10 (y :: l) = (10 + y.f.1.size + y.f.2.size) + s10 l := by simp [s10]
    rcases List.mem_cons.1 h with rfl | h
    · omega
    · have := ih h; omega
theorem s10_len (l : List Ln) : 10 * l.length ≤ s10 l := by
  induction l with
  | nil => simp
  | cons y l ih =>
    have e : s10 (y :: l) = (10 + y.f.1.size + y.f.2.size) + s10 l := by simp [s10]
    rw [List.length_cons]; omega
theorem s10_enc (l : List Ln) : (blockEnc l).length ≤ 4 * s10 l := by
  induction l with
  | nil => simp [blockEnc]
  | cons y l ih =>
    have e : s10 (y :: l) = (10 + y.f.1.size + y.f.2.size) + s10 l := by simp [s10]
    have h1 := lineEnc_len y
    have e2 : blockEnc (y :: l) = lineEnc y ++ blockEnc l := by simp [blockEnc]
    rw [e2, List.length_append]; omega
theorem s10_ok {l : List Ln} (h : s10 l ≤ 600) : ∀ x ∈ l, okLn x := fun x hx => by have := s10_mem hx; unfold okLn; omega
def smallB (l : List Ln) : Bool := decide (s10 l ≤ 600)

theorem sSmall {h : LHeap} {v : Value} {l : List Ln} (S : LS0 h v l) (hl : Rch l) :
    LCalls EC 35 [v] h fun u h' => u = .bool (smallB l) ∧ Ext h h' := by
  refine LCalls.enter (lf := lf35) rfl rfl (by simp [lf35]) ?_
  have el := fun h => S.len (q := EC.q) (h := h)
  have hrb : reachBytes < 2 ^ 47 := reachBytes_lt
  have hll := hl.1
  simp only [go_sem, lf35, ↓reduceIte, el]
  refine MC.cutb (fun fr hh => Ext h hh ∧ s10 l ≤ 600) ?_ ?_
  · refine MC.loop (fun m fr hh => ∃ i, m = l.length - i ∧ i ≤ l.length ∧ fr = [(3, .int .i64 (s10 (l.take i) : Int)), (6, v), (7, .int .i64 (l.length : Int)), (8, .int .i64 (i : Int))] ∧ Ext h hh ∧ s10 (l.take i) ≤ 600) l.length ⟨0, rfl, Nat.zero_le _, rfl, Ext.refl _, by simp [s10]⟩ ?_
    rintro m fr hh J ⟨i, rfl, hi, rfl, X, hs⟩ hJ
    by_cases hlt : i < l.length
    · obtain ⟨b, x, t, r, rfl, h1, h2, h3, h4⟩ := S.at hlt
      have c0 : (0 : Int) ≤ (i : Int) := by omega
      have c1 : (i : Int) < (l.length : Int) := by omega
      have hle : i * 3 + 3 ≤ (lcells l).length := by rw [lcells_len]; omega
      have h2' : hh.get b = some (.cells (lcells l) t r) := by rw [X.get b h1]; exact h2
      have htk : s10 (l.take (i + 1)) = s10 (l.take i) + (10 + x.f.1.size + x.f.2.size) := by rw [List.take_add_one, h3, s10_append]; simp [s10]
      have hX : ∀ {c c'}, Ext hh ((hh.push c).set hh.size c') := (Ext.push _ _).set (Nat.le_refl _) _
      obtain ⟨hz1, hz2⟩ := hl.2 x (List.mem_of_getElem? h3)
      have w1 : IntKind.i64.wrap (10 + (x.f.1.size : Int)) = ((10 + x.f.1.size : Nat) : Int) := by rw [IntWalk.i64_in _ (by omega)]; omega
      have w2 : IntKind.i64.wrap (((10 + x.f.1.size : Nat) : Int) + (x.f.2.size : Int)) = ((10 + x.f.1.size + x.f.2.size : Nat) : Int) := by rw [IntWalk.i64_in _ (by omega)]; omega
      have w4 : IntKind.i64.wrap ((s10 (l.take i) : Int) + ((10 + x.f.1.size + x.f.2.size : Nat) : Int)) = (s10 (l.take (i + 1)) : Int) := by rw [IntWalk.i64_in _ (by omega), htk]; omega
      have w3 : IntKind.i64.wrap ((i : Int) + 1) = ((i + 1 : Nat) : Int) := by rw [IntWalk.i64_in _ (by omega)]; omega
      by_cases hbig : 600 < s10 (l.take (i + 1))
      · have c3 : (600 : Int) < (s10 (l.take (i + 1)) : Int) := by omega
        have hb : smallB l = false := by
          have := s10_take l (i + 1)
          simp only [smallB, decide_eq_false_iff_not]; omega
        simp only [go_sem, ↓reduceIte, c0, c1, h2', hle, h4, w1, w2, w4, c3]
        rw [hb]
        exact ⟨rfl, X.trans hX⟩
      · have c3 : ¬ (600 : Int) < (s10 (l.take (i + 1)) : Int) := by omega
        simp only [go_sem, ↓reduceIte, c0, c1, h2', hle, h4, w1, w2, w4, c3, w3]
        exact hJ (l.length - (i + 1)) _ _ (by omega) ⟨i + 1, rfl, by omega, rfl, X.trans hX, by omega⟩
    · have c1 : ¬ (i : Int) < (l.length : Int) := by omega
      obtain rfl : i = l.length := by omega
      simp only [go_sem, ↓reduceIte, c1]
      rw [List.take_length] at hs
      exact ⟨X, hs⟩
  · rintro fr hh ⟨X, hs⟩
    have hb : smallB l = true := decide_eq_true hs
    rw [hb]
    simp only [go_sem, ↓reduceIte]
    exact X

theorem sNumber8 {h : LHeap} (b : Bool) : LCalls EC 38 [.bool b] h fun u h' => u = .int .i64 ((if b = true then 1 else 0 : Nat) : Int) ∧ h' = h := by
  refine LCalls.enter (lf := lf38) rfl rfl (by simp [lf38]) ?_
  cases b <;> simp only [go_sem, lf38, ↓reduceIte, Bool.false_eq_true] <;> rfl
end Go.E1

/-
  EncodeForms.
-/
namespace Go.E1
open Go Go.Proofs Go.M
set_option linter.unusedSimpArgs false

theorem sForms {h : LHeap} {v : Value} {l : List Ln} (S : LS0 h v l) (hl : Rch l) :
    LCalls EC 10 [v] h fun u _ => u = .bool true := by
  refine LCalls.enter (lf := lf10) rfl rfl (by simp [lf10]) ?_
  have el := fun h => S.len (q := EC.q) (h := h)
  simp only [go_sem, lf10, ↓reduceIte]
  refine MCall.by (sSmall S hl) ?_
  rintro u h2 ⟨rfl, X2⟩
  cases hs : smallB l with
  | false => simp only [go_sem, ↓reduceIte]
  | true =>
    have h600 : s10 l ≤ 600 := of_decide_eq_true hs
    have hok := s10_ok h600
    have hlen := s10_len l
    have henc := s10_enc l
    have S2 := S.ext X2
    simp only [go_sem, ↓reduceIte, el]
    refine MC.cutb (fun fr hh => ∃ tl, fr = (0, v) :: (3, .string (toBA (blockEnc l))) :: tl ∧ Ext h2 hh) ?_ ?_
    · refine MC.loop (fun m fr hh => ∃ i, m = l.length - i ∧ i ≤ l.length ∧ fr = [(0, v), (3, .string (toBA (blockEnc (l.take i)))), (15, v), (16, .int .i64 (l.length : Int)), (17, .int .i64 (i : Int))] ∧ Ext h2 hh) l.length ⟨0, rfl, Nat.zero_le _, rfl, Ext.refl _⟩ ?_
      rintro m fr hh J ⟨i, rfl, hi, rfl, X⟩ hJ
      by_cases hlt : i < l.length
      · obtain ⟨b, x, t, r, rfl, h1, h2', h3, h4⟩ := S2.at hlt
        have c0 : (0 : Int) ≤ (i : Int) := by omega
        have c1 : (i : Int) < (l.length : Int) := by omega
        have hle : i * 3 + 3 ≤ (lcells l).length := by rw [lcells_len]; omega
        have hg : hh.get b = some (.cells (lcells l) t r) := by rw [X.get b h1]; exact h2'
        have hx := hok x (List.mem_of_getElem? h3)
        have htk : blockEnc (l.take (i + 1)) = blockEnc (l.take i) ++ lineEnc x := by rw [List.take_add_one, h3]; simp [blockEnc]
        have hX : ∀ {c c'}, Ext hh ((hh.push c).set hh.size c') := (Ext.push _ _).set (Nat.le_refl _) _
        have w3 : IntKind.i64.wrap ((i : Int) + 1) = ((i + 1 : Nat) : Int) := by rw [IntWalk.i64_in _ (by omega)]; omega
        simp only [go_sem, ↓reduceIte, c0, c1, hg, hle, h4]
        refine MCall.by (sLine (x := x) hx.1 hx.2) ?_
        rintro u h5 ⟨w, rfl, O, X5⟩
        obtain ⟨wo, wn, wE, rfl⟩ := bsl O.bytes
        have g5 : h5.get hh.size = some (.cells [.string x.f.1, .string x.f.2, .bool x.never] true true) := by rw [X5.get _ (by simp)]; simp
        simp only [go_sem, ↓reduceIte]
        refine MC.dregion ?_
        simp only [go_sem, ↓reduceIte, g5]
        refine MDCall.by (sNumber8 x.never) ?_
        rintro u h6 ⟨rfl, rfl⟩
        simp only [go_sem, ↓reduceIte, g5]
        refine MDCall.by (sR08L (x := x) hx.1 hx.2) ?_
        rintro u h7 ⟨rfl, X7⟩
        have g7 : h7.get hh.size = some (.cells [.string x.f.1, .string x.f.2, .bool x.never] true true) := by rw [X7.get _ (by have := X5.size; simp at this; omega)]; exact g5
        have e1 := out_str (q := EC.q) (O.ext X7)
        have n0 : (((0 : Int)) != 0) = false := rfl
        have n1 : (!(lineEnc x == lineEnc x)) = false := by simp
        have hble := s10_enc (l.take i)
        have hbl2 := s10_take l i
        have hll := lineEnc_len x
        have hsz : (blockEnc (l.take i)).length + (lineEnc x).length ≤ 4611686018427387904 := by have := hx.1; have := hx.2; omega
        have happ := toBA_append (blockEnc (l.take i)) (lineEnc x)
        rw [← htk] at happ
        simp only [go_sem, ↓reduceIte, g7, e1, n0, n1, hsz, happ, w3]
        exact hJ (l.length - (i + 1)) _ _ (by omega) ⟨i + 1, rfl, by omega, rfl, (X.trans hX).trans (X5.trans X7)⟩
      · have c1 : ¬ (i : Int) < (l.length : Int) := by omega
        obtain rfl : i = l.length := by omega
        simp only [go_sem, ↓reduceIte, c1]
        rw [List.take_length]
        exact ⟨_, rfl, X⟩
    · rintro fr hh ⟨tl, rfl, X⟩
      simp only [go_sem, ↓reduceIte]
      refine MCall.by (sEncode (S2.ext X) (by omega) (by omega)) ?_
      rintro u h3 ⟨X3, ⟨_, w, rfl, O⟩ | ⟨⟨x, hx, hnx⟩, _⟩⟩
      · have e1 := out_str (q := EC.q) O
        have e2 := fun h => out_len (q := EC.q) (h := h) O
        have n1 : (blockEnc l == blockEnc l) = true := by simp
        have n2 : (((blockEnc l).length : Int) == ((blockEnc l).length : Int)) = true := by simp
        simp only [go_sem, ↓reduceIte, e1, n1]
        refine MCall.by (sLen8 ((S2.ext X).ext X3) (by omega) (by omega)) ?_
        rintro u h4 ⟨X4, ⟨_, rfl⟩ | ⟨⟨x, hx, hnx⟩, _⟩⟩
        · simp only [go_sem, ↓reduceIte, e2, n2]
        · exact absurd (hok x hx) hnx
      · exact absurd (hok x hx) hnx

theorem lawForms (h : LHeap) (lvs : List Value) (hl : LArgs Try.prog h 6 [40] lvs) : LCalls EC 10 lvs h fun v _ => v = .bool true := by
  obtain ⟨v0, r0, rfl, h0, hr0⟩ := LArgs_cons hl
  obtain rfl := LArgs_nil hr0
  obtain ⟨l, S, hr⟩ := larg_lines h0
  exact sForms S hr
end Go.E1
