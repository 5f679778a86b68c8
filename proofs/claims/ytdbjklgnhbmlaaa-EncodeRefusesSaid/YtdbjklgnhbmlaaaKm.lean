/-
  Texts joined: R2A, R2B, R2C, R2D, R2E, R2F.
-/
import Derived.Test.YtdbjklgnhbmlaaaKi
/-
  The document's code: the next code, and all of them.
-/
namespace Go.M
open Go.E1

/-- A number's lowest bits as letters, the highest first. -/
def letters : Nat → Nat → Bytes
  | 0, _ => []
  | k + 1, c => (if c.testBit k then 49 else 48) :: letters k c
noncomputable def codeBits (x : Nat) : Bytes := letters (lenOf x) (huffCodes.getD x 0)

/-- One more, from the last letter on. -/
def incR : Bool → Bytes → Bytes
  | _, [] => []
  | true, c :: r => if c.toNat = 48 then 49 :: incR false r else 48 :: incR true r
  | false, c :: r => c :: incR false r
def nextB (l : Bytes) : Bytes := (incR true l.reverse).reverse
def pad (n : Nat) (l : Bytes) : Bytes := l ++ List.replicate (n - l.length) 48

noncomputable def codeStep (n : Nat) (s : Bytes × List Bytes) (x : Nat) : Bytes × List Bytes :=
  if lenOf x = n then (pad n (if s.1 = [] then [48, 48, 48, 48, 48] else nextB s.1), s.2.set x (pad n (if s.1 = [] then [48, 48, 48, 48, 48] else nextB s.1))) else s
noncomputable def codeRow (s : Bytes × List Bytes) (n : Nat) : Bytes × List Bytes := (List.range 257).foldl (codeStep n) s
noncomputable def codeAll : Bytes × List Bytes := (List.range 26).foldl (fun s i => codeRow s (i + 5)) ([], List.replicate 257 [])

theorem incR_len : ∀ (c : Bool) (l : Bytes), (incR c l).length = l.length
  | true, [] => rfl
  | false, [] => rfl
  | true, c :: r => by
    simp only [incR]
    split <;> simp [incR_len]
  | false, c :: r => by simp [incR, incR_len]
theorem nextB_len (l : Bytes) : (nextB l).length = l.length := by simp [nextB, incR_len]
theorem pad_len {n : Nat} {l : Bytes} (h : l.length ≤ n) : (pad n l).length = n := by simp [pad]; omega
theorem codeStep_len {n : Nat} (hn : 5 ≤ n) {s : Bytes × List Bytes} (h : s.1.length ≤ n) (x : Nat) : (codeStep n s x).1.length ≤ n ∧ (codeStep n s x).2.length = s.2.length := by
  unfold codeStep
  split
  · refine ⟨Nat.le_of_eq (pad_len ?_), by simp⟩
    split
    · simpa using hn
    · rw [nextB_len]; exact h
  · exact ⟨h, rfl⟩
end Go.M

namespace Go.E1
open Go Go.Proofs Go.M
set_option linter.unusedSimpArgs false

theorem codes_all : codeAll.2 = (List.range 257).map codeBits := by kernel_rfl
end Go.E1

/-
  The document's code: the walks of the next code and of all codes.
-/
namespace Go.E1
open Go Go.Proofs Go.M
set_option linter.unusedSimpArgs false

@[go_sem] theorem toBA_data (l : Bytes) : (toBA l).data.toList = l := rfl
attribute [go_sem] toBA_size
theorem toBA_append (a b : Bytes) : toBA a ++ toBA b = toBA (a ++ b) := by
  apply ByteArray.ext
  rw [ByteArray.data_append]
  simp [toBA]

theorem MC.cutbb {E : Env} {c b : LCode} {id id' : Nat} {k : Cont} {fr : Fr} {h : LHeap} {Q : Value → LHeap → Prop} (J : Fr → LHeap → Prop) (w : MC E c (.block id (.block id' (.inv J k))) fr h Q) (hb : ∀ fr h, J fr h → MC E b k fr h Q) : MC E c (.block id (.block id' (.code b k))) fr h Q :=
  w.cont (kont_block (kont_block (kont_cut hb)))

/-- A slice of one byte, as a text. -/
theorem one_str {q : EqF} {h : LHeap} (c : UInt8) : lexec q (.bytesStr (.slice (some ⟨h.size, 0, none⟩) 1 1)) (h.push (.cells [.int .u8 c.toNat] true true)) = some (.string (toBA [c]), h.push (.cells [.int .u8 c.toNat] true true)) :=
  out_str (lo := 0) (s := [c]) (.inr ⟨h.size, rfl, Nat.zero_le _, by simp, by simp [bv]⟩)

theorem sRefNext {h : LHeap} {l : Bytes} (hl : l.length < 100000) :
    LCalls EC 98 [.string (toBA l)] h fun u h' => u = .string (toBA (nextB l)) ∧ Ext h h' := by
  refine LCalls.enter (lf := lf98) rfl rfl (by simp [lf98]) ?_
  have w0 : IntKind.i64.wrap ((l.length : Int) - 1) = (l.length : Int) - 1 := by rw [IntWalk.i64_in _ (by omega)]
  simp only [go_sem, lf98, ↓reduceIte, w0]
  refine MC.cutb (fun fr hh => ∃ tl, fr = (0, .string (toBA l)) :: (3, .string (toBA (nextB l))) :: tl ∧ Ext h hh) ?_ ?_
  · refine MC.loop (fun k fr hh => ∃ (c : Bool) (out : Bytes), k ≤ l.length ∧ fr = [(0, .string (toBA l)), (3, .string (toBA out)), (4, .bool c), (5, .int .i64 ((k : Int) - 1))] ∧ (incR c (l.take k).reverse).reverse ++ out = nextB l ∧ out.length = l.length - k ∧ Ext h hh) l.length ⟨true, [], Nat.le_refl _, rfl, by rw [List.take_length]; simp [nextB], by simp, Ext.refl _⟩ ?_
    rintro k fr hh J ⟨c, out, hk, rfl, hinv, hol, X⟩ hJ
    cases k with
    | zero =>
      have c1 : ¬ (0 : Int) ≤ ((0 : Nat) : Int) - 1 := by omega
      simp only [go_sem, ↓reduceIte, c1]
      have : out = nextB l := by cases c <;> simpa [incR] using hinv
      rw [this]
      exact ⟨_, rfl, X⟩
    | succ k =>
      have c1 : (0 : Int) ≤ ((k + 1 : Nat) : Int) - 1 := by omega
      have hkt : (((k + 1 : Nat) : Int) - 1).toNat = k := by omega
      obtain ⟨x, hx⟩ : ∃ x, l[k]? = some x := ⟨l[k], by simp [show k < l.length by omega]⟩
      have htk : (l.take (k + 1)).reverse = x :: (l.take k).reverse := by rw [List.take_add_one, hx]; simp
      rw [htk] at hinv
      have w1 : IntKind.i64.wrap (((k + 1 : Nat) : Int) - 1 - 1) = (k : Int) - 1 := by rw [IntWalk.i64_in _ (by omega)]; omega
      have hroom : ([x] : Bytes).length + out.length ≤ 4611686018427387904 := by simp only [List.length_singleton]; omega
      have step : ∀ y : UInt8, (1 : Nat) + out.length ≤ 4611686018427387904 := fun _ => by omega
      have app : ∀ y : UInt8, toBA [y] ++ toBA out = toBA (y :: out) := fun y => toBA_append [y] out
      cases c with
      | false =>
        have hi : (incR false (l.take k).reverse).reverse ++ (x :: out) = nextB l := by rw [← hinv]; simp [incR]
        have e1 := one_str (q := EC.q) (h := hh) x
        simp only [go_sem, ↓reduceIte, c1, hkt, hx, w1, e1, app, step x, List.length_singleton]
        exact hJ k _ _ (Nat.lt_succ_self _) ⟨false, x :: out, by omega, rfl, hi, by simp; omega, X.trans (Ext.push _ _)⟩
      | true =>
        by_cases h48 : x.toNat = 48
        · have hi : (incR false (l.take k).reverse).reverse ++ ((49 : UInt8) :: out) = nextB l := by rw [← hinv]; simp [incR, h48]
          have c2 : ((x.toNat : Int) == 48) = true := by simp; omega
          have e1 : lexec EC.q (.bytesStr (.slice (some ⟨hh.size, 0, none⟩) 1 1)) (hh.push (.cells [.int .u8 49] true true)) = some (.string (toBA [49]), hh.push (.cells [.int .u8 49] true true)) := one_str 49
          simp only [go_sem, ↓reduceIte, c1, hkt, hx, w1, c2, e1, app, step x, List.length_singleton]
          exact hJ k _ _ (Nat.lt_succ_self _) ⟨false, 49 :: out, by omega, rfl, hi, by simp; omega, X.trans (Ext.push _ _)⟩
        · have hi : (incR true (l.take k).reverse).reverse ++ ((48 : UInt8) :: out) = nextB l := by rw [← hinv]; simp [incR, h48]
          have c2 : ((x.toNat : Int) == 48) = false := by simp; omega
          have e1 : lexec EC.q (.bytesStr (.slice (some ⟨hh.size, 0, none⟩) 1 1)) (hh.push (.cells [.int .u8 48] true true)) = some (.string (toBA [48]), hh.push (.cells [.int .u8 48] true true)) := one_str 48
          simp only [go_sem, ↓reduceIte, c1, hkt, hx, w1, c2, e1, app, step x, List.length_singleton]
          exact hJ k _ _ (Nat.lt_succ_self _) ⟨true, 48 :: out, by omega, rfl, hi, by simp; omega, X.trans (Ext.push _ _)⟩
  · rintro fr hh ⟨tl, rfl, X⟩
    simp only [go_sem, ↓reduceIte]
    exact X

def strs (l : List Bytes) : List Value := l.map fun b => .string (toBA b)
theorem strs_len (l : List Bytes) : (strs l).length = l.length := by simp [strs]
theorem strs_set (l : List Bytes) {i : Nat} (hi : i < l.length) (b : Bytes) : (strs l).take i ++ [.string (toBA b)] ++ (strs l).drop (i + 1) = strs (l.set i b) := by
  unfold strs
  rw [← List.map_take, ← List.map_drop, ← List.map_singleton (f := fun b => Value.string (toBA b)), ← List.map_append, ← List.map_append]
  congr 1
  rw [List.set_eq_take_append_cons_drop, if_pos hi]
  simp


/-- The zero's cells, however they are written. -/
def ZC (h : LHeap) (b : Nat) : Prop := ∃ z, h.get b = some (.cells z true true) ∧ z.length = 257

theorem codeAll_len : codeAll.2.length = 257 := by rw [codes_all]; simp

set_option maxRecDepth 20000 in
theorem sCodes {h : LHeap} : LCalls EC 92 [] h fun u h' => u = .agg (strs codeAll.2).toArray ∧ Ext h h' := by
  refine LCalls.enter (lf := lf92) rfl rfl (by simp [lf92]) ?_
  simp only [lf92]
  rw [MC_seq]
  refine MC.cut (fun fr hh => fr = [(0, .pointer (some ⟨h.size, 0, none⟩))] ∧ ZC hh h.size ∧ hh.size = h.size + 1 ∧ Ext h hh) ?_ ?_
  · simp only [go_sem, ↓reduceIte]
    exact ⟨⟨_, by simp; rfl, rfl⟩, Ext.push _ _⟩
  rintro fr h1 ⟨rfl, Z1, hs1, X1⟩
  rw [MC_seq]
  refine MC.cut (fun fr hh => fr = [(0, .pointer (some ⟨h.size, 0, none⟩)), (1, .pointer (some ⟨h.size + 1, 0, none⟩))] ∧ ZC hh h.size ∧ hh.get (h.size + 1) = some (.cells (strs (List.replicate 257 [])) true true) ∧ h.size + 1 < hh.size ∧ Ext h hh) ?_ ?_
  · obtain ⟨z, hz1, hz2⟩ := Z1
    simp only [go_sem, ↓reduceIte, hs1]
    refine ⟨⟨z, by simp [hs1, hz1], hz2⟩, by simp [hs1]; rfl, by simp [hs1], X1.trans (Ext.push _ _)⟩
  rintro fr h2 ⟨rfl, Z2, g2, l2, X2⟩
  simp only [go_sem, ↓reduceIte]
  refine MC.cutb (fun fr hh => ∃ tl, fr = (0, .pointer (some ⟨h.size, 0, none⟩)) :: (1, .pointer (some ⟨h.size + 1, 0, none⟩)) :: tl ∧ ZC hh h.size ∧ hh.get (h.size + 1) = some (.cells (strs codeAll.2) true true) ∧ Ext h hh) ?_ ?_
  · refine MC.loop (fun k fr hh => ∃ i s, k = 26 - i ∧ i ≤ 26 ∧ s = (List.range i).foldl (fun s i => codeRow s (i + 5)) ([], List.replicate 257 []) ∧ fr = [(0, .pointer (some ⟨h.size, 0, none⟩)), (1, .pointer (some ⟨h.size + 1, 0, none⟩)), (2, .string (toBA s.1)), (3, .int .i64 ((i + 5 : Nat) : Int))] ∧
        ZC hh h.size ∧ hh.get (h.size + 1) = some (.cells (strs s.2) true true) ∧ h.size + 1 < hh.size ∧ Ext h hh ∧ s.1.length ≤ i + 4 ∧ s.2.length = 257) 26 ⟨0, _, rfl, by omega, rfl, rfl, Z2, g2, l2, X2, by simp, by simp⟩ ?_
    rintro k fr hh J ⟨i, s, rfl, hi, hs, rfl, Z, g, l, X, hc, hsl⟩ hJ
    by_cases hlt : i < 26
    · have c1 : ((i + 5 : Nat) : Int) ≤ 30 := by omega
      have w1 : IntKind.i64.wrap (((i + 5 : Nat) : Int) + 1) = ((i + 1 + 5 : Nat) : Int) := by rw [IntWalk.i64_in _ (by omega)]; omega
      simp only [go_sem, ↓reduceIte, c1]
      refine MC.cutbb (fun fr hh => ∃ tl, fr = (0, .pointer (some ⟨h.size, 0, none⟩)) :: (1, .pointer (some ⟨h.size + 1, 0, none⟩)) :: (2, .string (toBA (codeRow s (i + 5)).1)) :: (3, .int .i64 ((i + 5 : Nat) : Int)) :: tl ∧
        ZC hh h.size ∧ hh.get (h.size + 1) = some (.cells (strs (codeRow s (i + 5)).2) true true) ∧ h.size + 1 < hh.size ∧ Ext h hh ∧ (codeRow s (i + 5)).1.length ≤ i + 5 ∧ (codeRow s (i + 5)).2.length = 257) ?_ ?_
      · refine MC.loop (fun k fr hh => ∃ x t, k = 257 - x ∧ x ≤ 257 ∧ t = (List.range x).foldl (codeStep (i + 5)) s ∧ fr = [(0, .pointer (some ⟨h.size, 0, none⟩)), (1, .pointer (some ⟨h.size + 1, 0, none⟩)), (2, .string (toBA t.1)), (3, .int .i64 ((i + 5 : Nat) : Int)), (4, .int .i64 (x : Int))] ∧
          ZC hh h.size ∧ hh.get (h.size + 1) = some (.cells (strs t.2) true true) ∧ h.size + 1 < hh.size ∧ Ext h hh ∧ t.1.length ≤ i + 5 ∧ t.2.length = 257) 257 ⟨0, s, rfl, by omega, rfl, rfl, Z, g, l, X, by omega, hsl⟩ ?_
        clear Z g l X
        rintro k fr hh J2 ⟨x, t, rfl, hx, ht, rfl, Z, g, l, X, htl, htl2⟩ hJ2
        have e0 : (List.range (x + 1)).foldl (codeStep (i + 5)) s = codeStep (i + 5) t x := by rw [List.range_succ, List.foldl_append, ← ht]; rfl
        have hcs := codeStep_len (n := i + 5) (by omega) htl x
        by_cases hxlt : x < 257
        · have d1 : (x : Int) < 257 := by omega
          have d0 : (0 : Int) ≤ (x : Int) := by omega
          have w2 : IntKind.i64.wrap ((x : Int) + 1) = ((x + 1 : Nat) : Int) := by rw [IntWalk.i64_in _ (by omega)]; omega
          by_cases hn : lenOf x = i + 5
          · have n1 : ((lenOf x : Int) != ((i + 5 : Nat) : Int)) = false := by rw [hn]; simp
            simp only [go_sem, ↓reduceIte, d0, d1, n1]
            generalize hc1 : (if t.1 = [] then ([48, 48, 48, 48, 48] : Bytes) else nextB t.1) = c1
            have hc1l : c1.length ≤ i + 5 := by
              rw [← hc1]
              split
              · simp
              · rw [nextB_len]; exact htl
            have e1 : codeStep (i + 5) t x = (pad (i + 5) c1, t.2.set x (pad (i + 5) c1)) := by
              unfold codeStep
              rw [if_pos hn, hc1]
            refine MB.cut (fun fr h' => fr = [(0, .pointer (some ⟨h.size, 0, none⟩)), (1, .pointer (some ⟨h.size + 1, 0, none⟩)), (2, .string (toBA c1)), (3, .int .i64 ((i + 5 : Nat) : Int)), (4, .int .i64 (x : Int))] ∧ Ext hh h') ?_ ?_
            · by_cases hnil : t.1 = []
              · have b1 : (t.1 == []) = true := by simp [hnil]
                rw [if_pos hnil] at hc1
                subst hc1
                simp only [go_sem, ↓reduceIte, b1]
                exact ⟨rfl, Ext.refl _⟩
              · have b1 : (t.1 == []) = false := by simp [hnil]
                rw [if_neg hnil] at hc1
                subst hc1
                simp only [go_sem, ↓reduceIte, b1]
                refine MCall.by (sRefNext (by omega)) ?_
                rintro u h' ⟨rfl, X'⟩
                simp only [go_sem, ↓reduceIte]
                exact X'
            rintro fr h' ⟨rfl, X'⟩
            rw [MC_seq]
            refine MC.cut (fun fr h'' => ∃ tl, fr = (0, .pointer (some ⟨h.size, 0, none⟩)) :: (1, .pointer (some ⟨h.size + 1, 0, none⟩)) :: (2, .string (toBA (pad (i + 5) c1))) :: (3, .int .i64 ((i + 5 : Nat) : Int)) :: (4, .int .i64 (x : Int)) :: tl ∧ h'' = h') ?_ ?_
            · simp only [go_sem, ↓reduceIte]
              refine MC.loop (fun k fr h'' => ∃ j, k = i + 5 - c1.length - j ∧ j ≤ i + 5 - c1.length ∧ fr = [(0, .pointer (some ⟨h.size, 0, none⟩)), (1, .pointer (some ⟨h.size + 1, 0, none⟩)), (2, .string (toBA (c1 ++ List.replicate j 48))), (3, .int .i64 ((i + 5 : Nat) : Int)), (4, .int .i64 (x : Int))] ∧ h'' = h') (i + 5 - c1.length) ⟨0, by omega, Nat.zero_le _, by simp, rfl⟩ ?_
              rintro k fr h'' J3 ⟨j, rfl, hj, rfl, rfl⟩ hJ3
              have hlen : (c1 ++ List.replicate j (48 : UInt8)).length = c1.length + j := by simp
              by_cases hjl : j < i + 5 - c1.length
              · have q1 : ((c1.length + j : Nat) : Int) < ((i + 5 : Nat) : Int) := by omega
                have q2 : toBA (c1 ++ List.replicate j (48 : UInt8)) ++ ⟨#[48]⟩ = toBA (c1 ++ List.replicate (j + 1) 48) := by
                  have := toBA_append (c1 ++ List.replicate j (48 : UInt8)) [48]
                  rw [List.append_assoc, ← List.replicate_succ' ] at this
                  exact this
                have q3 : c1.length + j + (⟨#[48]⟩ : ByteArray).size ≤ 4611686018427387904 := by show c1.length + j + 1 ≤ _; omega
                have q4 : c1.length + j ≤ 4611686018427387903 := by omega
                simp only [go_sem, ↓reduceIte, hlen, q1, q2, q3, q4]
                exact hJ3 (i + 5 - c1.length - (j + 1)) _ _ (by omega) ⟨j + 1, rfl, by omega, rfl, rfl⟩
              · have q1 : ¬ ((c1.length + j : Nat) : Int) < ((i + 5 : Nat) : Int) := by omega
                have hj' : j = i + 5 - c1.length := by omega
                subst hj'
                simp only [go_sem, ↓reduceIte, hlen, q1]
                exact ⟨_, rfl⟩
            · rintro fr h'' ⟨tl, rfl, rfl⟩
              have g' : h''.get (h.size + 1) = some (.cells (strs t.2) true true) := by rw [X'.get _ l]; exact g
              have le' : x + 1 ≤ (strs t.2).length := by rw [strs_len]; omega
              have st := strs_set t.2 (i := x) (by omega) (pad (i + 5) c1)
              simp only [go_sem, ↓reduceIte, d0, d1, g', le', st, w2]
              have Z' : ZC h'' h.size := let ⟨z, z1, z2⟩ := Z; ⟨z, by rw [X'.get _ (by omega)]; exact z1, z2⟩
              have l' : h.size + 1 < h''.size := Nat.lt_of_lt_of_le l X'.size
              refine hJ2 (257 - (x + 1)) _ _ (by omega) ⟨x + 1, codeStep (i + 5) t x, rfl, by omega, e0.symm, by rw [e1], let ⟨z, z1, z2⟩ := Z'; ⟨z, by simp [z1], z2⟩, by simp [e1], by simpa using l', (X.trans X').set (by omega) _, hcs.1, by rw [hcs.2]; exact htl2⟩
          · have n1 : ((lenOf x : Int) != ((i + 5 : Nat) : Int)) = true := by simp; omega
            have e1 : codeStep (i + 5) t x = t := by unfold codeStep; rw [if_neg hn]
            simp only [go_sem, ↓reduceIte, d0, d1, n1, w2]
            exact hJ2 (257 - (x + 1)) _ _ (by omega) ⟨x + 1, t, rfl, by omega, by rw [e0, e1], rfl, Z, g, l, X, htl, htl2⟩
        · have d1 : ¬ (x : Int) < 257 := by omega
          obtain rfl : x = 257 := by omega
          simp only [go_sem, ↓reduceIte, d1]
          subst ht
          exact ⟨_, rfl, Z, g, l, X, htl, htl2⟩
      · rintro fr hh ⟨tl, rfl, Z, g, l, X, q1, q2⟩
        simp only [go_sem, ↓reduceIte, w1]
        exact hJ (26 - (i + 1)) _ _ (by omega) ⟨i + 1, codeRow s (i + 5), rfl, by omega, by rw [List.range_succ, List.foldl_append, ← hs]; rfl, rfl, Z, g, l, X, q1, q2⟩
    · have c1 : ¬ ((i + 5 : Nat) : Int) ≤ 30 := by omega
      obtain rfl : i = 26 := by omega
      simp only [go_sem, ↓reduceIte, c1]
      have : s = codeAll := hs
      subst this
      exact ⟨_, rfl, Z, g, X⟩
  · rintro fr hh ⟨tl, rfl, ⟨z, hz1, hz2⟩, g, X⟩
    have hl : (strs codeAll.2).length = 257 := by rw [strs_len]; exact codeAll_len
    have h1 : 257 ≤ (strs codeAll.2).length := by omega
    have h2 : (strs codeAll.2).take 257 = strs codeAll.2 := List.take_of_length_le (by omega)
    have h3 : oneCells (strs codeAll.2) = true := by
      simp only [oneCells, strs, List.all_map]
      exact List.all_eq_true.2 fun x _ => rfl
    have h4 : z.drop 257 = [] := List.drop_eq_nil_of_le (by omega)
    have h5 : 257 ≤ z.length := by omega
    generalize strs codeAll.2 = cs at *
    simp only [go_sem, ↓reduceIte, g, h1, h2, h3, hl, hz1, h4, h5, List.append_nil]
    exact X.set (Nat.le_refl _) _
end Go.E1

/-
  The document's code: reading bits by codes is reading them bit by bit.
-/
namespace Go.M
open Go.E1

def lets (bs : List Bool) : Bytes := bs.map fun b => if b then 49 else 48
theorem lets_len (bs : List Bool) : (lets bs).length = bs.length := by simp [lets]
/-- A number's bits, behind those of another. -/
def val (c : Nat) (bs : List Bool) : Nat := bs.foldl (fun c b => 2 * c + b.toNat) c
theorem val_cons (c : Nat) (b : Bool) (bs : List Bool) : val c (b :: bs) = val (2 * c + b.toNat) bs := rfl
theorem val_append (c : Nat) (a b : List Bool) : val c (a ++ b) = val (val c a) b := by simp [val]
theorem val_lt : ∀ (bs : List Bool) (c : Nat), val c bs < (c + 1) * 2 ^ bs.length
  | [], c => by simp [val]
  | b :: bs, c => by
    have := val_lt bs (2 * c + b.toNat)
    rw [val_cons, List.length_cons, Nat.pow_succ]
    refine Nat.lt_of_lt_of_le this ?_
    have hb : b.toNat ≤ 1 := by cases b <;> decide
    calc (2 * c + b.toNat + 1) * 2 ^ bs.length ≤ (2 * (c + 1)) * 2 ^ bs.length := Nat.mul_le_mul_right _ (by omega)
      _ = (c + 1) * (2 ^ bs.length * 2) := by rw [Nat.mul_comm 2 (c + 1), Nat.mul_assoc, Nat.mul_comm 2]
theorem val_shift : ∀ (bs : List Bool) (c : Nat), val c bs / 2 ^ bs.length = c
  | [], c => by simp [val]
  | b :: bs, c => by
    rw [val_cons, List.length_cons, Nat.pow_succ, ← Nat.div_div_eq_div_mul, val_shift bs]
    cases b <;> simp <;> omega
theorem val_mod : ∀ (bs : List Bool) (c : Nat), val c bs % 2 ^ bs.length = val 0 bs
  | [], c => by simp [val, Nat.mod_one]
  | b :: bs, c => by
    have h1 := val_shift bs (2 * c + b.toNat)
    have h2 := val_mod bs (2 * c + b.toNat)
    have h3 := val_mod bs (2 * 0 + b.toNat)
    have h4 := val_shift bs (2 * 0 + b.toNat)
    rw [val_cons, val_cons, List.length_cons]
    have e : ∀ x, x % 2 ^ (bs.length + 1) = x % 2 ^ bs.length + 2 ^ bs.length * (x / 2 ^ bs.length % 2) := fun x => by
      rw [Nat.pow_succ, Nat.mod_mul]
    rw [e, h1, h2]
    have e2 : val (2 * 0 + b.toNat) bs = val 0 bs + 2 ^ bs.length * b.toNat := by
      conv => lhs; rw [← Nat.mod_add_div (val (2 * 0 + b.toNat) bs) (2 ^ bs.length)]
      rw [h3, h4]; simp
    rw [e2]
    congr 2
    cases b <;> simp <;> omega
theorem testBit_val (bs : List Bool) (b : Bool) : (val 0 (b :: bs)).testBit bs.length = b := by
  rw [val_cons, Nat.testBit, Nat.shiftRight_eq_div_pow, val_shift]
  cases b <;> rfl
theorem letters_mod : ∀ (k c d : Nat), c % 2 ^ k = d % 2 ^ k → letters k c = letters k d
  | 0, _, _, _ => rfl
  | k + 1, c, d, h => by
    have h1 : c % 2 ^ k = d % 2 ^ k := by
      have := congrArg (· % 2 ^ k) h
      simpa [Nat.pow_succ, Nat.mod_mul_right_mod] using this
    have h2 : c.testBit k = d.testBit k := by
      have a : (c % 2 ^ (k + 1)).testBit k = c.testBit k := by simp [Nat.testBit_mod_two_pow]
      have b : (d % 2 ^ (k + 1)).testBit k = d.testBit k := by simp [Nat.testBit_mod_two_pow]
      rw [← a, ← b, h]
    simp only [letters]
    rw [h2, letters_mod k c d h1]
theorem letters_val : ∀ (bs : List Bool), letters bs.length (val 0 bs) = lets bs
  | [] => rfl
  | b :: bs => by
    simp only [List.length_cons, letters, testBit_val]
    rw [letters_mod bs.length (val 0 (b :: bs)) (val 0 bs) (by
      rw [val_cons, val_mod, val_mod]), letters_val bs]
    cases b <;> rfl
theorem letters_inj : ∀ (k c d : Nat), c < 2 ^ k → d < 2 ^ k → letters k c = letters k d → c = d
  | 0, c, d, hc, hd, _ => by simp at hc hd; omega
  | k + 1, c, d, hc, hd, h => by
    simp only [letters, List.cons.injEq] at h
    obtain ⟨h1, h2⟩ := h
    have hb : c.testBit k = d.testBit k := by
      cases hx : c.testBit k <;> cases hy : d.testBit k <;> rw [hx, hy] at h1 <;> first | rfl | (revert h1; decide)
    have h3 : letters k (c % 2 ^ k) = letters k (d % 2 ^ k) := by
      rw [letters_mod k (c % 2 ^ k) c (by simp), letters_mod k (d % 2 ^ k) d (by simp)]; exact h2
    have h4 := letters_inj k _ _ (Nat.mod_lt _ (Nat.two_pow_pos k)) (Nat.mod_lt _ (Nat.two_pow_pos k)) h3
    have e : ∀ x, x < 2 ^ (k + 1) → x = x % 2 ^ k + 2 ^ k * (x.testBit k).toNat := fun x hx => by
      rw [Nat.testBit_eq_decide_div_mod_eq]
      have h5 : x / 2 ^ k < 2 := Nat.div_lt_of_lt_mul (by rw [Nat.pow_succ] at hx; omega)
      have h6 := Nat.mod_add_div x (2 ^ k)
      have h7 : (decide (x / 2 ^ k % 2 = 1)).toNat = x / 2 ^ k := by
        generalize x / 2 ^ k = y at h5
        match y, h5 with
        | 0, _ => rfl
        | 1, _ => rfl
      rw [h7]; omega
    rw [e c hc, e d hd, h4, hb]
theorem letters_len : ∀ (k c : Nat), (letters k c).length = k
  | 0, _ => rfl
  | k + 1, c => by simp [letters, letters_len k c]
end Go.M

/-
  The document's code: a symbol is found by its code, once, and as bit by bit.
-/
namespace Go.M
open Go.E1

def codeOf (x : Nat) : Nat := huffCodes.getD x 0

theorem chk_sym : (List.range 257).all (fun x => decide (symOf (codeOf x) (lenOf x) = some x ∧ codeOf x < 2 ^ lenOf x ∧ 1 ≤ lenOf x ∧ lenOf x ≤ 30)) = true := by kernel_rfl
theorem chk_back : (List.range 31).all (fun n => (List.range (cntAt n)).all fun k => decide (ordAt (begAt n + k) < 257 ∧ lenOf (ordAt (begAt n + k)) = n ∧ codeOf (ordAt (begAt n + k)) = fstAt n + k)) = true := by kernel_rfl
theorem chk_free : (List.range 257).all (fun x => (List.range (lenOf x)).all fun m => decide (symOf (codeOf x / 2 ^ (lenOf x - m)) m = none)) = true := by kernel_rfl

theorem sym_of {x : Nat} (hx : x < 257) : symOf (codeOf x) (lenOf x) = some x ∧ codeOf x < 2 ^ lenOf x ∧ 1 ≤ lenOf x ∧ lenOf x ≤ 30 := of_decide_eq_true (List.all_eq_true.1 chk_sym x (List.mem_range.2 hx))
theorem sym_back {c n x : Nat} (h : symOf c n = some x) : x < 257 ∧ lenOf x = n ∧ codeOf x = c := by
  unfold symOf at h
  split at h
  · rename_i hh
    cases h
    have h1 := of_decide_eq_true (List.all_eq_true.1 (List.all_eq_true.1 chk_back n (List.mem_range.2 (by omega))) (c - fstAt n) (List.mem_range.2 (by omega)))
    exact ⟨h1.1, h1.2.1, by rw [h1.2.2]; omega⟩
  · cases h
theorem sym_free {x m : Nat} (hx : x < 257) (hm : m < lenOf x) : symOf (codeOf x / 2 ^ (lenOf x - m)) m = none :=
  of_decide_eq_true (List.all_eq_true.1 (List.all_eq_true.1 chk_free x (List.mem_range.2 hx)) m (List.mem_range.2 hm))

/-- A symbol's code stands at the beginning. -/
def Beg (x : Nat) (bs : List Bool) : Prop := lenOf x ≤ bs.length ∧ val 0 (bs.take (lenOf x)) = codeOf x

theorem codeBits_eq (x : Nat) : codeBits x = letters (lenOf x) (codeOf x) := rfl
theorem beg_iff {x : Nat} (hx : x < 257) (bs : List Bool) : Beg x bs ↔ (lenOf x ≤ bs.length ∧ (lets bs).take (lenOf x) = codeBits x) := by
  constructor
  · rintro ⟨h1, h2⟩
    refine ⟨h1, ?_⟩
    rw [codeBits_eq, ← h2]
    have h3 := letters_val (bs.take (lenOf x))
    rw [List.length_take, Nat.min_eq_left h1] at h3
    rw [h3]
    simp [lets]
  · rintro ⟨h1, h2⟩
    refine ⟨h1, ?_⟩
    have h3 := letters_val (bs.take (lenOf x))
    rw [List.length_take, Nat.min_eq_left h1] at h3
    have h4 : letters (lenOf x) (val 0 (bs.take (lenOf x))) = letters (lenOf x) (codeOf x) := by
      rw [h3, ← codeBits_eq, ← h2]
      simp [lets]
    refine letters_inj _ _ _ ?_ (sym_of hx).2.1 h4
    have := val_lt (bs.take (lenOf x)) 0
    rwa [List.length_take, Nat.min_eq_left h1, Nat.zero_add, Nat.one_mul] at this

theorem beg_sym {x : Nat} (hx : x < 257) {bs : List Bool} (h : Beg x bs) : symOf (val 0 (bs.take (lenOf x))) (lenOf x) = some x := by rw [h.2]; exact (sym_of hx).1
theorem beg_less {x m : Nat} (hx : x < 257) {bs : List Bool} (h : Beg x bs) (hm : m < lenOf x) : symOf (val 0 (bs.take m)) m = none := by
  have h1 := sym_free hx hm
  rw [← h.2] at h1
  have h2 : bs.take (lenOf x) = bs.take m ++ (bs.take (lenOf x)).drop m := by
    have := List.take_append_drop m (bs.take (lenOf x))
    rw [List.take_take, Nat.min_eq_left (by omega)] at this
    exact this.symm
  have h3 := val_shift ((bs.take (lenOf x)).drop m) (val 0 (bs.take m))
  rw [← val_append, ← h2, List.length_drop, List.length_take, Nat.min_eq_left h.1] at h3
  rw [h3] at h1
  exact h1
theorem beg_one {x y : Nat} (hx : x < 257) (hy : y < 257) {bs : List Bool} (h : Beg x bs) (g : Beg y bs) : x = y := by
  have a := beg_sym hx h
  have b := beg_sym hy g
  rcases Nat.lt_trichotomy (lenOf x) (lenOf y) with q | q | q
  · rw [beg_less hy g q] at a; cases a
  · rw [q, b] at a; exact (Option.some.inj a).symm
  · rw [beg_less hx h q] at b; cases b

/-- Bits with which no symbol ends. -/
theorem go_none : ∀ (p q : List Bool) (c n : Nat) (o : Bool) (out : Bytes), (∀ m, m < p.length → symOf (val c (p.take (m + 1))) (n + m + 1) = none) → huffGo (p ++ q) c n o out = huffGo q (val c p) (n + p.length) (o && p.all id) out
  | [], q, c, n, o, out, _ => by simp [val]
  | b :: p, q, c, n, o, out, h => by
    have h0 : symOf (2 * c + b.toNat) (n + 1) = none := h 0 (by simp)
    rw [List.cons_append]
    simp only [huffGo, h0]
    rw [go_none p q (2 * c + b.toNat) (n + 1) (o && b) out fun m hm => by
      have := h (m + 1) (by simpa using hm)
      rw [show n + 1 + m + 1 = n + (m + 1) + 1 by omega]
      exact this]
    simp only [val_cons, List.length_cons, List.all_cons, id_eq, Bool.and_assoc]
    rw [show n + 1 + p.length = n + (p.length + 1) by omega]

theorem go_beg {x : Nat} (hx : x < 257) {bs : List Bool} (h : Beg x bs) (out : Bytes) : huffGo bs 0 0 true out = if x = 256 then .error 21 else huffGo (bs.drop (lenOf x)) 0 0 true (out ++ [UInt8.ofNat x]) := by
  have hl := (sym_of hx).2.2.1
  obtain ⟨n, hn⟩ : ∃ n, lenOf x = n + 1 := ⟨lenOf x - 1, by omega⟩
  have hb := h.1
  obtain ⟨b, hbn⟩ : ∃ b, bs[n]? = some b := ⟨bs[n], by simp [show n < bs.length by omega]⟩
  have hsplit : bs = bs.take n ++ b :: bs.drop (n + 1) := by
    rw [List.getElem?_eq_getElem (by omega)] at hbn
    rw [← Option.some.inj hbn, List.getElem_cons_drop, List.take_append_drop]
  have htk : bs.take (n + 1) = bs.take n ++ [b] := by rw [List.take_add_one, hbn]; rfl
  have hs := beg_sym hx h
  rw [hn, htk, val_append] at hs
  conv => lhs; rw [hsplit]
  rw [go_none _ _ _ _ _ _ fun m hm => by
    rw [List.length_take] at hm
    rw [List.take_take, Nat.min_eq_left (by omega), Nat.zero_add]
    exact beg_less hx h (by omega)]
  rw [List.length_take, Nat.min_eq_left (by omega), Nat.zero_add]
  have hs' : symOf (2 * val 0 (bs.take n) + b.toNat) (n + 1) = some x := hs
  simp only [huffGo, hs', hn]

theorem go_end {bs : List Bool} (h : ∀ x, x < 257 → ¬ Beg x bs) (out : Bytes) : huffGo bs 0 0 true out = if 7 < bs.length ∨ bs.all id = false then .error 20 else .ok out := by
  have := go_none bs [] 0 0 true out fun m hm => by
    cases hc : symOf (val 0 (bs.take (m + 1))) (0 + m + 1) with
    | none => rfl
    | some x =>
      obtain ⟨h1, h2, h3⟩ := sym_back hc
      refine absurd ⟨by omega, ?_⟩ (h x h1)
      rw [h2, Nat.zero_add]; exact h3.symm
  rw [List.append_nil] at this
  rw [this]
  simp only [huffGo, Nat.zero_add, Bool.true_and]
end Go.M

/-
  The document's code: the walks of bits and of reading.
-/
namespace Go.E1
open Go Go.Proofs Go.M
set_option linter.unusedSimpArgs false

def kAt (j : Nat) : Nat := 128 / 2 ^ j
theorem chk_letter : (List.range 256).all (fun c => (List.range 8).all fun j => decide (IntKind.u8.wrap (IntKind.i64.wrap (48 + (IntKind.i64.wrap ((c : Int).tdiv (kAt j : Int))).tmod 2)) = (if c.testBit (7 - j) then 49 else 48))) = true := by kernel_rfl
theorem chk_k : (List.range 8).all (fun j => decide (IntKind.i64.wrap ((kAt j : Int).tdiv 2) = (kAt (j + 1) : Int) ∧ 0 < kAt j)) = true := by kernel_rfl
def letter (b : Bool) : UInt8 := if b then 49 else 48
theorem lets_append (a b : List Bool) : lets (a ++ b) = lets a ++ lets b := by simp [lets]
theorem bits_get (c : UInt8) {j : Nat} (hj : j < 8) : (bits8 c)[j]? = some (c.toNat.testBit (7 - j)) := by
  match j, hj with
  | 0, _ | 1, _ | 2, _ | 3, _ | 4, _ | 5, _ | 6, _ | 7, _ => rfl
theorem letter_eq (c : UInt8) {j : Nat} (hj : j < 8) : IntKind.u8.wrap (IntKind.i64.wrap (48 + (IntKind.i64.wrap ((c.toNat : Int).tdiv (kAt j : Int))).tmod 2)) = ((letter (c.toNat.testBit (7 - j))).toNat : Int) := by
  have := of_decide_eq_true (List.all_eq_true.1 (List.all_eq_true.1 chk_letter c.toNat (List.mem_range.2 c.toNat_lt)) j (List.mem_range.2 hj))
  rw [this]
  cases c.toNat.testBit (7 - j) <;> rfl


theorem sBits {h : LHeap} {l : Bytes} (hl : l.length < 100000) :
    LCalls EC 78 [.string (toBA l)] h fun u h' => u = .string (toBA (lets (bitsOf l))) ∧ Ext h h' := by
  refine LCalls.enter (lf := lf78) rfl rfl (by simp [lf78]) ?_
  simp only [go_sem, lf78, ↓reduceIte]
  refine MC.cutb (fun fr hh => ∃ v tl, fr = (0, .string (toBA l)) :: (3, v) :: tl ∧ OutAt hh h.size v (lets (bitsOf l)) ∧ Ext h hh) ?_ ?_
  · refine MC.loop (fun k fr hh => ∃ i v, k = l.length - i ∧ i ≤ l.length ∧ fr = [(0, .string (toBA l)), (3, v), (4, .int .i64 (i : Int))] ∧ OutAt hh h.size v (lets (bitsOf (l.take i))) ∧ Low h.size h hh) l.length ⟨0, _, rfl, Nat.zero_le _, rfl, .inl ⟨rfl, rfl⟩, Low.refl _ _⟩ ?_
    rintro k fr hh J ⟨i, v, rfl, hi, rfl, O, X⟩ hJ
    by_cases hlt : i < l.length
    · obtain ⟨c, hc⟩ : ∃ c, l[i]? = some c := ⟨l[i], by simp [hlt]⟩
      have c0 : (0 : Int) ≤ (i : Int) := by omega
      have c1 : (i : Int) < (l.length : Int) := by omega
      have w1 : IntKind.i64.wrap (c.toNat : Int) = (c.toNat : Int) := by have := c.toNat_lt; rw [IntWalk.i64_in _ (by omega)]
      have w3 : IntKind.i64.wrap ((i : Int) + 1) = ((i + 1 : Nat) : Int) := by rw [IntWalk.i64_in _ (by omega)]; omega
      have htk : bitsOf (l.take (i + 1)) = bitsOf (l.take i) ++ bits8 c := by
        rw [List.take_add_one, hc]; simp [bitsOf]
      have hlen : (bitsOf (l.take i)).length = 8 * i := by
        have : ∀ m : Bytes, (bitsOf m).length = 8 * m.length := by
          intro m
          induction m with
          | nil => rfl
          | cons x m ih => rw [bitsOf_cons, List.length_append, ih, bits8_len, List.length_cons]; omega
        rw [this, List.length_take, Nat.min_eq_left hi]
      simp only [go_sem, ↓reduceIte, c0, c1, hc, w1]
      refine MC.cutbb (fun fr hh => ∃ v tl, fr = (0, .string (toBA l)) :: (3, v) :: (4, .int .i64 (i : Int)) :: tl ∧ OutAt hh h.size v (lets (bitsOf (l.take (i + 1)))) ∧ Low h.size h hh) ?_ ?_
      · refine MC.loop (fun k fr hh => ∃ j v, k = 8 - j ∧ j ≤ 8 ∧ fr = [(0, .string (toBA l)), (3, v), (4, .int .i64 (i : Int)), (5, .int .i64 (c.toNat : Int)), (6, .int .i64 (kAt j : Int))] ∧ OutAt hh h.size v (lets (bitsOf (l.take i) ++ (bits8 c).take j)) ∧ Low h.size h hh) 8 ⟨0, v, rfl, by omega, rfl, by simpa using O, X⟩ ?_
        clear O X
        rintro k fr hh J2 ⟨j, v, rfl, hj, rfl, O, X⟩ hJ2
        by_cases hj8 : j < 8
        · have hk := of_decide_eq_true (List.all_eq_true.1 chk_k j (List.mem_range.2 hj8))
          have k1 : (0 : Int) < (kAt j : Int) := by omega
          have k2 : ¬ (kAt j : Int) = 0 := by omega
          have le := letter_eq c hj8
          obtain ⟨v', h', ha, O', X'⟩ := out_append (q := EC.q) O X.size (letter (c.toNat.testBit (7 - j))) (by rw [lets_len, List.length_append, hlen, List.length_take, bits8_len]; omega)
          simp only [go_sem, ↓reduceIte, k1, k2, le, ha, hk.1]
          refine hJ2 (8 - (j + 1)) _ _ (by omega) ⟨j + 1, v', rfl, by omega, rfl, ?_, X.trans X'⟩
          have : (bits8 c).take (j + 1) = (bits8 c).take j ++ [c.toNat.testBit (7 - j)] := by rw [List.take_add_one, bits_get c hj8]; rfl
          rw [this, ← List.append_assoc, lets_append]
          cases hb : c.toNat.testBit (7 - j) <;> rw [hb] at O' <;> exact O'
        · have k1 : ¬ (0 : Int) < (kAt j : Int) := by rw [show j = 8 by omega]; decide
          obtain rfl : j = 8 := by omega
          simp only [go_sem, ↓reduceIte, k1]
          refine ⟨v, _, rfl, ?_, X⟩
          rw [htk]
          exact O
      · rintro fr hh ⟨v, tl, rfl, O, X⟩
        simp only [go_sem, ↓reduceIte, w3]
        exact hJ (l.length - (i + 1)) _ _ (by omega) ⟨i + 1, v, rfl, by omega, rfl, O, X⟩
    · have c1 : ¬ (i : Int) < (l.length : Int) := by omega
      simp only [go_sem, ↓reduceIte, c1]
      rw [List.take_of_length_le (by omega)] at O
      exact ⟨v, _, rfl, O, X.ext (Nat.le_refl _)⟩
  · rintro fr hh ⟨v, tl, rfl, O, X⟩
    have e1 := out_str (q := EC.q) O
    simp only [go_sem, ↓reduceIte, e1]
    exact X
end Go.E1

/-
  The document's code: the walk of reading by codes.
-/
namespace Go.M
open Go.E1
noncomputable def begB (rest : List Bool) (x : Nat) : Bool := decide (lenOf x ≤ rest.length) && ((lets rest).take (lenOf x) == codeBits x)
theorem begB_iff {x : Nat} (hx : x < 257) (rest : List Bool) : begB rest x = true ↔ Beg x rest := by
  rw [beg_iff hx]
  simp [begB]
noncomputable def fndB (rest : List Bool) : Nat → Int
  | 0 => -1
  | x + 1 => if begB rest x then x else fndB rest x
theorem fnd_spec (rest : List Bool) : ∀ n, n ≤ 257 → (fndB rest n = -1 ∧ ∀ x, x < n → ¬ Beg x rest) ∨ ∃ x : Nat, x < n ∧ Beg x rest ∧ fndB rest n = x
  | 0, _ => .inl ⟨rfl, fun x hx => by omega⟩
  | n + 1, hn => by
    simp only [fndB]
    cases hb : begB rest n with
    | true => exact .inr ⟨n, by omega, (begB_iff (by omega) rest).1 hb, by simp⟩
    | false =>
      have hnb : ¬ Beg n rest := fun h => by rw [(begB_iff (by omega) rest).2 h] at hb; cases hb
      rcases fnd_spec rest n (by omega) with ⟨h1, h2⟩ | ⟨x, h1, h2, h3⟩
      · refine .inl ⟨by simpa using h1, fun x hx => ?_⟩
        rcases Nat.lt_succ_iff_lt_or_eq.1 hx with q | rfl
        · exact h2 x q
        · exact hnb
      · exact .inr ⟨x, by omega, h2, by simpa using h3⟩
end Go.M

namespace Go.E1
open Go Go.Proofs Go.M
set_option linter.unusedSimpArgs false

theorem x_substr {q : EqF} {h : LHeap} {l : Bytes} {i j : Nat} {k k' : IntKind} (hij : i ≤ j) (hj : j ≤ l.length) : lexec q (.sliceStr (.string (toBA l)) (some (.int k (i : Nat))) (some (.int k' (j : Nat)))) h = some (.string (toBA ((l.drop i).take (j - i))), h) := by
  have e : (toBA l).extract i j = toBA ((l.drop i).take (j - i)) := by
    apply ByteArray.ext
    rw [ByteArray.data_extract]
    simp [toBA]
  simp only [lexec, lo1]
  simp [hij, hj, e, toBA_size]

theorem codeAt {x : Nat} (hx : x < 257) : (strs codeAll.2)[x]? = some (.string (toBA (codeBits x))) := by
  rw [codes_all]
  simp [strs, hx]

set_option maxRecDepth 20000 in
theorem sRefHuff {h : LHeap} {bs : List Bool} (hl : bs.length < 1000000) :
    LCalls EC 77 [.string (toBA (lets bs))] h fun u h' => u = (match huffGo bs 0 0 true [] with
      | .error e => .tuple #[.string ⟨#[]⟩, .int .i64 (e : Nat)]
      | .ok s => .tuple #[.string (toBA s), .int .i64 0]) ∧ Ext h h' := by
  refine LCalls.enter (lf := lf77) rfl rfl (by simp [lf77]) ?_
  simp only [lf77]
  rw [MC_seq]
  refine MC.cut (fun fr hh => fr = [(0, .string (toBA (lets bs)))] ∧ hh = h) (by simp only [go_sem, ↓reduceIte]) ?_
  rintro fr hh ⟨rfl, rfl⟩
  rw [MC_seq]
  refine MC.cut (fun fr hx => ∃ b, fr = [(0, .string (toBA (lets bs))), (4, .pointer (some ⟨b, 0, none⟩))] ∧ hx.get b = some (.cells (strs codeAll.2) true true) ∧ b < hx.size ∧ Ext hh hx) ?_ ?_
  · simp only [go_sem, ↓reduceIte]
    refine MCall.by sCodes ?_
    rintro u h1 ⟨rfl, X1⟩
    have hl : (strs codeAll.2).length = 257 := by rw [strs_len]; exact codeAll_len
    have h3 : oneCells (strs codeAll.2) = true := by
      simp only [oneCells, strs, List.all_map]
      exact List.all_eq_true.2 fun x _ => rfl
    generalize strs codeAll.2 = cs at *
    simp only [go_sem, ↓reduceIte, hl, h3]
    exact ⟨h1.size, rfl, by simp, by simp, X1.trans ((Ext.push _ _).set (Nat.le_refl _) _)⟩
  generalize hres : huffGo bs 0 0 true [] = res
  rintro fr h1 ⟨b, rfl, gb, lb, X1⟩
  simp only [go_sem, ↓reduceIte]
  refine MC.cutb (fun fr hx => ∃ v s tl, fr = (0, .string (toBA (lets bs))) :: (4, .pointer (some ⟨b, 0, none⟩)) :: (5, v) :: tl ∧ OutAt hx h1.size v s ∧ res = .ok s ∧ Low h1.size h1 hx) ?_ ?_
  · refine MC.loop (fun k fr hx => ∃ at' v out, k = bs.length - at' ∧ at' ≤ bs.length ∧ fr = [(0, .string (toBA (lets bs))), (4, .pointer (some ⟨b, 0, none⟩)), (5, v), (6, .int .i64 (at' : Int))] ∧ OutAt hx h1.size v out ∧ Low h1.size h1 hx ∧ huffGo (bs.drop at') 0 0 true out = res ∧ out.length ≤ at') bs.length ⟨0, _, [], rfl, Nat.zero_le _, rfl, .inl ⟨rfl, rfl⟩, Low.refl _ _, hres, Nat.le_refl _⟩ ?_
    rintro k fr hx J ⟨a, v, out, rfl, ha, rfl, O, L, hgo, hol⟩ hJ
    have hll : (lets bs).length = bs.length := lets_len bs
    by_cases hlt : a < bs.length
    · have c1 : (a : Int) < (bs.length : Int) := by omega
      have gx : hx.get b = some (.cells (strs codeAll.2) true true) := by rw [L.get b lb]; exact gb
      have hdl : (bs.drop a).length = bs.length - a := List.length_drop
      simp only [go_sem, ↓reduceIte, hll, c1]
      refine MC.cutb (fun fr hy => ∃ tl, fr = (0, .string (toBA (lets bs))) :: (4, .pointer (some ⟨b, 0, none⟩)) :: (5, v) :: (6, .int .i64 (a : Int)) :: (7, .int .i64 (fndB (bs.drop a) 257)) :: tl ∧ hy = hx) ?_ ?_
      · refine MC.loop (fun k fr hy => ∃ x, k = 257 - x ∧ x ≤ 257 ∧ fr = [(0, .string (toBA (lets bs))), (4, .pointer (some ⟨b, 0, none⟩)), (5, v), (6, .int .i64 (a : Int)), (7, .int .i64 (fndB (bs.drop a) x)), (8, .int .i64 (x : Int))] ∧ hy = hx) 257 ⟨0, rfl, by omega, rfl, rfl⟩ ?_
        rintro k fr hy J2 ⟨x, rfl, hx257, rfl, rfl⟩ hJ2
        by_cases hxl : x < 257
        · have d0 : (0 : Int) ≤ (x : Int) := by omega
          have d1 : (x : Int) < 257 := by omega
          have w3 : IntKind.i64.wrap ((x : Int) + 1) = ((x + 1 : Nat) : Int) := by rw [IntWalk.i64_in _ (by omega)]; omega
          have hca := codeAt hxl
          have hcl : (codeBits x).length = lenOf x := letters_len _ _
          have hb30 := (sym_of hxl).2.2
          have w1 : IntKind.i64.wrap ((a : Int) + (lenOf x : Int)) = ((a + lenOf x : Nat) : Int) := by rw [IntWalk.i64_in _ (by omega)]; omega
          have hle1 : x + 1 ≤ (strs codeAll.2).length := by rw [strs_len, codeAll_len]; omega
          simp only [go_sem, ↓reduceIte, d0, d1, gx, hca, hcl]
          refine MC.dregion ?_
          by_cases hfit : a + lenOf x ≤ bs.length
          · have c2 : ((a + lenOf x : Nat) : Int) ≤ (bs.length : Int) := by omega
            have hss := x_substr (q := EC.q) (h := hy) (l := lets bs) (i := a) (j := a + lenOf x) (k := .i64) (k' := .i64) (by omega) (by omega)
            have e3 : ((lets bs).drop a).take (a + lenOf x - a) = (lets (bs.drop a)).take (lenOf x) := by rw [Nat.add_sub_cancel_left]; simp [lets]
            rw [e3] at hss
            simp only [go_sem, ↓reduceIte, reduceCtorEq, hll, d0, d1, gx, hca, hcl, w1, c2, hss]
            cases hb : ((lets (bs.drop a)).take (lenOf x) == codeBits x) with
            | true =>
              have hf : fndB (bs.drop a) (x + 1) = x := by
                have : begB (bs.drop a) x = true := by unfold begB; rw [hb]; simp; omega
                simp [fndB, this]
              simp only [go_sem, ↓reduceIte, w3]
              exact hJ2 (257 - (x + 1)) _ _ (by omega) ⟨x + 1, rfl, by omega, by rw [hf], rfl⟩
            | false =>
              have hf : fndB (bs.drop a) (x + 1) = fndB (bs.drop a) x := by
                have : begB (bs.drop a) x = false := by unfold begB; rw [hb]; simp
                simp [fndB, this]
              simp only [go_sem, ↓reduceIte, w3]
              exact hJ2 (257 - (x + 1)) _ _ (by omega) ⟨x + 1, rfl, by omega, by rw [hf], rfl⟩
          · have c2 : ¬ ((a + lenOf x : Nat) : Int) ≤ (bs.length : Int) := by omega
            have hf : fndB (bs.drop a) (x + 1) = fndB (bs.drop a) x := by
              have : begB (bs.drop a) x = false := by
                unfold begB
                rw [decide_eq_false (by omega)]; rfl
              simp [fndB, this]
            simp only [go_sem, ↓reduceIte, reduceCtorEq, hll, w1, c2, w3]
            exact hJ2 (257 - (x + 1)) _ _ (by omega) ⟨x + 1, rfl, by omega, by rw [hf], rfl⟩
        · have d1 : ¬ (x : Int) < 257 := by omega
          obtain rfl : x = 257 := by omega
          simp only [go_sem, ↓reduceIte, d1]
          exact ⟨_, rfl⟩
      · rintro fr hy ⟨tl, rfl, rfl⟩
        rcases fnd_spec (bs.drop a) 257 (Nat.le_refl _) with ⟨f1, f2⟩ | ⟨x, f1, f2, f3⟩
        · rw [go_end f2] at hgo
          have q1 : ((-1 : Int) == 256) = false := rfl
          rw [f1]
          simp only [go_sem, ↓reduceIte, q1]
          have w0 : IntKind.i64.wrap ((bs.length : Int) - (a : Int)) = ((bs.length - a : Nat) : Int) := by rw [IntWalk.i64_in _ (by omega)]; omega
          have bad : (7 < bs.length - a ∨ (bs.drop a).all id = false) → res = .error 20 := fun hb => by
            rw [hdl, if_pos hb] at hgo; exact hgo.symm
          refine MC.cutb (fun fr hz => ∃ tl, fr = (0, .string (toBA (lets bs))) :: (5, v) :: tl ∧ hz = hy ∧ res = .ok out) ?_ ?_
          · refine MC.loop (fun k fr hz => ∃ i, k = bs.length - i ∧ a ≤ i ∧ i ≤ bs.length ∧ fr = [(0, .string (toBA (lets bs))), (5, v), (6, .int .i64 (a : Int)), (10, .int .i64 (i : Int))] ∧ hz = hy ∧ ((bs.drop a).take (i - a)).all id = true ∧ (a < i → ¬ 7 < bs.length - a)) (bs.length - a) ⟨a, rfl, Nat.le_refl _, ha, rfl, rfl, by simp, fun h => absurd h (Nat.lt_irrefl _)⟩ ?_
            rintro k fr hz J3 ⟨i, rfl, hai, hi, rfl, rfl, hall, h7⟩ hJ3
            by_cases hil : i < bs.length
            · obtain ⟨c, hc⟩ : ∃ c, bs[i]? = some c := ⟨bs[i], by simp [hil]⟩
              have d0 : (0 : Int) ≤ (i : Int) := by omega
              have d1 : (i : Int) < (bs.length : Int) := by omega
              have w3 : IntKind.i64.wrap ((i : Int) + 1) = ((i + 1 : Nat) : Int) := by rw [IntWalk.i64_in _ (by omega)]; omega
              have htk : (bs.drop a).take (i + 1 - a) = (bs.drop a).take (i - a) ++ [c] := by
                rw [show i + 1 - a = i - a + 1 by omega, List.take_add_one, List.getElem?_drop, show a + (i - a) = i by omega, hc]; rfl
              cases c with
              | false =>
                have hlc : (lets bs)[i]? = some (48 : UInt8) := by simp [lets, hc]
                have q2 : (((48 : UInt8).toNat : Int) != 49) = true := rfl
                have hb : (bs.drop a).all id = false := by
                  rw [List.all_eq_false]
                  refine ⟨false, ?_, by simp⟩
                  exact List.mem_of_getElem? (i := i - a) (by rw [List.getElem?_drop, show a + (i - a) = i by omega]; exact hc)
                rw [bad (.inr hb)]
                simp only [go_sem, ↓reduceIte, hll, d0, d1, hlc, q2]
                exact X1.trans (L.ext (Nat.le_refl _))
              | true =>
                have hlc : (lets bs)[i]? = some (49 : UInt8) := by simp [lets, hc]
                have q2 : (((49 : UInt8).toNat : Int) != 49) = false := rfl
                by_cases hbig : 7 < bs.length - a
                · have q3 : (7 : Int) < ((bs.length - a : Nat) : Int) := by omega
                  rw [bad (.inl hbig)]
                  simp only [go_sem, ↓reduceIte, hll, d0, d1, hlc, q2, w0, q3]
                  exact X1.trans (L.ext (Nat.le_refl _))
                · have q3 : ¬ (7 : Int) < ((bs.length - a : Nat) : Int) := by omega
                  simp only [go_sem, ↓reduceIte, hll, d0, d1, hlc, q2, w0, q3, w3]
                  exact hJ3 (bs.length - (i + 1)) _ _ (by omega) ⟨i + 1, rfl, by omega, by omega, rfl, rfl, by rw [htk, List.all_append, hall]; rfl, fun _ => hbig⟩
            · have d1 : ¬ (i : Int) < (bs.length : Int) := by omega
              have hil2 : i = bs.length := by omega
              rw [hil2, List.take_of_length_le (by omega)] at hall
              have h8 := h7 (by omega)
              rw [hdl, if_neg (by rw [hall]; simp; omega)] at hgo
              simp only [go_sem, ↓reduceIte, hll, d1]
              exact ⟨_, rfl, hgo.symm⟩
          · rintro fr hz ⟨tl, rfl, rfl, rfl⟩
            have e1 := out_str (q := EC.q) O
            simp only [go_sem, ↓reduceIte, e1]
            exact X1.trans (L.ext (Nat.le_refl _))
        · rw [go_beg f1 f2] at hgo
          rw [f3]
          by_cases h256 : x = 256
          · subst h256
            rw [if_pos rfl] at hgo
            subst hgo
            simp only [go_sem, ↓reduceIte]
            exact X1.trans (L.ext (Nat.le_refl _))
          · rw [if_neg h256] at hgo
            have q1 : ((x : Int) == 256) = false := by simp; omega
            have q2 : ¬ (x : Int) < 0 := by omega
            have wx : IntKind.u8.wrap (x : Int) = ((UInt8.ofNat x).toNat : Int) := by
              rw [IntWalk.u8_in _ (by omega)]; simp; omega
            have hca := codeAt f1
            have hcl : (codeBits x).length = lenOf x := letters_len _ _
            have hb30 := (sym_of f1).2.2
            have hfit := f2.1
            have w1 : IntKind.i64.wrap ((a : Int) + (lenOf x : Int)) = ((a + lenOf x : Nat) : Int) := by rw [IntWalk.i64_in _ (by omega)]; omega
            have d0 : (0 : Int) ≤ (x : Int) := by omega
            have d1 : (x : Int) < 257 := by omega
            obtain ⟨v', h', hap, O', L'⟩ := out_append (q := EC.q) O L.size (UInt8.ofNat x) (by omega)
            have gx' : h'.get b = some (.cells (strs codeAll.2) true true) := by rw [L'.get b lb]; exact gx
            simp only [go_sem, ↓reduceIte, q1, q2, wx, hap, d0, d1, gx', hca, hcl, w1]
            refine hJ (bs.length - (a + lenOf x)) _ _ (by omega) ⟨a + lenOf x, v', _, rfl, by omega, rfl, O', L.trans L', ?_, by simp; omega⟩
            rw [← hgo, List.drop_drop]
    · have c1 : ¬ (a : Int) < (bs.length : Int) := by omega
      rw [List.drop_eq_nil_of_le (by omega)] at hgo
      simp only [go_sem, ↓reduceIte, hll, c1]
      exact ⟨v, out, _, rfl, O, hgo.symm, L⟩
  · rintro fr hx ⟨v, s, tl, rfl, O, rfl, L⟩
    have e1 := out_str (q := EC.q) O
    simp only [go_sem, ↓reduceIte, e1]
    exact X1.trans (L.ext (Nat.le_refl _))
end Go.E1
