/-
 Layer 23: InboundAny.
-/
import Derived.Test.YtdbjklgnhbmlaaaGreatKq
namespace Go.M
open Go.E1
theorem feedS_dead (s : Sd) (l : Bytes) : (feedS s l).1.dead = (s.dead || decide ((feedS s l).2.2 ≠ okF)) := by
 unfold feedS
 by_cases c1 : s.dead = true
 ·rw [if_pos c1]; simp [c1]
 ·rw [if_neg c1]
  have c1' : s.dead = false := by simpa using c1
  by_cases c2 : s.big = true
  ·rw [if_pos c2]; simp [c1', okF]
  ·rw [if_neg c2]
   cases allF 16384 ((s.wait ++ l).length + 1) (s.wait ++ l) with
   | none => simp [okF]
   | some p => simp [c1']
theorem feedS_was {s : Sd} (h : s.dead = true) (l : Bytes) : feedS s l = (s, [], (105, true)) := by simp [feedS, h]
end Go.M
namespace Go.E1
open Go Go.Proofs Go.M
set_option linter.unusedSimpArgs false

theorem BA.bytes {h : LHeap} {v : Value} {l : Bytes} (a : BA h v l) : BytesAt h v l := by
 rcases a with ⟨h1, h2⟩ | ⟨b, o, h1, B⟩
 ·exact .inl ⟨h1, 0, h2⟩
 ·obtain ⟨h2, cs, t, r, h3, h4, h5⟩ := B
  exact .inr ⟨b, o, cs, t, r, h1, h2, h3, h4, h5⟩
theorem EvL.len {q : EqF} {lo : Nat} {FD : Nat → Prop} {h hh : LHeap} {v : Value} {es : List Ev} {ps : List EvP} (E : EvL lo FD hh v es ps) : lexec q (.lenS v) h = some (.int .i64 es.length, h) := by
 rw [E.gl.len, ← E.fst, List.length_map]

theorem LRd_blocksI {h : LHeap} {n : Nat} {cs : List Value} (hl : LRd Tryz.prog h n 68 cs) : ∃ v ls, cs = [v] ∧ BL h v ls ∧ (∀ l ∈ ls, l.length ≤ reachBytes) ∧ ls.length ≤ reachBytes := by
 rcases LRd_slice Tryz.underlying68 hl with rfl | ⟨b, len, css, m, rfl, rfl, h1, h2, h3, h4, h5⟩
 ·exact ⟨_, [], rfl, .inl ⟨rfl, rfl⟩, by simp, by simp⟩
 ·rw [cells_bs] at h5 ⊢
  have key : ∀ (css : List (List Value)), (∀ c ∈ css, c.length = 1 ∧ LRd Tryz.prog h m 23 c) → ∃ ls : List Bytes, css.flatten.length = ls.length ∧ ls.length = css.length ∧ (∀ l ∈ ls, l.length ≤ reachBytes) ∧ ∀ (i : Nat) (u : Value) (l : Bytes), css.flatten[i]? = some u → ls[i]? = some l → BA h u l := by
   intro css
   induction css with
   | nil => intro _; exact ⟨[], rfl, rfl, by simp, by simp⟩
   | cons c css ih =>
    intro hc
    obtain ⟨ls, h6, h7, h8, h9⟩ := ih fun x hx => hc x (List.mem_cons_of_mem _ hx)
    obtain ⟨v, l, rfl, hb, hle⟩ := LRd_bytes (hc c (List.mem_cons_self ..)).2
    refine ⟨l :: ls, by simp at h6 ⊢; omega, by simp [h7], ?_, ?_⟩
    ·intro x hx
     rcases List.mem_cons.1 hx with rfl | hx
     ·exact hle
     ·exact h8 x hx
    ·intro i u x hu hx
     cases i with
     | zero =>
      simp only [List.flatten_cons, List.singleton_append, List.getElem?_cons_zero, Option.some.injEq] at hu hx
      subst hu; subst hx
      exact hb
     | succ i => exact h9 i u x (by simpa using hu) (by simpa using hx)
  obtain ⟨ls, h6, h7, h8, h9⟩ := key css h5
  exact ⟨_, ls, rfl, .inr ⟨b, _, _, _, by rw [h7, h3], h1, h2, h6, h9⟩, h8, by omega⟩
theorem BL.atI {h : LHeap} {v : Value} {ls : List Bytes} (B : BL h v ls) {i : Nat} (hi : i < ls.length) : ∃ b vs t r u l, v = .slice (some ⟨b, 0, none⟩) ls.length 1 ∧ b < h.size ∧ h.get b = some (.cells vs t r) ∧ vs[i]? = some u ∧ ls[i]? = some l ∧ BA h u l := by
 rcases B with ⟨rfl, _⟩ | ⟨b, vs, t, r, h1, h2, h3, h4, h5⟩
 ·simp at hi
 ·exact ⟨b, vs, t, r, vs[i]'(by omega), ls[i], h1, h2, h3, by simp, by simp, h5 i _ _ (by simp) (by simp)⟩
theorem larg_blocksI {h : LHeap} {n : Nat} {lv : Value} (hl : LArg Tryz.prog h n 68 lv) : ∃ ls, BL h lv ls ∧ (∀ l ∈ ls, l.length ≤ reachBytes) ∧ ls.length ≤ reachBytes := by
 rcases hl with ⟨g1, _⟩ | ⟨_, hl⟩
 ·simp [isAggP, Tryz.underlying68] at g1
 ·obtain ⟨v, l, h1, h2, h3⟩ := LRd_blocksI hl
  simp only [List.cons.injEq, and_true] at h1
  subst h1
  exact ⟨l, h2, h3⟩

theorem sAny {h : LHeap} {v : Value} {ls : List Bytes} (B : BL h v ls) (hr : ∀ l ∈ ls, l.length ≤ reachBytes) (hlr : ls.length ≤ reachBytes) : LCalls EC 9 [v] h fun u _ => u = .bool true := by
 have hrb : reachBytes ≤ 140737488355328 := by decide
 refine LCalls.enter (lf := lf9) rfl rfl (by simp [lf9]) ?_
 simp only [go_sem, lf9, ↓reduceIte]
 refine MCall.by wNewI ?_
 rintro u h2 ⟨rb, M, F, rfl, I2, X2, hF⟩
 have eL := fun hh => B.len (q := EC.q) (h := hh)
 simp only [go_sem, ↓reduceIte, eL]
 refine MC.cutb (fun fr hh => ∃ k tl, hh = h2 ∧ fr = (0, v) :: (3, .pointer (some ⟨rb, 0, none⟩)) :: (4, .int .i64 k) :: tl ∧ (ls.length ≤ 100 → k = (sumB ls : Nat))) ?_ ?_
 ·refine MC.loop (fun m fr hh => ∃ i k, m = ls.length - i ∧ i ≤ ls.length ∧ hh = h2 ∧ fr = [(0, v), (3, .pointer (some ⟨rb, 0, none⟩)), (4, .int .i64 k), (14, v), (15, .int .i64 (ls.length : Nat)), (16, .int .i64 (i : Nat))] ∧ (ls.length ≤ 100 → k = (sumB (ls.take i) : Nat) ∧ sumB (ls.take i) ≤ i * 140737488355333)) ls.length ⟨0, 0, rfl, Nat.zero_le _, rfl, rfl, fun _ => by simp [sumB]⟩ ?_
  rintro m fr hh J ⟨i, k, rfl, hi, rfl, rfl, hk⟩ hJ
  by_cases hlt : i < ls.length
  ·obtain ⟨b, vs, t, r, u, l, rfl, g1, g2, g3, g4, A⟩ := B.atI hlt
   have c0 : (0 : Int) ≤ (i : Int) := by omega
   have c1 : (i : Int) < (ls.length : Int) := by omega
   have hg : hh.get b = some (.cells vs t r) := by rw [X2.get _ g1]; exact g2
   have eA := fun h' => A.len (q := EC.q) (h := h')
   have hll := hr l (List.mem_of_getElem? g4)
   have hsum : sumB (ls.take (i + 1)) = sumB (ls.take i) + (5 + l.length) := by
    rw [List.take_add_one, g4, sumB_append]; simp [sumB]
   by_cases h100 : ls.length ≤ 100
   ·obtain ⟨rfl, hb⟩ := hk h100
    have w1 : IntKind.i64.wrap (5 + (l.length : Int)) = ((5 + l.length : Nat) : Int) := by rw [IntWalk.i64_in _ (by omega)]; omega
    have w2 : IntKind.i64.wrap (((sumB (ls.take i) : Nat) : Int) + ((5 + l.length : Nat) : Int)) = ((sumB (ls.take (i + 1)) : Nat) : Int) := by rw [IntWalk.i64_in _ (by omega), hsum]; omega
    have w3 : IntKind.i64.wrap ((i : Int) + 1) = ((i + 1 : Nat) : Int) := by rw [IntWalk.i64_in _ (by omega)]; omega
    simp only [go_sem, ↓reduceIte, c0, c1, Int.toNat_natCast, Nat.mul_one, hg, g3, eA, w1, w2, w3]
    exact hJ _ _ _ (by omega) ⟨i + 1, _, rfl, by omega, rfl, rfl, fun _ => ⟨rfl, by rw [hsum]; omega⟩⟩
   ·have hln : ls.length < 1000000000000000 := by omega
    have w3 : IntKind.i64.wrap ((i : Int) + 1) = ((i + 1 : Nat) : Int) := by rw [IntWalk.i64_in _ (by omega)]; omega
    simp only [go_sem, ↓reduceIte, c0, c1, Int.toNat_natCast, Nat.mul_one, hg, g3, eA, w3]
    exact hJ _ _ _ (by omega) ⟨i + 1, _, rfl, by omega, rfl, rfl, fun q => absurd q h100⟩
  ·have c1 : ¬ (i : Int) < (ls.length : Int) := by omega
   obtain rfl : i = ls.length := by omega
   simp only [go_sem, ↓reduceIte, c1]
   exact ⟨_, _, rfl, fun q => by have := (hk q).1; rwa [List.take_length] at this⟩
 ·rintro fr hh ⟨k, tl, rfl, rfl, hk⟩
  simp only [go_sem, ↓reduceIte, eL]
  by_cases h600 : 600 < k
  ·have d : k > 600 := h600
   simp only [h600, d, decide_true, go_sem, ↓reduceIte]
  ·have d : ¬ k > 600 := h600
   by_cases h100 : 100 < ls.length
   ·have d1 : (100 : Int) < (ls.length : Int) := by omega
    have d2 : (ls.length : Int) > 100 := by omega
    simp only [h600, d, d1, d2, decide_true, decide_false, go_sem, ↓reduceIte, eL]
   ·have d1 : ¬ (100 : Int) < (ls.length : Int) := by omega
    have d2 : ¬ (ls.length : Int) > 100 := by omega
    have hk2 := hk (by omega)
    simp only [h600, d, d1, d2, decide_true, decide_false, go_sem, ↓reduceIte, eL]
    refine MC.cutb (fun fr hh => ∃ c tl, c ≤ 1 ∧ fr = (3, .pointer (some ⟨rb, 0, none⟩)) :: (7, .int .i64 (c : Nat)) :: tl) ?_ ?_
    ·refine MC.loop (fun m fr hh => ∃ i c s M F, m = ls.length - i ∧ i ≤ ls.length ∧ fr = [(3, .pointer (some ⟨rb, 0, none⟩)), (7, .int .i64 (c : Nat)), (42, v), (43, .int .i64 (ls.length : Nat)), (44, .int .i64 (i : Nat))] ∧ InW hh rb s M F ∧ Ext h hh ∧ (∀ c, F c → h.size ≤ c) ∧ c ≤ 1 ∧ (s.dead = false → c = 0)) ls.length
      ⟨0, 0, sd0, M, F, rfl, Nat.zero_le _, rfl, I2, X2, hF, by omega, fun _ => rfl⟩ ?_
     clear I2 hF
     rintro m fr hh J ⟨i, c, s, M, F, rfl, hi, rfl, I, X, hF, hc1, hc0⟩ hJ
     by_cases hlt : i < ls.length
     ·obtain ⟨b, vs, t, r, u, l, rfl, g1, g2, g3, g4, A⟩ := B.atI hlt
      have c0 : (0 : Int) ≤ (i : Int) := by omega
      have c1 : (i : Int) < (ls.length : Int) := by omega
      have hg : hh.get b = some (.cells vs t r) := by rw [X.get _ g1]; exact g2
      have hll := sumB_mem (List.mem_of_getElem? g4)
      have w3 : IntKind.i64.wrap ((i : Int) + 1) = ((i + 1 : Nat) : Int) := by rw [IntWalk.i64_in _ (by omega)]; omega
      simp only [go_sem, ↓reduceIte, c0, c1, Int.toNat_natCast, Nat.mul_one, hg, g3]
      refine MCall.by (wDeadI I) ?_
      rintro u h3 ⟨rfl, rfl⟩
      simp only [go_sem, ↓reduceIte]
      refine MCall.by (wFeedI I ((BA.bytes A).ext X) (by omega)) ?_
      rintro u h4 ⟨M', F', I4, hM4, hF4, K4, ov, ps, rfl, E4⟩
      have hdead := feedS_dead s l
      have hwas := fun q => feedS_was (s := s) q l
      have X4 : Ext h h4 := Ext.of_keep X K4 (fun c hc => hF c (I.sub c hc))
      have hF4' : ∀ c, F' c → h.size ≤ c := fun c hc => (hF4 c hc).elim (hF c) fun q => by have := X.size; omega
      generalize feedS s l = R at *
      obtain ⟨s', es, z⟩ := R
      simp only at hdead hwas I4 E4
      simp only [fltV, go_sem, ↓reduceIte]
      generalize hq : LHeap.set _ h4.size _ = h5
      have X5 : Ext h4 h5 := by rw [← hq]; exact (Ext.push _ _).set (Nat.le_refl _) _
      have g5 : h5.get h4.size = some (.cells [.int .i64 (z.1 : Nat), .bool z.2] true true) := by rw [← hq]; simp
      have s5 : h5.size = h4.size + 1 := by rw [← hq]; simp
      clear hq
      refine MCall.by (sOKF z) ?_
      rintro u h6 ⟨rfl, X6⟩
      have g6 := (X6.get h4.size (by omega)).trans g5
      have X46 := X5.trans X6
      have I6 := I4.ext X46
      have hw := I4.wait
      have ht := I4.text
      have wd : ¬ ((s'.wait.length + s'.rd.asm.text.length : Nat) : Int) > 32777 := by omega
      have wd' : ¬ (32777 : Int) < ((s'.wait.length + s'.rd.asm.text.length : Nat) : Int) := by omega
      have eO := fun hh => E4.len (q := EC.q) (h := hh)
      cases hs : s.dead with
      | true =>
       obtain h1 := hwas hs
       cases h1
       have dz : decide (((105, true) : Flt) = okF) = false := rfl
       simp only [dz, go_sem, ↓reduceIte, eO, List.length_nil, g6]
       refine MCall.by (wDeadI I6) ?_
       rintro u h7 ⟨rfl, rfl⟩
       simp only [hs, go_sem, ↓reduceIte]
       refine MCall.by (wWaitI I6) ?_
       rintro u h8 ⟨rfl, rfl⟩
       simp only [go_sem, ↓reduceIte, wd, wd', decide_false, w3]
       exact hJ _ _ _ (by omega) ⟨i + 1, c, s, M', F', rfl, by omega, rfl, I6, X4.trans X46, hF4', hc1, hc0⟩
      | false =>
       obtain rfl := hc0 hs
       rw [hs] at hdead
       by_cases hz : z = okF
       ·have hd' : s'.dead = false := by simp [hdead, hz]
        simp only [hz, decide_true, go_sem, ↓reduceIte]
        refine MCall.by (wDeadI I6) ?_
        rintro u h7 ⟨rfl, rfl⟩
        subst hz
        simp only [hd', go_sem, ↓reduceIte, g6]
        refine MCall.by (sOKF okF) ?_
        rintro u h8 ⟨rfl, X8⟩
        simp only [decide_true, go_sem, ↓reduceIte]
        refine MCall.by (wWaitI (I6.ext X8)) ?_
        rintro u h9 ⟨rfl, rfl⟩
        simp only [go_sem, ↓reduceIte, wd, wd', decide_false, w3]
        exact hJ _ _ _ (by omega) ⟨i + 1, 0, s', M', F', rfl, by omega, rfl, I6.ext X8, (X4.trans X46).trans X8, hF4', by omega, fun _ => rfl⟩
       ·have hd' : s'.dead = true := by simp [hdead, hz]
        have w4 : IntKind.i64.wrap (((0 : Nat) : Int) + 1) = ((1 : Nat) : Int) := rfl
        have w5 : IntKind.i64.wrap ((0 : Int) + 1) = ((1 : Nat) : Int) := rfl
        simp only [hz, decide_false, go_sem, ↓reduceIte, w4, w5]
        refine MCall.by (wDeadI I6) ?_
        rintro u h7 ⟨rfl, rfl⟩
        simp only [hd', go_sem, ↓reduceIte, g6]
        refine MCall.by (sOKF z) ?_
        rintro u h8 ⟨rfl, X8⟩
        simp only [hz, decide_false, go_sem, ↓reduceIte]
        refine MCall.by (wWaitI (I6.ext X8)) ?_
        rintro u h9 ⟨rfl, rfl⟩
        simp only [go_sem, ↓reduceIte, wd, wd', decide_false, w3]
        exact hJ _ _ _ (by omega) ⟨i + 1, 1, s', M', F', rfl, by omega, rfl, I6.ext X8, (X4.trans X46).trans X8, hF4', by omega, fun q => by rw [hd'] at q; cases q⟩
     ·have c1 : ¬ (i : Int) < (ls.length : Int) := by omega
      simp only [go_sem, ↓reduceIte, c1]
      exact ⟨c, _, hc1, rfl⟩
    ·rintro fr hh ⟨c, tl, hc, rfl⟩
     have d : (c : Int) ≤ 1 := by omega
     simp only [d, decide_true, go_sem, ↓reduceIte]
theorem lawAny (h : LHeap) (lvs : List Value) (hl : LArgs Tryz.prog h 6 [68] lvs) : LCalls EC 9 lvs h fun v _ => v = .bool true := by
 obtain ⟨v0, r0, rfl, h0, hr0⟩ := LArgs_cons hl
 obtain rfl := LArgs_nil hr0
 obtain ⟨ls, hb, hr, hlr⟩ := larg_blocksI h0
 exact sAny hb hr hlr
end Go.E1
