/-
  Texts joined: NJ, NK, NL, NO.
-/
import Derived.Test.YtdbjklgnhbmlaaaGreatKn
/-
 Layer 10: what a frame says.
-/
namespace Go.E1
open Go Go.Proofs Go.M
set_option linter.unusedSimpArgs false

def frc4 (f : Frm) (fv : Value) : List Value := [.int .i64 (f.ty : Nat), .int .i64 (f.fl : Nat), .int .i64 (f.st : Nat), fv]
def itV (x : Itm) (tv pv : Value) : Value := .agg (itc x tv pv).toArray

theorem sLook1 {h : LHeap} {f : Frm} {fv : Value} {fb : Nat} (g : h.get fb = some (.cells (frc4 f fv) true true)) (hlt : fb < h.size) :
  LCalls EC 129 [.pointer (some ⟨fb, 0, none⟩)] h fun u h' => u = fltV (placeF f) ∧ Ext h h' := by
 refine LCalls.enter (lf := lf129) rfl rfl (by simp [lf129]) ?_
 have hn : ¬ fb = h.size := by omega
 simp only [frc4] at g
 simp only [go_sem, lf129, ↓reduceIte, g, hn]
 refine MCall.by (sPlace f fv) ?_
 rintro u h2 ⟨rfl, X2⟩
 have s2 := X2.size
 have g2 := X2.get h.size (by simp)
 simp only [go_sem, ↓reduceIte] at g2 s2
 simp only [fltV, go_sem, ↓reduceIte, g2]
 exact ((Ext.push _ _).trans X2).set (Nat.le_refl _) _
theorem sLook2 {h : LHeap} {f : Frm} {fv : Value} {fb : Nat} (g : h.get fb = some (.cells (frc4 f fv) true true)) (hlt : fb < h.size) (hv : BytesAt h fv f.pl) (hf : f.fl < 4294967296) (hl : f.pl.length < 1000000) :
  LCalls EC 131 [.pointer (some ⟨fb, 0, none⟩)] h fun u h' => u = fltV (lengthF f) ∧ Ext h h' := by
 refine LCalls.enter (lf := lf131) rfl rfl (by simp [lf131]) ?_
 have hn : ¬ fb = h.size := by omega
 simp only [frc4] at g
 simp only [go_sem, lf131, ↓reduceIte, g, hn]
 refine MCall.by (sLength f fv (hv.ext (Ext.push _ _)) hf (by omega)) ?_
 rintro u h2 ⟨rfl, X2⟩
 have s2 := X2.size
 have g2 := X2.get h.size (by simp)
 simp only [go_sem, ↓reduceIte] at g2 s2
 simp only [fltV, go_sem, ↓reduceIte, g2]
 exact ((Ext.push _ _).trans X2).set (Nat.le_refl _) _
theorem sLook3 {h : LHeap} {f : Frm} {fv : Value} {x : Itm} {ib fb : Nat} (g : h.get fb = some (.cells (frc4 f fv) true true)) (hlt : fb < h.size) (hi : h.get ib = some (.cells (itc x sl0 sl0) true true)) (hib : ib < h.size) (hx : x.text = []) (hxp : x.pairs = [])
  (hv : BytesAt h fv f.pl) (hf : f.fl < 4294967296) (hl : f.pl.length < 1000000) (hL : lengthF f = okF) (hvb : blkOf fv ≠ some ib) :
  LCalls EC 133 [.pointer (some ⟨ib, 0, none⟩), .pointer (some ⟨fb, 0, none⟩)] h fun u h' => u = fltV (readI x f).2 ∧ ItAt h.size ib h' (readI x f).1 ∧ Kp h.size ib h h' := by
 refine LCalls.enter (lf := lf133) rfl rfl (by simp [lf133]) ?_
 have hn : ¬ fb = h.size := by omega
 have hni : ¬ ib = h.size := by omega
 simp only [frc4] at g
 have gi1 : (h.push (.cells [.int .i64 0, .bool false] true true)).get ib = some (.cells (itc x sl0 sl0) true true) := by simp [hni, hi]
 simp only [go_sem, lf133, ↓reduceIte, g, hn]
 refine MCall.by (sRead gi1 (by simp; omega) hx hxp (hv.ext (Ext.push _ _)) hf hl hL hvb) ?_
 rintro u h2 ⟨rfl, I2, K2⟩
 have s2 := K2.size
 simp only [LHeap.size_push] at s2 I2 K2
 have g2 := K2.get h.size (by omega) (by omega)
 simp only [go_sem, ↓reduceIte] at g2
 simp only [fltV, go_sem, ↓reduceIte, g2]
 obtain ⟨tv, pv, k1, k2, k3, k4, k5⟩ := I2
 refine ⟨⟨tv, pv, by simpa [hni] using k1, k2.upd (fun e => by have := k3 _ e; omega) (Upd.set h.size _ _), fun b hb => by have := k3 b hb; omega, k4.upd (Upd.set h.size _ _) (fun e => by have := k5 _ e; omega), fun b hb => by have := k5 b hb; omega⟩, ?_⟩
 exact ((Ext.push _ _).kp (Nat.le_refl _)).trans ((⟨by simpa using s2, fun b b1 b2 => K2.get b (by omega) b2⟩ : Kp h.size ib _ h2).trans (Kp.hi _ _ (Nat.le_refl _)))

theorem Kp.toExt {lo ib : Nat} {h h1 h2 : LHeap} (K : Kp lo ib h1 h2) (hl : h.size ≤ lo) (hi : h.size ≤ ib) (X : Ext h h1) : Ext h h2 := ⟨Nat.le_trans X.size K.size, fun b hb => (K.get b (by omega) (by omega)).trans (X.get b hb)⟩
theorem ItAt.ext {lo ib : Nat} {h h' : LHeap} {y : Itm} (I : ItAt lo ib h y) (hib : ib < h.size) (X : Ext h h') : ItAt lo ib h' y := by
 obtain ⟨tv, pv, k1, k2, k3, k4, k5⟩ := I
 exact ⟨tv, pv, (X.get ib hib).trans k1, k2.ext X, k3, k4.ext X, k5⟩
theorem ItAt.lo {lo lo' ib : Nat} {h : LHeap} {y : Itm} (I : ItAt lo ib h y) (hl : lo' ≤ lo) : ItAt lo' ib h y := by
 obtain ⟨tv, pv, k1, k2, k3, k4, k5⟩ := I
 exact ⟨tv, pv, k1, k2, fun b hb => by have := k3 b hb; omega, k4, fun b hb => by have := k5 b hb; omega⟩
theorem Kp.low {lo lo' ib : Nat} {h h' : LHeap} (K : Kp lo' ib h h') (hl : lo ≤ lo') : Kp lo ib h h' := ⟨K.size, fun b b1 b2 => K.get b (by omega) b2⟩
def ParseJ (h : LHeap) (f : Frm) (fv : Value) (fr : Fr) (hh : LHeap) : Prop :=
 ∃ tl, fr = (1, .pointer (some ⟨h.size, 0, none⟩)) :: (2, .pointer (some ⟨h.size + 1, 0, none⟩)) :: (3, .pointer (some ⟨h.size + 1 + 1, 0, none⟩)) :: (4, .pointer (some ⟨h.size + 1 + 1 + 1, 0, none⟩)) :: tl ∧
  hh.size = h.size + 1 + 1 + 1 + 1 ∧ hh.get h.size = some (.cells (frc4 f fv) true true) ∧ hh.get (h.size + 1) = some (.cells (itc ⟨0, 0, [], false, false, false, 0, 0, 0, 0, 0, 0, false, false, []⟩ sl0 sl0) true true) ∧ hh.get (h.size + 1 + 1) = some (.cells [.int .i64 0, .bool false] true true) ∧
  hh.get (h.size + 1 + 1 + 1) = some (.cells (itc (bareI f) sl0 sl0) true true) ∧ Ext h hh
theorem nn (n : Nat) : ¬ n = n + 1 ∧ ¬ n = n + 1 + 1 ∧ ¬ n = n + 1 + 1 + 1 ∧ ¬ n = n + 1 + 1 + 1 + 1 ∧ ¬ n = n + 1 + 1 + 1 + 1 + 1 ∧ ¬ n + 1 = n ∧ ¬ n + 1 = n + 1 + 1 ∧ ¬ n + 1 = n + 1 + 1 + 1 ∧ ¬ n + 1 = n + 1 + 1 + 1 + 1 ∧ ¬ n + 1 = n + 1 + 1 + 1 + 1 + 1 ∧ ¬ n + 1 + 1 = n ∧ ¬ n + 1 + 1 = n + 1 ∧ ¬ n + 1 + 1 = n + 1 + 1 + 1 ∧ ¬ n + 1 + 1 = n + 1 + 1 + 1 + 1 ∧ ¬ n + 1 + 1 = n + 1 + 1 + 1 + 1 + 1 ∧ ¬ n + 1 + 1 + 1 = n ∧ ¬ n + 1 + 1 + 1 = n + 1 ∧ ¬ n + 1 + 1 + 1 = n + 1 + 1 ∧ ¬ n + 1 + 1 + 1 = n + 1 + 1 + 1 + 1 ∧ ¬ n + 1 + 1 + 1 = n + 1 + 1 + 1 + 1 + 1 ∧ ¬ n + 1 + 1 + 1 + 1 = n ∧ ¬ n + 1 + 1 + 1 + 1 = n + 1 ∧ ¬ n + 1 + 1 + 1 + 1 = n + 1 + 1 ∧ ¬ n + 1 + 1 + 1 + 1 = n + 1 + 1 + 1 ∧ ¬ n + 1 + 1 + 1 + 1 = n + 1 + 1 + 1 + 1 + 1 ∧ ¬ n + 1 + 1 + 1 + 1 + 1 = n ∧ ¬ n + 1 + 1 + 1 + 1 + 1 = n + 1 ∧ ¬ n + 1 + 1 + 1 + 1 + 1 = n + 1 + 1 ∧ ¬ n + 1 + 1 + 1 + 1 + 1 = n + 1 + 1 + 1 ∧ ¬ n + 1 + 1 + 1 + 1 + 1 = n + 1 + 1 + 1 + 1 := by omega

theorem sParseI {h : LHeap} {f : Frm} {fv : Value} (hv : BytesAt h fv f.pl) (hf : f.fl < 4294967296) (hl : f.pl.length < 1000000) :
  LCalls EC 103 [frV f fv] h fun u h' => ∃ tv pv, u = .tuple #[itV (parseI f).1 tv pv, fltV (parseI f).2] ∧ BytesAt h' tv (parseI f).1.text ∧ (∀ b, blkOf tv = some b → h.size ≤ b) ∧ GL 2 pc h' pv (parseI f).1.pairs ∧ (∀ b, blkOf pv = some b → h.size ≤ b) ∧ Ext h h' := by
 refine LCalls.enter (lf := lf103) rfl rfl (by simp [lf103]) ?_
 have eL := fun hh => hv.len (q := EC.q) (h := hh)
 obtain ⟨q01, q02, q03, q04, q05, q10, q12, q13, q14, q15, q20, q21, q23, q24, q25, q30, q31, q32, q34, q35, q40, q41, q42, q43, q45, q50, q51, q52, q53, q54⟩ := nn h.size
 have ht : ((f.ty : Int) == 0) = decide (f.ty = 0) := by
  by_cases c : f.ty = 0
  ·rw [c]; rfl
  ·simp only [c, decide_false]; exact ne_lit (k := 0) c
 simp only [frV, go_sem, lf103, ↓reduceIte, eL, q01, q02, q03, q04, q05, q10, q12, q13, q14, q15, q20, q21, q23, q24, q25, q30, q31, q32, q34, q35, q40, q41, q42, q43, q45, q50, q51, q52, q53, q54, ht]
 refine MB.cut (ParseJ h f fv) ?_ ?_
 ·have X0 := fun (a b c d e : LObj) => ((((Ext.push h a).trans (Ext.push _ b)).trans (Ext.push _ c)).trans (Ext.push _ d)).set (b := h.size + 1 + 1 + 1) (by omega) e
  by_cases c0 : f.ty = 0
  ·simp only [c0, decide_true, go_sem, ↓reduceIte, eL, q01, q02, q03, q04, q05, q10, q12, q13, q14, q15, q20, q21, q23, q24, q25, q30, q31, q32, q34, q35, q40, q41, q42, q43, q45, q50, q51, q52, q53, q54]
   refine ⟨_, rfl, by simp, by simp [frc4, c0, q01, q02, q03, q04, q05, q10, q12, q13, q14, q15, q20, q21, q23, q24, q25, q30, q31, q32, q34, q35, q40, q41, q42, q43, q45, q50, q51, q52, q53, q54], by simp [itc, sl0, q01, q02, q03, q04, q05, q10, q12, q13, q14, q15, q20, q21, q23, q24, q25, q30, q31, q32, q34, q35, q40, q41, q42, q43, q45, q50, q51, q52, q53, q54], by simp [q01, q02, q03, q04, q05, q10, q12, q13, q14, q15, q20, q21, q23, q24, q25, q30, q31, q32, q34, q35, q40, q41, q42, q43, q45, q50, q51, q52, q53, q54], by simp [itc, sl0, bareI, c0], (X0 _ _ _ _ _).set (by omega) _⟩
  ·simp only [c0, decide_false, go_sem, ↓reduceIte, eL, q01, q02, q03, q04, q05, q10, q12, q13, q14, q15, q20, q21, q23, q24, q25, q30, q31, q32, q34, q35, q40, q41, q42, q43, q45, q50, q51, q52, q53, q54]
   refine ⟨_, rfl, by simp, by simp [frc4, q01, q02, q03, q04, q05, q10, q12, q13, q14, q15, q20, q21, q23, q24, q25, q30, q31, q32, q34, q35, q40, q41, q42, q43, q45, q50, q51, q52, q53, q54], by simp [itc, sl0, q01, q02, q03, q04, q05, q10, q12, q13, q14, q15, q20, q21, q23, q24, q25, q30, q31, q32, q34, q35, q40, q41, q42, q43, q45, q50, q51, q52, q53, q54], by simp [q01, q02, q03, q04, q05, q10, q12, q13, q14, q15, q20, q21, q23, q24, q25, q30, q31, q32, q34, q35, q40, q41, q42, q43, q45, q50, q51, q52, q53, q54], by simp [itc, sl0, bareI, c0], X0 _ _ _ _ _⟩
 ·rintro fr h1 ⟨tl, rfl, s1, gb1, gr1, ge1, gx1, X1⟩
  have gx1' := gx1
  simp only [itc, sl0] at gx1'
  simp only [go_sem, ↓reduceIte, gx1', s1, q01, q02, q03, q04, q05, q10, q12, q13, q14, q15, q20, q21, q23, q24, q25, q30, q31, q32, q34, q35, q40, q41, q42, q43, q45, q50, q51, q52, q53, q54]
  generalize hq : LHeap.push _ _ = h2
  have s2 : h2.size = h.size + 6 := by rw [← hq]; simp [s1]
  have X2 : Ext h1 h2 := by rw [← hq]; exact ((Ext.push _ _).set (by omega) _).trans (Ext.push _ _)
  have gb2 := (X2.get h.size (by omega)).trans gb1
  have gr2 := (X2.get (h.size + 1) (by omega)).trans gr1
  have ge2 := (X2.get (h.size + 1 + 1) (by omega)).trans ge1
  have gx2 := (X2.get (h.size + 1 + 1 + 1) (by omega)).trans gx1
  have gi2 : h2.get (h.size + 1 + 1 + 1 + 1) = some (.cells (itc (bareI f) sl0 sl0) true true) := by rw [← hq]; simp [s1, itc, sl0, q01, q02, q03, q04, q05, q10, q12, q13, q14, q15, q20, q21, q23, q24, q25, q30, q31, q32, q34, q35, q40, q41, q42, q43, q45, q50, q51, q52, q53, q54]
  have gs2 : h2.get (h.size + 1 + 1 + 1 + 1 + 1) = some (.cells [.func (.func 129) #[] #[.pointer (some ⟨h.size, 0, none⟩)], .func (.func 131) #[] #[.pointer (some ⟨h.size, 0, none⟩)], .func (.func 133) #[] #[.pointer (some ⟨h.size + 1 + 1 + 1 + 1, 0, none⟩), .pointer (some ⟨h.size, 0, none⟩)]] true true) := by rw [← hq]; simp [s1, q01, q02, q03, q04, q05, q10, q12, q13, q14, q15, q20, q21, q23, q24, q25, q30, q31, q32, q34, q35, q40, q41, q42, q43, q45, q50, q51, q52, q53, q54]
  clear hq
  have hv2 := hv.ext (X1.trans X2)
  refine MC.loop (fun m fr hh => ∃ i tl, m = 3 - i ∧ i ≤ 3 ∧ fr = (2, .pointer (some ⟨h.size + 1, 0, none⟩)) :: (3, .pointer (some ⟨h.size + 1 + 1, 0, none⟩)) :: (4, .pointer (some ⟨h.size + 1 + 1 + 1, 0, none⟩)) :: (5, .pointer (some ⟨h.size + 1 + 1 + 1 + 1, 0, none⟩)) :: (25, .slice (some ⟨h.size + 1 + 1 + 1 + 1 + 1, 0, none⟩) 3 1) :: (26, .int .i64 3) :: (27, .int .i64 (i : Nat)) :: tl ∧
   Kp (h.size + 6) (h.size + 1 + 1 + 1 + 1) h2 hh ∧ (1 ≤ i → placeF f = okF) ∧ (2 ≤ i → lengthF f = okF) ∧ (i < 3 → hh.get (h.size + 1 + 1 + 1 + 1) = some (.cells (itc (bareI f) sl0 sl0) true true)) ∧ (i = 3 → (readI (bareI f) f).2 = okF ∧ ItAt (h.size + 6) (h.size + 1 + 1 + 1 + 1) hh (readI (bareI f) f).1)) 3
   ⟨0, [], rfl, by omega, rfl, Kp.refl _ _ _, by omega, by omega, fun _ => gi2, by omega⟩ ?_
  rintro m fr hh J ⟨i, tl, rfl, hi3, rfl, K, hp1, hp2, hit, hi4⟩ hJ
  have gb := (K.get h.size (by omega) (by omega)).trans gb2
  have gs := (K.get (h.size + 1 + 1 + 1 + 1 + 1) (by omega) (by omega)).trans gs2
  have hsz : h.size + 6 ≤ hh.size := by have := K.size; omega
  have hvh : BytesAt hh fv f.pl := by
   rcases hv with h1 | ⟨b, o, cs, t, r, rfl, m1, m2, m3, m4⟩
   ·exact .inl h1
   ·exact .inr ⟨b, o, cs, t, r, rfl, by omega, by rw [K.get b (by omega) (by omega), X2.get b (by omega), X1.get b m1]; exact m2, m3, m4⟩
  have hvb : blkOf fv ≠ some (h.size + 1 + 1 + 1 + 1) := fun e => by have := hv.lt e; omega
  obtain rfl | rfl | rfl | rfl : i = 0 ∨ i = 1 ∨ i = 2 ∨ i = 3 := by omega
  ·-- look 1
   simp only [go_sem, ↓reduceIte, gs]
   refine MCall.by (sLook1 gb (by omega)) ?_
   rintro u h4 ⟨rfl, X4⟩
   have hn4 : ¬ h4.size = h.size + 1 := by have := X4.size; omega
   have hn4' : ¬ h4.size = h.size + 1 + 1 := by have := X4.size; omega
   have K4 := X4.kp (lo := h.size + 6) (ib := h.size + 1 + 1 + 1 + 1) hsz
   have s4 := K4.size
   simp only [fltV, go_sem, ↓reduceIte]
   generalize hz : placeF f = z at *
   generalize hq : LHeap.set _ h4.size _ = h5
   have X5 : Ext h4 h5 := by rw [← hq]; exact (Ext.push _ _).set (Nat.le_refl _) _
   have g5 : h5.get h4.size = some (.cells [.int .i64 (z.1 : Nat), .bool z.2] true true) := by rw [← hq]; simp
   have hs5 : h4.size < h5.size := by rw [← hq]; simp
   clear hq
   refine MCall.by (sOKF z) ?_
   rintro u h6 ⟨rfl, X6⟩
   have g6 := (X6.get h4.size hs5).trans g5
   have K46 : Kp (h.size + 6) (h.size + 1 + 1 + 1 + 1) h4 h6 := (X5.kp (by omega)).trans (X6.kp (by have := X5.size; omega))
   have K6 := (K.trans K4).trans K46
   have gx6 := (K6.get (h.size + 1 + 1 + 1) (by omega) (by omega)).trans gx2
   have gr6 := (K6.get (h.size + 1) (by omega) (by omega)).trans gr2
   have ge6 := (K6.get (h.size + 1 + 1) (by omega) (by omega)).trans ge2
   by_cases cz : z = okF
   ·simp only [cz, decide_true, go_sem, ↓reduceIte]
    exact hJ 2 _ _ (by omega) ⟨1, _, rfl, by omega, rfl, K6, fun _ => cz, by omega, fun _ => (X6.get _ (by omega)).trans ((X5.get _ (by omega)).trans ((X4.get _ (by omega)).trans (hit (by omega)))), by omega⟩
   ·simp only [itc, sl0] at gx6 gr6
    simp only [cz, decide_false, go_sem, ↓reduceIte]
    refine MC.dregion ?_
    simp only [go_sem, ↓reduceIte, g6, gx6, gr6, ge6, hn4, hn4', veqs, veq, Bool.and_self, beq_self_eq_true, q01, q02, q03, q04, q05, q10, q12, q13, q14, q15, q20, q21, q23, q24, q25, q30, q31, q32, q34, q35, q40, q41, q42, q43, q45, q50, q51, q52, q53, q54]
    have e : parseI f = (bareI f, z) := by
     unfold parseI
     rw [if_pos (by rw [hz]; exact cz), hz]
    rw [e]
    exact ⟨sl0, sl0, rfl, .inl ⟨rfl, 0, rfl⟩, fun b hb => (by cases hb), .inl ⟨rfl, rfl⟩, fun b hb => (by cases hb), ((K6.toExt (by omega) (by omega) (X1.trans X2)).set (by omega) _).set (by omega) _⟩
  ·-- look 2
   simp only [go_sem, ↓reduceIte, gs]
   refine MCall.by (sLook2 gb (by omega) hvh hf hl) ?_
   rintro u h4 ⟨rfl, X4⟩
   have hn4 : ¬ h4.size = h.size + 1 := by have := X4.size; omega
   have hn4' : ¬ h4.size = h.size + 1 + 1 := by have := X4.size; omega
   have K4 := X4.kp (lo := h.size + 6) (ib := h.size + 1 + 1 + 1 + 1) hsz
   have s4 := K4.size
   simp only [fltV, go_sem, ↓reduceIte]
   generalize hz : lengthF f = z at *
   generalize hq : LHeap.set _ h4.size _ = h5
   have X5 : Ext h4 h5 := by rw [← hq]; exact (Ext.push _ _).set (Nat.le_refl _) _
   have g5 : h5.get h4.size = some (.cells [.int .i64 (z.1 : Nat), .bool z.2] true true) := by rw [← hq]; simp
   have hs5 : h4.size < h5.size := by rw [← hq]; simp
   clear hq
   refine MCall.by (sOKF z) ?_
   rintro u h6 ⟨rfl, X6⟩
   have g6 := (X6.get h4.size hs5).trans g5
   have K46 : Kp (h.size + 6) (h.size + 1 + 1 + 1 + 1) h4 h6 := (X5.kp (by omega)).trans (X6.kp (by have := X5.size; omega))
   have K6 := (K.trans K4).trans K46
   have gx6 := (K6.get (h.size + 1 + 1 + 1) (by omega) (by omega)).trans gx2
   have gr6 := (K6.get (h.size + 1) (by omega) (by omega)).trans gr2
   have ge6 := (K6.get (h.size + 1 + 1) (by omega) (by omega)).trans ge2
   by_cases cz : z = okF
   ·simp only [cz, decide_true, go_sem, ↓reduceIte]
    exact hJ 1 _ _ (by omega) ⟨2, _, rfl, by omega, rfl, K6, fun _ => hp1 (by omega), fun _ => cz, fun _ => (X6.get _ (by omega)).trans ((X5.get _ (by omega)).trans ((X4.get _ (by omega)).trans (hit (by omega)))), by omega⟩
   ·simp only [itc, sl0] at gx6 gr6
    simp only [cz, decide_false, go_sem, ↓reduceIte]
    refine MC.dregion ?_
    simp only [go_sem, ↓reduceIte, g6, gx6, gr6, ge6, hn4, hn4', veqs, veq, Bool.and_self, beq_self_eq_true, q01, q02, q03, q04, q05, q10, q12, q13, q14, q15, q20, q21, q23, q24, q25, q30, q31, q32, q34, q35, q40, q41, q42, q43, q45, q50, q51, q52, q53, q54]
    have e : parseI f = (bareI f, z) := by
     unfold parseI
     rw [if_neg (by simp [hp1 (by omega)]), if_pos (by rw [hz]; exact cz), hz]
    rw [e]
    exact ⟨sl0, sl0, rfl, .inl ⟨rfl, 0, rfl⟩, fun b hb => (by cases hb), .inl ⟨rfl, rfl⟩, fun b hb => (by cases hb), ((K6.toExt (by omega) (by omega) (X1.trans X2)).set (by omega) _).set (by omega) _⟩
  ·-- look 3
   simp only [go_sem, ↓reduceIte, gs]
   refine MCall.by (sLook3 gb (by omega) (hit (by omega)) (by omega) rfl rfl hvh hf hl (hp2 (by omega)) hvb) ?_
   rintro u h4 ⟨rfl, It4, K4⟩
   have hn4 : ¬ h4.size = h.size + 1 := by have := K4.size; omega
   have hn4' : ¬ h4.size = h.size + 1 + 1 := by have := K4.size; omega
   have K4 := K4.low (lo := h.size + 6) hsz
   have s4 := K4.size
   simp only [fltV, go_sem, ↓reduceIte]
   generalize hz : (readI (bareI f) f).2 = z at *
   generalize hq : LHeap.set _ h4.size _ = h5
   have X5 : Ext h4 h5 := by rw [← hq]; exact (Ext.push _ _).set (Nat.le_refl _) _
   have g5 : h5.get h4.size = some (.cells [.int .i64 (z.1 : Nat), .bool z.2] true true) := by rw [← hq]; simp
   have hs5 : h4.size < h5.size := by rw [← hq]; simp
   clear hq
   refine MCall.by (sOKF z) ?_
   rintro u h6 ⟨rfl, X6⟩
   have g6 := (X6.get h4.size hs5).trans g5
   have K46 : Kp (h.size + 6) (h.size + 1 + 1 + 1 + 1) h4 h6 := (X5.kp (by omega)).trans (X6.kp (by have := X5.size; omega))
   have K6 := (K.trans K4).trans K46
   have gx6 := (K6.get (h.size + 1 + 1 + 1) (by omega) (by omega)).trans gx2
   have gr6 := (K6.get (h.size + 1) (by omega) (by omega)).trans gr2
   have ge6 := (K6.get (h.size + 1 + 1) (by omega) (by omega)).trans ge2
   by_cases cz : z = okF
   ·simp only [cz, decide_true, go_sem, ↓reduceIte]
    exact hJ 0 _ _ (by omega) ⟨3, _, rfl, by omega, rfl, K6, fun _ => hp1 (by omega), fun _ => hp2 (by omega), by omega, fun _ => ⟨cz, ((It4.ext (by omega) X5).ext (by omega) X6).lo (by omega)⟩⟩
   ·simp only [itc, sl0] at gx6 gr6
    simp only [cz, decide_false, go_sem, ↓reduceIte]
    refine MC.dregion ?_
    simp only [go_sem, ↓reduceIte, g6, gx6, gr6, ge6, hn4, hn4', veqs, veq, Bool.and_self, beq_self_eq_true, q01, q02, q03, q04, q05, q10, q12, q13, q14, q15, q20, q21, q23, q24, q25, q30, q31, q32, q34, q35, q40, q41, q42, q43, q45, q50, q51, q52, q53, q54]
    have e : parseI f = (bareI f, z) := by
     unfold parseI
     rw [if_neg (by simp [hp1 (by omega)]), if_neg (by simp [hp2 (by omega)])]; simp [hz, cz]
    rw [e]
    exact ⟨sl0, sl0, rfl, .inl ⟨rfl, 0, rfl⟩, fun b hb => (by cases hb), .inl ⟨rfl, rfl⟩, fun b hb => (by cases hb), ((K6.toExt (by omega) (by omega) (X1.trans X2)).set (by omega) _).set (by omega) _⟩
  ·obtain ⟨hr3, tv, pv, gi3, B3, lo3, G3, lo3'⟩ := hi4 rfl
   have gr3 := (K.get (h.size + 1) (by omega) (by omega)).trans gr2
   have ge3 := (K.get (h.size + 1 + 1) (by omega) (by omega)).trans ge2
   have e : parseI f = ((readI (bareI f) f).1, okF) := by
    unfold parseI
    rw [if_neg (by simp [hp1 (by omega)]), if_neg (by simp [hp2 (by omega)])]
    simp [hr3]
   obtain ⟨ta, tn, te, rfl⟩ := B3.shape
   obtain ⟨pa, pn, pe, rfl⟩ := G3.shape
   simp only [itc, sl0] at gr3 gi3
   simp only [go_sem, ↓reduceIte, gi3, gr3, ge3, q01, q02, q03, q04, q05, q10, q12, q13, q14, q15, q20, q21, q23, q24, q25, q30, q31, q32, q34, q35, q40, q41, q42, q43, q45, q50, q51, q52, q53, q54]
   rw [e]
   refine ⟨.slice ta tn te, .slice pa pn pe, rfl, ?_, fun b hb => by have := lo3 b hb; omega, ?_, fun b hb => by have := lo3' b hb; omega, ((K.toExt (by omega) (by omega) (X1.trans X2)).set (by omega) _).set (by omega) _⟩
   ·exact (B3.upd (fun e => by have := lo3 _ e; omega) (Upd.set _ _ _)).upd (fun e => by have := lo3 _ e; omega) (Upd.set _ _ _)
   ·exact (G3.upd (Upd.set _ _ _) (fun e => by have := lo3' _ e; omega)).upd (Upd.set _ _ _) (fun e => by have := lo3' _ e; omega)
end Go.E1

/-
 Layer 12: blocks out of frames.
-/
namespace Go.E1
open Go Go.Proofs Go.M
set_option linter.unusedSimpArgs false

def asc (a : Asm) (tv : Value) : List Value := [.int .i64 16384, .bool a.within, .int .i64 (a.st : Nat), tv, .bool a.fin]
structure AsAt (h : LHeap) (ab : Nat) (a : Asm) (tv : Value) : Prop where
 lt : ab < h.size
 cells : h.get ab = some (.cells (asc a tv) true true)
 text : BytesAt h tv a.text
 ne : blkOf tv ≠ some ab
theorem AsAt.kp {h h' : LHeap} {lo ib ab : Nat} {a : Asm} {tv : Value} (A : AsAt h ab a tv) (K : Kp lo ib h h') (hl : h.size ≤ lo) (hi : h.size ≤ ib) : AsAt h' ab a tv :=
 have X : Ext h h' := K.toExt hl hi (Ext.refl _)
 ⟨Nat.lt_of_lt_of_le A.lt X.size, (X.get _ A.lt).trans A.cells, A.text.ext X, A.ne⟩
theorem AsAt.ext {h h' : LHeap} {ab : Nat} {a : Asm} {tv : Value} (A : AsAt h ab a tv) (X : Ext h h') : AsAt h' ab a tv :=
 ⟨Nat.lt_of_lt_of_le A.lt X.size, (X.get _ A.lt).trans A.cells, A.text.ext X, A.ne⟩
theorem beq_nat (a b : Nat) : ((a : Int) == (b : Int)) = (a == b) := by
 by_cases c : a = b
 ·rw [c]; simp
 ·rw [ne_lit c]; symm; simpa using c
theorem beq_nat9 (a : Nat) : ((a : Int) == 9) = (a == 9) := beq_nat a 9
theorem beq_nat4 (a : Nat) : ((a : Int) == 4) = (a == 4) := beq_nat a 4
theorem beq_nat1 (a : Nat) : ((a : Int) == 1) = (a == 1) := beq_nat a 1

theorem sMayA {h : LHeap} {ab : Nat} {a : Asm} {tv : Value} (A : AsAt h ab a tv) (x : Itm) (xt xp : Value) :
  LCalls EC 135 [.pointer (some ⟨ab, 0, none⟩), itV x xt xp] h fun u h' => u = .bool (mayA a x) ∧ Ext h h' := by
 refine LCalls.enter (lf := lf135) rfl rfl (by simp [lf135]) ?_
 have hlt := A.lt
 have hn : ¬ ab = h.size := by omega
 have g := A.cells
 simp only [asc] at g
 unfold mayA
 simp only [itV, itc, go_sem, lf135, ↓reduceIte, g, hn, beq_nat9]
 cases hw : a.within with
 | false =>
  simp only [go_sem, ↓reduceIte]
  exact ⟨rfl, Ext.push _ _⟩
 | true =>
  simp only [go_sem, ↓reduceIte]
  refine MC.dregion ?_
  cases h9 : (x.ty == 9) with
  | false =>
   simp only [go_sem, ↓reduceIte]
   exact Ext.push _ _
  | true =>
   simp only [go_sem, ↓reduceIte, g, hn, beq_nat]
   exact Ext.push _ _
theorem sWithin {h : LHeap} {ab : Nat} {a : Asm} {tv : Value} (A : AsAt h ab a tv) :
  LCalls EC 128 [.pointer (some ⟨ab, 0, none⟩)] h fun u h' => u = .tuple #[.int .i64 (a.st : Nat), .bool a.within] ∧ h' = h := by
 refine LCalls.enter (lf := lf128) rfl rfl (by simp [lf128]) ?_
 have g := A.cells
 simp only [asc] at g
 simp only [go_sem, lf128, ↓reduceIte]
 refine MC.dregion ?_
 simp only [go_sem, ↓reduceIte, g]
theorem sWaitA {h : LHeap} {ab : Nat} {a : Asm} {tv : Value} (A : AsAt h ab a tv) :
  LCalls EC 72 [.pointer (some ⟨ab, 0, none⟩)] h fun u h' => u = .int .i64 (a.text.length : Nat) ∧ h' = h := by
 refine LCalls.enter (lf := lf72) rfl rfl (by simp [lf72]) ?_
 have g := A.cells
 have eL := fun hh => A.text.len (q := EC.q) (h := hh)
 simp only [asc] at g
 simp only [go_sem, lf72, ↓reduceIte, g, eL]
theorem sNewA {h : LHeap} : LCalls EC 67 [.int .i64 16384] h fun u h' => u = .tuple #[.pointer (some ⟨h.size, 0, none⟩), .int .i64 0] ∧ AsAt h' h.size ⟨false, 0, [], false⟩ (.slice none 0 0) ∧ Ext h h' := by
 refine LCalls.enter (lf := lf67) rfl rfl (by simp [lf67]) ?_
 simp only [go_sem, lf67, ↓reduceIte]
 exact ⟨⟨by simp, by simp [asc], .inl ⟨rfl, 0, rfl⟩, by simp⟩, Ext.push _ _⟩
theorem sCopyA {h : LHeap} {ab : Nat} {a : Asm} {tv : Value} (A : AsAt h ab a tv) (hl : a.text.length < 1000000) :
  LCalls EC 78 [.pointer (some ⟨ab, 0, none⟩)] h fun u h' => ∃ tv', u = .pointer (some ⟨h.size, 0, none⟩) ∧ AsAt h' h.size a tv' ∧ (∀ b, blkOf tv' = some b → h.size < b) ∧ Ext h h' := by
 refine LCalls.enter (lf := lf78) rfl rfl (by simp [lf78]) ?_
 have g := A.cells
 have hlt := A.lt
 have hn : ¬ ab = h.size := by omega
 obtain ⟨ta, tn, te, rfl⟩ := A.text.shape
 simp only [asc] at g
 simp only [go_sem, lf78, ↓reduceIte, g, hn]
 generalize hq : LHeap.set _ h.size _ = h1
 have X1 : Ext h h1 := by rw [← hq]; exact (Ext.push _ _).set (Nat.le_refl _) _
 have g1 : h1.get h.size = some (.cells (asc a (.slice ta tn te)) true true) := by rw [← hq]; simp [asc]
 have s1 : h1.size = h.size + 1 := by rw [← hq]; simp
 clear hq
 refine MCall.by (sClone (A.text.ext X1) hl) ?_
 rintro u h2 ⟨O, X2⟩
 have g2 := (X2.get h.size (by omega)).trans g1
 have s2 := X2.size
 obtain ⟨ua, un, ue, rfl⟩ := O.bytes.shape
 simp only [asc] at g2
 simp only [go_sem, ↓reduceIte, g2]
 have hb : ∀ b, blkOf (.slice ua un ue) = some b → h.size < b := fun b hb => by have := O.blk hb; omega
 exact ⟨.slice ua un ue, ⟨by simp; omega, by simp [asc], O.bytes.upd (fun e => by have := hb _ e; omega) (Upd.set _ _ _), fun e => by have := hb _ e; omega⟩, hb, (X1.trans X2).set (Nat.le_refl _) _⟩

/-- A block that came, or none. -/
def OnQ (lo : Nat) (h' : LHeap) (r : Option (Nat × Bytes × Bool)) (z : Flt) (u : Value) : Prop := match r with
 | none => u = .tuple #[.agg #[.int .i64 0, .slice none 0 0, .bool false], .bool false, fltV z]
 | some (st, text, fin) => ∃ bt, u = .tuple #[.agg #[.int .i64 (st : Nat), bt, .bool fin], .bool true, fltV z] ∧ OutAt h' lo bt text
def OnJ (h : LHeap) (nb ab : Nat) (a : Asm) (x : Itm) (tv xt xp : Value) (fr : Fr) (hh : LHeap) : Prop :=
 ∃ nt ntl n1 n2 tl, fr = (0, .pointer (some ⟨ab, 0, none⟩)) :: (3, .pointer (some ⟨h.size, 0, none⟩)) :: (4, .pointer (some ⟨h.size + 1, 0, none⟩)) :: (6, .pointer (some ⟨h.size + 1 + 1, 0, none⟩)) :: (7, .pointer (some ⟨h.size + 1 + 1 + 1, 0, none⟩)) :: (8, .pointer (some ⟨nb, 0, none⟩)) :: tl ∧
  hh.size = nb + 1 ∧ Ext h hh ∧ hh.get h.size = some (.cells (itc x xt xp) true true) ∧ hh.get (h.size + 1) = some (.cells [.int .i64 0, .slice none 0 0, .bool false] true true) ∧ hh.get (h.size + 1 + 1) = some (.cells [.int .i64 0, .bool false] true true) ∧
  hh.get (h.size + 1 + 1 + 1) = some (.cells [.int .i64 101, .bool true] true true) ∧ hh.get nb = some (.cells [.int .i64 (n1 : Nat), nt, .bool n2] true true) ∧ BytesAt hh nt ntl ∧ (nt = tv ∨ nt = .slice none 0 0) ∧
  (x.ty = 1 ∨ x.ty = 9) ∧ (n1, ntl, n2) = (if x.ty = 1 then (x.st, [], x.fin) else (a.st, a.text, a.fin))

theorem MB.cutb {E : Env} {x : Option Value} {a' b' b : LCode} {id : Nat} {k : Cont} {fr : Fr} {h : LHeap} {Q : Value → LHeap → Prop} (J : Fr → LHeap → Prop) (w : MB E x a' b' (.block id (.inv J k)) fr h Q) (hb : ∀ fr h, J fr h → MC E b k fr h Q) : MB E x a' b' (.block id (.code b k)) fr h Q :=
 w.cont (kont_block (kont_cut hb))
theorem sOn {h : LHeap} {ab : Nat} {a : Asm} {tv : Value} (A : AsAt h ab a tv) {x : Itm} {xt xp : Value} (hx : BytesAt h xt x.text) (hxn : blkOf xt ≠ some ab) (hl : x.text.length < 1000000) (ha : a.text.length ≤ 16384) (hxp : ∃ s n e, xp = .slice s n e) :
  LCalls EC 104 [.pointer (some ⟨ab, 0, none⟩), itV x xt xp] h fun u h' => ∃ tv', AsAt h' ab (onA a x).1 tv' ∧ (tv' = tv ∨ (∀ b, blkOf tv' = some b → h.size ≤ b)) ∧ Kp h.size ab h h' ∧ OnQ h.size h' (onA a x).2.1 (onA a x).2.2 u := by
 refine LCalls.enter (lf := lf104) rfl rfl (by simp [lf104]) ?_
 obtain ⟨sa, sn, se, rfl⟩ := hx.shape
 obtain ⟨pa, pn, pe, rfl⟩ := hxp
 have hlt := A.lt
 obtain ⟨q01, q02, q03, q04, q05, q10, q12, q13, q14, q15, q20, q21, q23, q24, q25, q30, q31, q32, q34, q35, q40, q41, q42, q43, q45, q50, q51, q52, q53, q54⟩ := nn h.size
 simp only [itV, itc, go_sem, lf104, ↓reduceIte, q01, q02, q03, q04, q05, q10, q12, q13, q14, q15, q20, q21, q23, q24, q25, q30, q31, q32, q34, q35, q40, q41, q42, q43, q45, q50, q51, q52, q53, q54]
 generalize hq : LHeap.set _ (h.size + 1 + 1 + 1) _ = h1
 have s1 : h1.size = h.size + 4 := by rw [← hq]; simp
 have X1 : Ext h h1 := by rw [← hq]; exact ((((Ext.push _ _).trans (Ext.push _ _)).trans (Ext.push _ _)).trans (Ext.push _ _)).set (by omega) _
 have gx1 : h1.get h.size = some (.cells (itc x (.slice sa sn se) (.slice pa pn pe)) true true) := by rw [← hq]; simp [itc, q01, q02, q03, q04, q05, q10, q12, q13, q14, q15, q20, q21, q23, q24, q25, q30, q31, q32, q34, q35, q40, q41, q42, q43, q45, q50, q51, q52, q53, q54]
 have gr1 : h1.get (h.size + 1) = some (.cells [.int .i64 0, .slice none 0 0, .bool false] true true) := by rw [← hq]; simp [q01, q02, q03, q04, q05, q10, q12, q13, q14, q15, q20, q21, q23, q24, q25, q30, q31, q32, q34, q35, q40, q41, q42, q43, q45, q50, q51, q52, q53, q54]
 have ge1 : h1.get (h.size + 1 + 1) = some (.cells [.int .i64 0, .bool false] true true) := by rw [← hq]; simp [q01, q02, q03, q04, q05, q10, q12, q13, q14, q15, q20, q21, q23, q24, q25, q30, q31, q32, q34, q35, q40, q41, q42, q43, q45, q50, q51, q52, q53, q54]
 have gw1 : h1.get (h.size + 1 + 1 + 1) = some (.cells [.int .i64 101, .bool true] true true) := by rw [← hq]; simp [q01, q02, q03, q04, q05, q10, q12, q13, q14, q15, q20, q21, q23, q24, q25, q30, q31, q32, q34, q35, q40, q41, q42, q43, q45, q50, q51, q52, q53, q54]
 clear hq
 refine MCall.by (sMayA (A.ext X1) x (.slice sa sn se) (.slice pa pn pe)) ?_
 rintro u h2 ⟨rfl, X2⟩
 have s2 := X2.size
 have gx2 := (X2.get h.size (by omega)).trans gx1
 have gr2 := (X2.get (h.size + 1) (by omega)).trans gr1
 have ge2 := (X2.get (h.size + 1 + 1) (by omega)).trans ge1
 have gw2 := (X2.get (h.size + 1 + 1 + 1) (by omega)).trans gw1
 have A2 := (A.ext X1).ext X2
 have g2 := A2.cells
 cases hm : mayA a x with
 | false =>
  have e : onA a x = (a, none, (101, true)) := by simp [onA, hm]
  rw [e]
  simp only [go_sem, ↓reduceIte]
  refine MC.dregion ?_
  simp only [go_sem, ↓reduceIte, gr2, ge2, gw2, q01, q02, q03, q04, q05, q10, q12, q13, q14, q15, q20, q21, q23, q24, q25, q30, q31, q32, q34, q35, q40, q41, q42, q43, q45, q50, q51, q52, q53, q54, veqs, veq, Bool.and_self, beq_self_eq_true]
  have Xf := ((X1.trans X2).set (b := h.size + 1) (by omega) (.cells [.int .i64 0, .slice none 0 0, .bool false] true true)).set (b := h.size + 1 + 1) (by omega) (.cells [.int .i64 101, .bool true] true true)
  exact ⟨_, A.ext Xf, .inl rfl, Xf.kp (Nat.le_refl _), rfl⟩
 | true =>
  have g2' := g2
  obtain ⟨ta, tn, te, rfl⟩ := A.text.shape
  simp only [asc] at g2'
  have u0 : ¬ h.size = h2.size := by omega
  have u1 : ¬ h.size + 1 = h2.size := by omega
  have u2 : ¬ h.size + 1 + 1 = h2.size := by omega
  have u3 : ¬ h.size + 1 + 1 + 1 = h2.size := by omega
  have v0 : ¬ h2.size = h.size := by omega
  have v1 : ¬ h2.size = h.size + 1 := by omega
  have v2 : ¬ h2.size = h.size + 1 + 1 := by omega
  have v3 : ¬ h2.size = h.size + 1 + 1 + 1 := by omega
  have va : ¬ ab = h2.size := by omega
  have va' : ¬ h2.size = ab := by omega
  have w0 : ¬ ab = h.size + 1 := by omega
  have w1 : ¬ ab = h.size + 1 + 1 := by omega
  simp only [itc] at gx2
  simp only [go_sem, ↓reduceIte, g2', gx2, gr2, ge2, u0, u1, u2, u3, v0, v1, v2, v3, va, beq_nat9, beq_nat1]
  refine MB.cutb (OnJ h h2.size ab a x (.slice ta tn te) (.slice sa sn se) (.slice pa pn pe)) ?_ ?_
  ·by_cases c1 : x.ty = 1
   ·have d1 : (x.ty == 1) = true := by simpa using c1
    simp only [go_sem, ↓reduceIte, d1, gx2, u0, u1, u2, u3, v0, v1, v2, v3, va, va']
    exact ⟨.slice none 0 0, [], x.st, x.fin, _, rfl, by simp, ((X1.trans X2).trans (Ext.push _ _)).set (by omega) _ |>.set (by omega) _, by simp [itc, gx2, u0], by simp [gr2, u1], by simp [ge2, u2], by simp [gw2, u3], by simp, .inl ⟨rfl, 0, rfl⟩, .inr rfl, .inl c1, by simp [c1]⟩
   ·have d1 : (x.ty == 1) = false := by simpa using c1
    by_cases c9 : x.ty = 9
    ·have d9 : (x.ty == 9) = true := by simpa using c9
     simp only [go_sem, ↓reduceIte, d1, d9, gx2, beq_nat9, u0, u1, u2, u3, v0, v1, v2, v3, va, va']
     exact ⟨.slice ta tn te, a.text, a.st, a.fin, _, rfl, by simp, ((X1.trans X2).trans (Ext.push _ _)).set (by omega) _, by simp [itc, gx2, u0], by simp [gr2, u1], by simp [ge2, u2], by simp [gw2, u3], by simp, A.text.ext (((X1.trans X2).trans (Ext.push _ _)).set (by omega) _), .inl rfl, .inr c9, by simp [c1]⟩
    ·have d9 : (x.ty == 9) = false := by simpa using c9
     have e : onA a x = (a, none, okF) := by simp [onA, hm, c1, c9]
     rw [e]
     simp only [go_sem, ↓reduceIte, d1, d9, gx2, gr2, ge2, beq_nat9, u0, u1, u2, u3, v0, v1, v2, v3, va, va', q01, q02, q03, q04, q05, q10, q12, q13, q14, q15, q20, q21, q23, q24, q25, q30, q31, q32, q34, q35, q40, q41, q42, q43, q45, q50, q51, q52, q53, q54]
     have Xf := ((((X1.trans X2).trans (Ext.push h2 (.cells [.int .i64 0, .slice none 0 0, .bool false] true true))).set (b := h2.size) (by omega) (.cells [.int .i64 (a.st : Nat), .slice ta tn te, .bool a.fin] true true)).set (b := h.size + 1) (by omega) (.cells [.int .i64 0, .slice none 0 0, .bool false] true true)).set (b := h.size + 1 + 1) (by omega) (.cells [.int .i64 0, .bool false] true true)
     exact ⟨_, A.ext Xf, .inl rfl, Xf.kp (Nat.le_refl _), rfl⟩
  ·rintro fr hh ⟨nt, ntl, n1, n2, tl, rfl, sh, Xh, gx, gr, ge, gw, gn, Bn, hnt, hty, hn⟩
   have Ah := A.ext Xh
   have ga := Ah.cells
   have eN := fun h' => Bn.len (q := EC.q) (h := h')
   have eX := fun h' => hx.len (q := EC.q) (h := h')
   have hnl : ntl.length ≤ 16384 := by
    split at hn
    ·cases hn; simp
    ·cases hn; exact ha
   obtain ⟨na, nn', ne, rfl⟩ := Bn.shape
   simp only [itc] at gx
   simp only [asc] at ga
   have wa : IntKind.i64.wrap ((ntl.length : Int) + (x.text.length : Int)) = ((ntl.length + x.text.length : Nat) : Int) := by rw [IntWalk.i64_in _ (by omega)]; omega
   simp only [go_sem, ↓reduceIte]
   refine MC.dregion ?_
   simp only [go_sem, ↓reduceIte, gn, gx, ga, eN, eX, wa]
   by_cases cb : 16384 < ntl.length + x.text.length
   ·have d : ((ntl.length + x.text.length : Nat) : Int) > 16384 := by omega
    have d' : (16384 : Int) < ((ntl.length + x.text.length : Nat) : Int) := by omega
    have e : onA a x = (a, none, (101, true)) := by
     unfold onA
     rw [if_neg (by simp [hm]), if_pos hty]
     simp only [← hn]
     rw [if_pos cb]
    rw [e]
    simp only [go_sem, ↓reduceIte, d, d', decide_true]
    refine MC.dregion ?_
    simp only [go_sem, ↓reduceIte, gr, ge, gw, q01, q02, q03, q04, q05, q10, q12, q13, q14, q15, q20, q21, q23, q24, q25, q30, q31, q32, q34, q35, q40, q41, q42, q43, q45, q50, q51, q52, q53, q54, veqs, veq, Bool.and_self, beq_self_eq_true]
    have Xf := (Xh.set (b := h.size + 1) (by omega) (.cells [.int .i64 0, .slice none 0 0, .bool false] true true)).set (b := h.size + 1 + 1) (by omega) (.cells [.int .i64 101, .bool true] true true)
    exact ⟨_, A.ext Xf, .inl rfl, Xf.kp (Nat.le_refl _), rfl⟩
   ·have d : ¬ ((ntl.length + x.text.length : Nat) : Int) > 16384 := by omega
    have d' : ¬ (16384 : Int) < ((ntl.length + x.text.length : Nat) : Int) := by omega
    simp only [go_sem, ↓reduceIte, d, d', decide_false, gn, gx]
    have hl2 : ([ntl, x.text] : List Bytes).flatten = ntl ++ x.text := by simp
    have Xp : Ext h (hh.push (.cells [.slice na nn' ne, .slice sa sn se] true true)) := Xh.trans (Ext.push _ _)
    have hB : BLB (hh.push (.cells [.slice na nn' ne, .slice sa sn se] true true)) (.slice (some ⟨hh.size, 0, none⟩) 2 1) [ntl, x.text] := by
     refine .inr ⟨hh.size, [.slice na nn' ne, .slice sa sn se], true, true, rfl, by simp, by simp, rfl, ?_⟩
     intro i u l h1 h2
     match i with
     | 0 => cases h1; cases h2; exact Bn.ext (Ext.push _ _)
     | 1 => cases h1; cases h2; exact hx.ext Xp
     | _ + 2 => simp at h1
    refine MCall.by (sConcat hB (by rw [hl2, List.length_append]; omega) (by simp)) ?_
    rintro u h4 ⟨O4, X4⟩
    rw [hl2] at O4
    have s4 := X4.size
    simp only [LHeap.size_push] at s4 O4
    have gx4 := (X4.get h.size (by simp; omega)).trans (by simpa [show ¬ h.size = hh.size by omega] using gx)
    have gr4 := (X4.get (h.size + 1) (by simp; omega)).trans (by simpa [show ¬ h.size + 1 = hh.size by omega] using gr)
    have ge4 := (X4.get (h.size + 1 + 1) (by simp; omega)).trans (by simpa [show ¬ h.size + 1 + 1 = hh.size by omega] using ge)
    have gn4 := (X4.get h2.size (by simp; omega)).trans (by simpa [show ¬ h2.size = hh.size by omega] using gn)
    have ga4 := (X4.get ab (by simp; omega)).trans (by simpa [show ¬ ab = hh.size by omega] using ga)
    obtain ⟨ua, un, ue, rfl⟩ := O4.bytes.shape
    have K4 : Kp h.size ab h h4 := (Xp.trans X4).kp (Nat.le_refl _)
    have w0' : ¬ h.size + 1 = ab := by omega
    have w1' : ¬ h.size + 1 + 1 = ab := by omega
    have w2' : ¬ h.size = ab := by omega
    have O5 := fun o => O4.upd (Upd.set h2.size h4 o) (by omega)
    have O6 := fun o o' => (O5 o).upd (Upd.set ab _ o') (by omega)
    have O7 := fun o o' o'' => (O6 o o').upd (Upd.set ab _ o'') (by omega)
    have O8 := fun o o' o'' o3 => (O7 o o' o'').upd (Upd.set (h.size + 1) _ o3) (by omega)
    have O9 := fun o o' o'' o3 o4 => (O8 o o' o'' o3).upd (Upd.set (h.size + 1 + 1) _ o4) (by omega)
    have K9 := fun o o' o'' o3 o4 => ((((K4.trans (Kp.hi (b := h2.size) _ o (by omega))).trans (Kp.set _ _ _ o')).trans (Kp.set _ _ _ o'')).trans (Kp.hi (b := h.size + 1) _ o3 (by omega))).trans (Kp.hi (b := h.size + 1 + 1) _ o4 (by omega))
    simp only [go_sem, ↓reduceIte, gn4, gx4, u0]
    cases hE : x.endh with
    | true =>
     have e : onA a x = (⟨false, 0, [], false⟩, some (n1, ntl ++ x.text, n2), okF) := by
      unfold onA
      rw [if_neg (by simp [hm]), if_pos hty]
      simp only [← hn]
      rw [if_neg cb, if_pos hE]
     rw [e]
     simp only [go_sem, ↓reduceIte, gn4, gx4, ga4, gr4, ge4, w0, w1, w0', w1', w2', u0, u1, u2, u3, v0, v1, v2, v3, va, va', q01, q02, q03, q04, q05, q10, q12, q13, q14, q15, q20, q21, q23, q24, q25, q30, q31, q32, q34, q35, q40, q41, q42, q43, q45, q50, q51, q52, q53, q54]
     exact ⟨.slice none 0 0, ⟨by simp; omega, by simp [asc, w0, w1], .inl ⟨rfl, 0, rfl⟩, by simp⟩, .inr (fun b hb => by cases hb), K9 _ _ _ _ _, _, rfl, (O9 _ _ _ _ _).low (by omega)⟩
    | false =>
     have e : onA a x = (⟨true, n1, ntl ++ x.text, n2⟩, none, okF) := by
      unfold onA
      rw [if_neg (by simp [hm]), if_pos hty]
      simp only [← hn]
      rw [if_neg cb, if_neg (by simp [hE])]
     rw [e]
     simp only [go_sem, ↓reduceIte]
     refine MC.dregion ?_
     simp only [go_sem, ↓reduceIte, gn4, gx4, ga4, gr4, ge4, w0, w1, w0', w1', w2', u0, u1, u2, u3, v0, v1, v2, v3, va, va', q01, q02, q03, q04, q05, q10, q12, q13, q14, q15, q20, q21, q23, q24, q25, q30, q31, q32, q34, q35, q40, q41, q42, q43, q45, q50, q51, q52, q53, q54, veqs, veq, Bool.and_self, beq_self_eq_true]
     exact ⟨.slice ua un ue, ⟨by simp; omega, by simp [asc, w0, w1], (O9 _ _ _ _ _).bytes, fun e => by have := O4.blk e; omega⟩, .inr (fun b hb => by have := O4.blk hb; omega), K9 _ _ _ _ _, rfl⟩
end Go.E1

/-
 Layer 11: frames out of chunks.
-/
namespace Go.E1
open Go Go.Proofs Go.M
set_option linter.unusedSimpArgs false

def rsc (wv : Value) (big : Bool) : List Value := [.int .i64 16384, wv, .bool big]
structure RsAt (h : LHeap) (fb : Nat) (w : Bytes) (big : Bool) (wv : Value) : Prop where
 lt : fb < h.size
 cells : h.get fb = some (.cells (rsc wv big) true true)
 wait : BytesAt h wv w
 ne : blkOf wv ≠ some fb
theorem RsAt.ext {h h' : LHeap} {fb : Nat} {w : Bytes} {big : Bool} {wv : Value} (A : RsAt h fb w big wv) (X : Ext h h') : RsAt h' fb w big wv :=
 ⟨Nat.lt_of_lt_of_le A.lt X.size, (X.get _ A.lt).trans A.cells, A.wait.ext X, A.ne⟩
theorem FrL.upd {h h' : LHeap} {lo r : Nat} {v : Value} {fs : List Frm} {ps : List (Frm × SlT)} (F : FrL h lo v fs ps) (u : Upd r h h') (hr : r < lo) : FrL h' lo v fs ps :=
 ⟨F.fst, F.gl.upd u (fun e => by have := F.low _ e; omega), F.low, fun p hp => ⟨(F.pay p hp).1.upd u hr, (F.pay p hp).2⟩⟩
theorem FrL.ext {h h' : LHeap} {lo : Nat} {v : Value} {fs : List Frm} {ps : List (Frm × SlT)} (F : FrL h lo v fs ps) (X : Ext h h') : FrL h' lo v fs ps :=
 ⟨F.fst, F.gl.ext X, F.low, fun p hp => ⟨(F.pay p hp).1.ext X, (F.pay p hp).2⟩⟩

theorem FrL.lo {h : LHeap} {lo lo' : Nat} {v : Value} {fs : List Frm} {ps : List (Frm × SlT)} (F : FrL h lo v fs ps) (hl : lo' ≤ lo) : FrL h lo' v fs ps :=
 ⟨F.fst, F.gl, fun b e => Nat.le_trans hl (F.low b e), fun p hp => ⟨(F.pay p hp).1.low hl, (F.pay p hp).2⟩⟩

theorem sNewR {h : LHeap} : LCalls EC 66 [.int .i64 16384] h fun u h' => u = .tuple #[.pointer (some ⟨h.size, 0, none⟩), .int .i64 0] ∧ RsAt h' h.size [] false (.slice none 0 0) ∧ Ext h h' := by
 refine LCalls.enter (lf := lf66) rfl rfl (by simp [lf66]) ?_
 simp only [go_sem, lf66, ↓reduceIte]
 exact ⟨⟨by simp, by simp [rsc], .inl ⟨rfl, 0, rfl⟩, by simp⟩, Ext.push _ _⟩
theorem sWaitR {h : LHeap} {fb : Nat} {w : Bytes} {big : Bool} {wv : Value} (A : RsAt h fb w big wv) : LCalls EC 71 [.pointer (some ⟨fb, 0, none⟩)] h fun u h' => u = .int .i64 (w.length : Nat) ∧ h' = h := by
 refine LCalls.enter (lf := lf71) rfl rfl (by simp [lf71]) ?_
 have g := A.cells
 have eL := fun hh => A.wait.len (q := EC.q) (h := hh)
 simp only [rsc] at g
 simp only [go_sem, lf71, ↓reduceIte, g, eL]
theorem sCopyR {h : LHeap} {fb : Nat} {w : Bytes} {big : Bool} {wv : Value} (A : RsAt h fb w big wv) (hl : w.length < 1000000) :
  LCalls EC 77 [.pointer (some ⟨fb, 0, none⟩)] h fun u h' => ∃ fb' wv', u = .pointer (some ⟨fb', 0, none⟩) ∧ h.size ≤ fb' ∧ RsAt h' fb' w big wv' ∧ (∀ b, blkOf wv' = some b → h.size ≤ b) ∧ Ext h h' := by
 refine LCalls.enter (lf := lf77) rfl rfl (by simp [lf77]) ?_
 have g := A.cells
 obtain ⟨ta, tn, te, rfl⟩ := A.wait.shape
 simp only [rsc] at g
 simp only [go_sem, lf77, ↓reduceIte]
 refine MC.dregion ?_
 simp only [go_sem, ↓reduceIte, g]
 refine MDCall.by (sClone A.wait hl) ?_
 rintro u h2 ⟨O, X2⟩
 have g2 := (X2.get fb A.lt).trans g
 obtain ⟨ua, un, ue, rfl⟩ := O.bytes.shape
 have hlt := A.lt
 have s2 := X2.size
 simp only [go_sem, ↓reduceIte, g2, g, veq, Bool.and_self, beq_self_eq_true]
 exact ⟨h2.size, .slice ua un ue, rfl, s2, ⟨by simp, by simp [rsc], O.bytes.ext (Ext.push _ _), fun e => by have := O.bytes.lt e; omega⟩, fun b e => O.blk e, X2.trans (Ext.push _ _)⟩

def FeedRQ (h : LHeap) (fb : Nat) (res : Option (List Frm × Bytes)) (u : Value) (h' : LHeap) : Prop := match res with
 | none => u = .tuple #[.slice none 0 0, .int .i64 106] ∧ RsAt h' fb [] true (.slice none 0 0)
 | some (fs, rest) => ∃ ov ps wv', u = .tuple #[ov, .int .i64 0] ∧ FrL h' h.size ov fs ps ∧ RsAt h' fb rest false wv' ∧ (∀ b, blkOf wv' = some b → h.size ≤ b)
theorem sFeedR {h : LHeap} {fb : Nat} {w l : Bytes} {wv v : Value} (A : RsAt h fb w false wv) (B : BytesAt h v l) (hl : w.length + l.length < 1000000) :
  LCalls EC 69 [.pointer (some ⟨fb, 0, none⟩), v] h fun u h' => FeedRQ h fb (allB (w ++ l)) u h' ∧ Kp h.size fb h h' := by
 refine LCalls.enter (lf := lf69) rfl rfl (by simp [lf69]) ?_
 have g := A.cells
 obtain ⟨ta, tn, te, rfl⟩ := A.wait.shape
 obtain ⟨va, vn, ve, rfl⟩ := B.shape
 have hlt := A.lt
 have hne : ¬ fb = h.size := by omega
 simp only [rsc] at g
 simp only [go_sem, lf69, ↓reduceIte, g]
 refine MC.dregion ?_
 simp only [go_sem, ↓reduceIte, g, hne]
 have hl2 : ([w, l] : List Bytes).flatten = w ++ l := by simp
 have Xp : Ext h (h.push (.cells [.slice ta tn te, .slice va vn ve] true true)) := Ext.push _ _
 have hB : BLB (h.push (.cells [.slice ta tn te, .slice va vn ve] true true)) (.slice (some ⟨h.size, 0, none⟩) 2 1) [w, l] := by
  refine .inr ⟨h.size, [.slice ta tn te, .slice va vn ve], true, true, rfl, by simp, by simp, rfl, ?_⟩
  intro i u l h1 h2
  match i with
  | 0 => cases h1; cases h2; exact A.wait.ext Xp
  | 1 => cases h1; cases h2; exact B.ext Xp
  | _ + 2 => simp at h1
 refine MDCall.by (sConcat hB (by rw [hl2, List.length_append]; omega) (by simp)) ?_
 rintro u h2 ⟨O2, X2⟩
 rw [hl2] at O2
 have g2 := (X2.get fb (by simp; omega)).trans (by simpa [hne] using g)
 obtain ⟨ua, un, ue, rfl⟩ := O2.bytes.shape
 simp only [go_sem, ↓reduceIte, g2, g, hne, veq, Bool.and_self, beq_self_eq_true]
 refine MDCall.by (sAllF O2.bytes (by rw [List.length_append]; omega)) ?_
 rintro u h3 ⟨Q3, X3⟩
 have s2 := X2.size
 simp only [LHeap.size_push] at s2
 have g3 := (X3.get fb (by omega)).trans g2
 have X03 := (Xp.trans X2).trans X3
 cases hb : allB (w ++ l) with
 | none =>
  rw [hb] at Q3
  simp only [AllQ] at Q3
  subst Q3
  simp only [go_sem, ↓reduceIte, g3]
  exact ⟨⟨rfl, by have := X03.size; simp; omega, by simp [rsc], .inl ⟨rfl, 0, rfl⟩, by simp⟩, (X03.kp (Nat.le_refl _)).trans (Kp.set _ _ _ _)⟩
 | some p =>
  obtain ⟨fs, rest⟩ := p
  rw [hb] at Q3
  obtain ⟨ov, rv, ps, rfl, F3, O3⟩ := Q3
  obtain ⟨oa, on, oe, rfl⟩ := F3.gl.shape
  obtain ⟨ra, rn, re, rfl⟩ := O3.bytes.shape
  simp only [go_sem, ↓reduceIte, g3]
  exact ⟨⟨_, ps, _, rfl, (F3.upd (Upd.set fb _ _) (by omega)).lo (by omega), ⟨by have := X03.size; simp; omega, by simp [rsc], (O3.upd (Upd.set fb _ _) (by omega)).bytes, fun e => by have := O3.blk e; omega⟩, fun b e => by have := O3.blk e; omega⟩, (X03.kp (Nat.le_refl _)).trans (Kp.set _ _ _ _)⟩
end Go.E1

/-
 Layer 23: what may come now; events that are no header's.
-/
namespace Go.E1
open Go Go.Proofs Go.M
set_option linter.unusedSimpArgs false

def evc (e : Ev) (lv tv pv : Value) : List Value := [.int .i64 (e.kind : Nat), .int .i64 (e.st : Nat), lv, tv, pv, .bool e.fin, .int .i64 (e.n : Nat), .int .i64 (e.code : Nat)]
def evV (e : Ev) (lv tv pv : Value) : Value := .agg (evc e lv tv pv).toArray
def zeroEv : Value := .agg #[.int .i64 0, .int .i64 0, .slice none 0 0, .slice none 0 0, .slice none 0 0, .bool false, .int .i64 0, .int .i64 0]

theorem sMayR {h : LHeap} {rb ab : Nat} {r : Rd} {tv : Value} {x y : Value} {d : Bool} (hr : rb < h.size) (g : h.get rb = some (.cells [x, .pointer (some ⟨ab, 0, none⟩), y, .bool r.begun, .bool d] true true)) (A : AsAt h ab r.asm tv) (f : Frm) (fv : Value) (hf : f.fl < 4294967296) :
  LCalls EC 102 [.pointer (some ⟨rb, 0, none⟩), frV f fv] h fun u h' => u = .bool (mayR r f) ∧ Ext h h' := by
 refine LCalls.enter (lf := lf102) rfl rfl (by simp [lf102]) ?_
 have hn : ¬ rb = h.size := by omega
 have X1 : Ext h (h.push (.cells (frc4 f fv) true true)) := Ext.push _ _
 unfold mayR
 cases hb : r.begun with
 | false =>
  rw [hb] at g
  simp only [frV, go_sem, lf102, ↓reduceIte, g, hn, beq_nat4]
  by_cases c : f.ty = 4
  ·have d4 : (f.ty == 4) = true := by simpa using c
   simp only [go_sem, ↓reduceIte, d4]
   refine MCall.by (sHas f fv hf (k := 1) (by omega)) ?_
   rintro u h2 ⟨rfl, X2⟩
   cases hh : hasF f.fl 1 <;> simp only [go_sem, ↓reduceIte] <;> exact X1.trans X2
  ·have d4 : (f.ty == 4) = false := by simpa using c
   simp only [go_sem, ↓reduceIte, d4]
   exact X1
 | true =>
  rw [hb] at g
  simp only [frV, go_sem, lf102, ↓reduceIte, g, hn]
  refine MCall.by (sWithin (A.ext X1)) ?_
  rintro u h2 ⟨rfl, rfl⟩
  cases hw : r.asm.within with
  | false =>
   simp only [go_sem, ↓reduceIte]
   exact ⟨rfl, X1⟩
  | true =>
   cases d9 : (f.ty == 9) with
   | false =>
    simp only [go_sem, ↓reduceIte, beq_nat9, d9]
    exact ⟨rfl, X1⟩
   | true =>
    simp only [go_sem, ↓reduceIte, beq_nat9, d9, beq_nat]
    exact ⟨rfl, X1⟩

def PlainQ (xt xp : Value) (r : Option Ev) (u : Value) (h' : LHeap) : Prop := match r with
 | none => u = .tuple #[zeroEv, .bool false]
 | some e => ∃ tv pv, u = .tuple #[evV e sl0 tv pv, .bool true] ∧ BytesAt h' tv e.text ∧ GL 2 pc h' pv e.pairs ∧ (∀ b, blkOf tv = some b → blkOf xt = some b) ∧ (∀ b, blkOf pv = some b → blkOf xp = some b) ∧ e.lines = []
theorem andX {P X : Prop} (x : X) (p : X → P) : P ∧ X := ⟨p x, x⟩
theorem sPlain {h : LHeap} {x : Itm} {xt xp : Value} (hx : BytesAt h xt x.text) (hp : GL 2 pc h xp x.pairs) :
  LCalls EC 106 [itV x xt xp] h fun u h' => PlainQ xt xp (plainI x) u h' ∧ Ext h h' := by
 refine LCalls.enter (lf := lf106) rfl rfl (by simp [lf106]) ?_
 obtain ⟨sa, sn, se, rfl⟩ := hx.shape
 obtain ⟨pa, pn, pe, rfl⟩ := hp.shape
 obtain ⟨q01, q02, q03, q04, q05, q10, q12, q13, q14, q15, q20, q21, q23, q24, q25, q30, q31, q32, q34, q35, q40, q41, q42, q43, q45, q50, q51, q52, q53, q54⟩ := nn h.size
 have eT : ∀ hh : LHeap, BytesAt hh sl0 [] := fun hh => .inl ⟨rfl, 0, rfl⟩
 have eP : ∀ hh : LHeap, GL 2 pc hh sl0 [] := fun hh => .inl ⟨rfl, rfl⟩
 have eB : ∀ (v : Value) b, blkOf sl0 = some b → blkOf v = some b := fun v b hb => by cases hb
 have X1 := fun (a b c : LObj) => ((Ext.push h a).trans (Ext.push _ b)).trans (Ext.push _ c)
 have S1 := fun (h1 : LHeap) (b : Nat) (o : LObj) (hb : h.size ≤ b) (X : Ext h h1) => X.set hb o
 obtain ⟨t, st, text, fin, endh, ack, flow, code, last, inc, dep, wt, weighed, excl, pairs⟩ := x
 simp only at hx hp
 rcases ty_cases t with rfl | rfl | rfl | rfl | rfl | rfl | rfl | rfl | rfl | rfl | ht
 ·simp only [itV, itc, go_sem, lf106, ↓reduceIte, q01, q02, q03, q04, q05, q10, q12, q13, q14, q15, q20, q21, q23, q24, q25, q30, q31, q32, q34, q35, q40, q41, q42, q43, q45, q50, q51, q52, q53, q54]
  refine MC.dregion ?_
  simp only [go_sem, ↓reduceIte, veqs, veq, Bool.and_self, beq_self_eq_true, q01, q02, q03, q04, q05, q10, q12, q13, q14, q15, q20, q21, q23, q24, q25, q30, q31, q32, q34, q35, q40, q41, q42, q43, q45, q50, q51, q52, q53, q54]
  refine andX ?_ fun X => ?_
  ·repeat (refine Ext.set ?_ (by omega) _)
   exact ((Ext.push _ _).trans (Ext.push _ _)).trans (Ext.push _ _)
  ·exact ⟨.slice sa sn se, sl0, rfl, hx.ext X, eP _, fun b hb => hb, eB _, rfl⟩
 ·simp only [itV, itc, go_sem, lf106, ↓reduceIte, q01, q02, q03, q04, q05, q10, q12, q13, q14, q15, q20, q21, q23, q24, q25, q30, q31, q32, q34, q35, q40, q41, q42, q43, q45, q50, q51, q52, q53, q54]
  refine andX ?_ fun X => ?_
  ·repeat (refine Ext.set ?_ (by omega) _)
   exact ((Ext.push _ _).trans (Ext.push _ _)).trans (Ext.push _ _)
  ·rfl
 ·simp only [itV, itc, go_sem, lf106, ↓reduceIte, q01, q02, q03, q04, q05, q10, q12, q13, q14, q15, q20, q21, q23, q24, q25, q30, q31, q32, q34, q35, q40, q41, q42, q43, q45, q50, q51, q52, q53, q54]
  refine andX ?_ fun X => ?_
  ·repeat (refine Ext.set ?_ (by omega) _)
   exact ((Ext.push _ _).trans (Ext.push _ _)).trans (Ext.push _ _)
  ·rfl
 ·simp only [itV, itc, go_sem, lf106, ↓reduceIte, q01, q02, q03, q04, q05, q10, q12, q13, q14, q15, q20, q21, q23, q24, q25, q30, q31, q32, q34, q35, q40, q41, q42, q43, q45, q50, q51, q52, q53, q54]
  refine MC.dregion ?_
  simp only [go_sem, ↓reduceIte, veqs, veq, Bool.and_self, beq_self_eq_true, q01, q02, q03, q04, q05, q10, q12, q13, q14, q15, q20, q21, q23, q24, q25, q30, q31, q32, q34, q35, q40, q41, q42, q43, q45, q50, q51, q52, q53, q54]
  refine andX ?_ fun X => ?_
  ·repeat (refine Ext.set ?_ (by omega) _)
   exact ((Ext.push _ _).trans (Ext.push _ _)).trans (Ext.push _ _)
  ·exact ⟨sl0, sl0, rfl, eT _, eP _, eB _, eB _, rfl⟩
 ·cases ack
  ·simp only [itV, itc, go_sem, lf106, ↓reduceIte, q01, q02, q03, q04, q05, q10, q12, q13, q14, q15, q20, q21, q23, q24, q25, q30, q31, q32, q34, q35, q40, q41, q42, q43, q45, q50, q51, q52, q53, q54]
   refine MC.dregion ?_
   simp only [go_sem, ↓reduceIte, veqs, veq, Bool.and_self, beq_self_eq_true, q01, q02, q03, q04, q05, q10, q12, q13, q14, q15, q20, q21, q23, q24, q25, q30, q31, q32, q34, q35, q40, q41, q42, q43, q45, q50, q51, q52, q53, q54]
   refine andX ?_ fun X => ?_
   ·repeat (refine Ext.set ?_ (by omega) _)
    exact ((Ext.push _ _).trans (Ext.push _ _)).trans (Ext.push _ _)
   ·exact ⟨sl0, .slice pa pn pe, rfl, eT _, hp.ext X, eB _, fun b hb => hb, rfl⟩
  ·simp only [itV, itc, go_sem, lf106, ↓reduceIte, q01, q02, q03, q04, q05, q10, q12, q13, q14, q15, q20, q21, q23, q24, q25, q30, q31, q32, q34, q35, q40, q41, q42, q43, q45, q50, q51, q52, q53, q54]
   refine MC.dregion ?_
   simp only [go_sem, ↓reduceIte, veqs, veq, Bool.and_self, beq_self_eq_true, q01, q02, q03, q04, q05, q10, q12, q13, q14, q15, q20, q21, q23, q24, q25, q30, q31, q32, q34, q35, q40, q41, q42, q43, q45, q50, q51, q52, q53, q54]
   refine andX ?_ fun X => ?_
   ·repeat (refine Ext.set ?_ (by omega) _)
    exact ((Ext.push _ _).trans (Ext.push _ _)).trans (Ext.push _ _)
   ·exact ⟨sl0, .slice pa pn pe, rfl, eT _, hp.ext X, eB _, fun b hb => hb, rfl⟩
 ·simp only [itV, itc, go_sem, lf106, ↓reduceIte, q01, q02, q03, q04, q05, q10, q12, q13, q14, q15, q20, q21, q23, q24, q25, q30, q31, q32, q34, q35, q40, q41, q42, q43, q45, q50, q51, q52, q53, q54]
  refine andX ?_ fun X => ?_
  ·repeat (refine Ext.set ?_ (by omega) _)
   exact ((Ext.push _ _).trans (Ext.push _ _)).trans (Ext.push _ _)
  ·rfl
 ·cases ack
  ·simp only [itV, itc, go_sem, lf106, ↓reduceIte, q01, q02, q03, q04, q05, q10, q12, q13, q14, q15, q20, q21, q23, q24, q25, q30, q31, q32, q34, q35, q40, q41, q42, q43, q45, q50, q51, q52, q53, q54]
   refine MC.dregion ?_
   simp only [go_sem, ↓reduceIte, veqs, veq, Bool.and_self, beq_self_eq_true, q01, q02, q03, q04, q05, q10, q12, q13, q14, q15, q20, q21, q23, q24, q25, q30, q31, q32, q34, q35, q40, q41, q42, q43, q45, q50, q51, q52, q53, q54]
   refine andX ?_ fun X => ?_
   ·repeat (refine Ext.set ?_ (by omega) _)
    exact ((Ext.push _ _).trans (Ext.push _ _)).trans (Ext.push _ _)
   ·exact ⟨.slice sa sn se, sl0, rfl, hx.ext X, eP _, fun b hb => hb, eB _, rfl⟩
  ·simp only [itV, itc, go_sem, lf106, ↓reduceIte, q01, q02, q03, q04, q05, q10, q12, q13, q14, q15, q20, q21, q23, q24, q25, q30, q31, q32, q34, q35, q40, q41, q42, q43, q45, q50, q51, q52, q53, q54]
   refine MC.dregion ?_
   simp only [go_sem, ↓reduceIte, veqs, veq, Bool.and_self, beq_self_eq_true, q01, q02, q03, q04, q05, q10, q12, q13, q14, q15, q20, q21, q23, q24, q25, q30, q31, q32, q34, q35, q40, q41, q42, q43, q45, q50, q51, q52, q53, q54]
   refine andX ?_ fun X => ?_
   ·repeat (refine Ext.set ?_ (by omega) _)
    exact ((Ext.push _ _).trans (Ext.push _ _)).trans (Ext.push _ _)
   ·exact ⟨.slice sa sn se, sl0, rfl, hx.ext X, eP _, fun b hb => hb, eB _, rfl⟩
 ·simp only [itV, itc, go_sem, lf106, ↓reduceIte, q01, q02, q03, q04, q05, q10, q12, q13, q14, q15, q20, q21, q23, q24, q25, q30, q31, q32, q34, q35, q40, q41, q42, q43, q45, q50, q51, q52, q53, q54]
  refine MC.dregion ?_
  simp only [go_sem, ↓reduceIte, veqs, veq, Bool.and_self, beq_self_eq_true, q01, q02, q03, q04, q05, q10, q12, q13, q14, q15, q20, q21, q23, q24, q25, q30, q31, q32, q34, q35, q40, q41, q42, q43, q45, q50, q51, q52, q53, q54]
  refine andX ?_ fun X => ?_
  ·repeat (refine Ext.set ?_ (by omega) _)
   exact ((Ext.push _ _).trans (Ext.push _ _)).trans (Ext.push _ _)
  ·exact ⟨.slice sa sn se, sl0, rfl, hx.ext X, eP _, fun b hb => hb, eB _, rfl⟩
 ·simp only [itV, itc, go_sem, lf106, ↓reduceIte, q01, q02, q03, q04, q05, q10, q12, q13, q14, q15, q20, q21, q23, q24, q25, q30, q31, q32, q34, q35, q40, q41, q42, q43, q45, q50, q51, q52, q53, q54]
  refine MC.dregion ?_
  simp only [go_sem, ↓reduceIte, veqs, veq, Bool.and_self, beq_self_eq_true, q01, q02, q03, q04, q05, q10, q12, q13, q14, q15, q20, q21, q23, q24, q25, q30, q31, q32, q34, q35, q40, q41, q42, q43, q45, q50, q51, q52, q53, q54]
  refine andX ?_ fun X => ?_
  ·repeat (refine Ext.set ?_ (by omega) _)
   exact ((Ext.push _ _).trans (Ext.push _ _)).trans (Ext.push _ _)
  ·exact ⟨sl0, sl0, rfl, eT _, eP _, eB _, eB _, rfl⟩
 ·simp only [itV, itc, go_sem, lf106, ↓reduceIte, q01, q02, q03, q04, q05, q10, q12, q13, q14, q15, q20, q21, q23, q24, q25, q30, q31, q32, q34, q35, q40, q41, q42, q43, q45, q50, q51, q52, q53, q54]
  refine andX ?_ fun X => ?_
  ·repeat (refine Ext.set ?_ (by omega) _)
   exact ((Ext.push _ _).trans (Ext.push _ _)).trans (Ext.push _ _)
  ·rfl
 ·have n0 : ((t : Int) == 0) = false := ne_lit (k := 0) (by omega)
  have n3 : ((t : Int) == 3) = false := ne_lit (k := 3) (by omega)
  have n8 : ((t : Int) == 8) = false := ne_lit (k := 8) (by omega)
  have n4 : ((t : Int) == 4) = false := ne_lit (k := 4) (by omega)
  have n6 : ((t : Int) == 6) = false := ne_lit (k := 6) (by omega)
  have n7 : ((t : Int) == 7) = false := ne_lit (k := 7) (by omega)
  simp only [itV, itc, go_sem, lf106, ↓reduceIte, q01, q02, q03, q04, q05, q10, q12, q13, q14, q15, q20, q21, q23, q24, q25, q30, q31, q32, q34, q35, q40, q41, q42, q43, q45, q50, q51, q52, q53, q54, n0, n3, n8, n4, n6, n7]
  refine andX ?_ fun X => ?_
  ·repeat (refine Ext.set ?_ (by omega) _)
   exact ((Ext.push _ _).trans (Ext.push _ _)).trans (Ext.push _ _)
  ·simp only [plainI, if_neg (show ¬ t = 0 by omega), if_neg (show ¬ t = 3 by omega), if_neg (show ¬ t = 8 by omega), if_neg (show ¬ t = 4 by omega), if_neg (show ¬ t = 6 by omega), if_neg (show ¬ t = 7 by omega), PlainQ, zeroEv]
end Go.E1
