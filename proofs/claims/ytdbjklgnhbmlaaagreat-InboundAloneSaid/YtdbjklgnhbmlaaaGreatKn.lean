/-
  Texts joined: NG, NH, NI.
-/
import Derived.Test.YtdbjklgnhbmlaaaGreatKm
/-
 Layer 10: what is said of priority, what may be padded.
-/
namespace Go.E1
open Go Go.Proofs Go.M
set_option linter.unusedSimpArgs false

/-- Below a block nothing but one block is changed. -/
structure Kp (lo ib : Nat) (h h' : LHeap) : Prop where
 size : h.size ≤ h'.size
 get : ∀ b, b < lo → b ≠ ib → h'.get b = h.get b
theorem Kp.refl (lo ib : Nat) (h : LHeap) : Kp lo ib h h := ⟨Nat.le_refl _, fun _ _ _ => rfl⟩
theorem Kp.trans {lo ib : Nat} {a b c : LHeap} (x : Kp lo ib a b) (y : Kp lo ib b c) : Kp lo ib a c := ⟨Nat.le_trans x.size y.size, fun i h1 h2 => (y.get i h1 h2).trans (x.get i h1 h2)⟩
theorem Ext.kp {lo ib : Nat} {h h' : LHeap} (X : Ext h h') (hl : lo ≤ h.size) : Kp lo ib h h' := ⟨X.size, fun i h1 _ => X.get i (by omega)⟩
theorem Upd.kp {lo ib r : Nat} {h h' : LHeap} (U : Upd r h h') (hl : lo ≤ r) : Kp lo ib h h' := ⟨Nat.le_of_eq U.size.symm, fun i h1 _ => U.get i (by omega)⟩
theorem Kp.set (lo ib : Nat) (h : LHeap) (o : LObj) : Kp lo ib h (h.set ib o) := ⟨by simp, fun i _ h2 => by simp [h2]⟩
theorem Kp.hi {lo ib b : Nat} (h : LHeap) (o : LObj) (hb : lo ≤ b) : Kp lo ib h (h.set b o) := ⟨by simp, fun i h1 _ => by simp [show i ≠ b by omega]⟩
theorem InR.upd {h h' : LHeap} {lo hi r ib : Nat} {l : Bytes} (a : InR h lo hi r l) (u : Upd ib h h') (hb : ib < lo) : InR h' lo hi r l := by
 obtain ⟨v, h1, h0, h2, h3, h4, h5⟩ := a
 exact ⟨v, by rw [u.size]; exact h1, h0, by rw [u.get r (by omega)]; exact h2, h3.upd (fun e => by have := h5 _ e; omega) u, h4, h5⟩
theorem InR.lt {h : LHeap} {lo hi r : Nat} {l : Bytes} (a : InR h lo hi r l) : lo ≤ r ∧ r < h.size := by
 obtain ⟨v, h1, h0, _⟩ := a
 exact ⟨h0, by omega⟩

/-- An item's cells. -/
def itc (x : Itm) (tv pv : Value) : List Value :=
 [.int .i64 (x.ty : Nat), .int .i64 (x.st : Nat), tv, .bool x.fin, .bool x.endh, .bool x.ack, .int .i64 (x.flow : Nat), .int .i64 (x.code : Nat), .int .i64 (x.last : Nat), .int .i64 (x.inc : Nat), .int .i64 (x.dep : Nat), .int .i64 (x.wt : Nat), .bool x.weighed, .bool x.excl, pv]
def sl0 : Value := .slice none 0 0

theorem sWeigh {h : LHeap} {lo hx r ib : Nat} {l : Bytes} {x : Itm} {tv pv : Value} (hi : h.get ib = some (.cells (itc x tv pv) true true)) (hib : ib < lo) (I : InR h lo hx r l) (hl : l.length < 1000000) :
  LCalls EC 153 [.pointer (some ⟨ib, 0, none⟩), .pointer (some ⟨r, 0, none⟩)] h fun u h' => match weighI x l with
   | none => u = .bool false ∧ h' = h
   | some (y, l') => u = .bool true ∧ h'.get ib = some (.cells (itc y tv pv) true true) ∧ InR h' lo hx r l' ∧ Kp lo ib h h' := by
 refine LCalls.enter (lf := lf153) rfl rfl (by simp [lf153]) ?_
 have hlt := I.lt
 simp only [go_sem, lf153, ↓reduceIte]
 refine MCall.by (sLeft I) ?_
 rintro u h2 ⟨rfl, rfl⟩
 unfold weighI
 by_cases c : l.length < 5
 ·have d : (l.length : Int) < 5 := by omega
  simp only [go_sem, ↓reduceIte, d]
  simp only [c, ↓reduceIte]
 ·have d : ¬ (l.length : Int) < 5 := by omega
  simp only [go_sem, ↓reduceIte, d]
  refine MCall.by (sNumberP (n := 4) I (by omega) (by omega) hl) ?_
  rintro u h3 ⟨rfl, I3, U3⟩
  have g3 : h3.get ib = _ := (U3.get ib (by omega)).trans hi
  have hb := big_lt 4 (l.take 4) (by rw [List.length_take]; omega)
  have ha := and_low (n := big (l.take 4)) (by rw [show (4294967296 : Nat) = 256 ^ 4 by decide]; exact hb)
  have s3 := U3.size
  have hg : decide ((big (l.take 4) : Int) > 2147483647) = decide (2147483647 < big (l.take 4)) := by
   rw [decide_eq_decide]; omega
  have hg' : decide ((2147483647 : Int) < (big (l.take 4) : Int)) = decide (2147483647 < big (l.take 4)) := by
   rw [decide_eq_decide]; omega
  simp only [itc] at g3
  simp only [go_sem, ↓reduceIte, g3, ha, hg, hg']
  generalize hq : LHeap.set _ ib _ = h4
  have U4 : Upd ib h3 h4 := by rw [← hq]; exact (Upd.set _ _ _).trans (Upd.set _ _ _)
  have g4 : h4.get ib = some (.cells (itc { x with dep := big (l.take 4) % 2147483648, excl := decide (2147483647 < big (l.take 4)) } tv pv) true true) := by rw [← hq]; simp [itc]
  clear hq
  refine MCall.by (sNumberP (n := 1) (I3.upd U4 hib) (by rw [List.length_drop]; omega) (by omega) (by rw [List.length_drop]; omega)) ?_
  rintro u h5 ⟨rfl, I5, U5⟩
  have g5 : h5.get ib = _ := (U5.get ib (by omega)).trans g4
  have hb1 := big_lt 1 ((l.drop 4).take 1) (by rw [List.length_take, List.length_drop]; omega)
  have w1 : IntKind.i64.wrap ((big ((l.drop 4).take 1) : Int) + 1) = ((big ((l.drop 4).take 1) + 1 : Nat) : Int) := by rw [IntWalk.i64_in _ (by omega)]; omega
  have s4 := U4.size
  have s5 := U5.size
  simp only [itc] at g5
  simp only [go_sem, ↓reduceIte, g5, w1]
  rw [if_neg c]
  have U6 := Upd.set ib h5
  refine ⟨by simp [itc], ?_, ?_⟩
  ·rw [show l.drop 5 = (l.drop 4).drop 1 by rw [List.drop_drop]]
   exact (I5.upd (Upd.set ib _ _) hib).upd (Upd.set ib _ _) hib
  ·exact ((((U3.kp (by omega)).trans ⟨Nat.le_of_eq s4.symm, fun b _ hb => U4.get b hb⟩).trans (U5.kp (by omega))).trans (Kp.set _ _ _ _)).trans (Kp.set _ _ _ _)

theorem sOwn {h : LHeap} {ib : Nat} {x : Itm} {tv pv : Value} (hi : h.get ib = some (.cells (itc x tv pv) true true)) (hib : ib < h.size) :
  LCalls EC 152 [.pointer (some ⟨ib, 0, none⟩)] h fun u h' => u = fltV (ownI x) ∧ Ext h h' := by
 refine LCalls.enter (lf := lf152) rfl rfl (by simp [lf152]) ?_
 have hne : ¬ ib = h.size := by omega
 simp only [itc] at hi
 unfold ownI
 simp only [go_sem, lf152, ↓reduceIte]
 refine MC.dregion ?_
 cases hw : x.weighed with
 | false =>
  simp only [go_sem, ↓reduceIte, hi, hne, hw]
  exact ⟨rfl, (Ext.push _ _).set (Nat.le_refl _) _⟩
 | true =>
  by_cases c : x.dep = x.st
  ·have e1 : ((x.dep : Int) == (x.st : Int)) = true := by rw [c]; simp
   simp only [go_sem, ↓reduceIte, hi, hne, hw, e1]
   exact ⟨by simp [c]; rfl, (Ext.push _ _).set (Nat.le_refl _) _⟩
  ·have e1 : ((x.dep : Int) == (x.st : Int)) = false := ne_lit c
   simp only [go_sem, ↓reduceIte, hi, hne, hw, e1]
   exact ⟨by simp [c]; rfl, (Ext.push _ _).set (Nat.le_refl _) _⟩
end Go.E1

/-
 Layer 10: what may be padded.
-/
namespace Go.E1
open Go Go.Proofs Go.M
set_option linter.unusedSimpArgs false

theorem MO.cut2 {E : Env} {ops : List LOper} {ks : List Nat} {c b : LCode} {k : Cont} {fr : Fr} {h : LHeap} {Q : Value → LHeap → Prop} (J : Fr → LHeap → Prop) (w : MO E ops ks (.code c (.inv J k)) fr h Q) (hb : ∀ fr h, J fr h → MC E b k fr h Q) : MO E ops ks (.code c (.code b k)) fr h Q :=
 w.cont (kont_code (kont_cut hb))
theorem weighI_text {x y : Itm} {l l' : Bytes} (h : weighI x l = some (y, l')) : y.text = x.text ∧ l'.length ≤ l.length := by
 unfold weighI at h
 split at h
 ·cases h
 ·cases h
  exact ⟨rfl, by rw [List.length_drop]; omega⟩
theorem sPadded {h : LHeap} {ib : Nat} {f : Frm} {fv : Value} {x : Itm} {pv : Value} (hi : h.get ib = some (.cells (itc x sl0 pv) true true)) (hib : ib < h.size) (hx : x.text = [])
  (hv : BytesAt h fv f.pl) (hf : f.fl < 4294967296) (hl : f.pl.length < 1000000) :
  LCalls EC 151 [.pointer (some ⟨ib, 0, none⟩), frV f fv] h fun u h' => ∃ tv, u = fltV (paddedI x f).2 ∧ h'.get ib = some (.cells (itc (paddedI x f).1 tv pv) true true) ∧
   BytesAt h' tv (paddedI x f).1.text ∧ (∀ b, blkOf tv = some b → h.size ≤ b) ∧ Kp h.size ib h h' := by
 refine LCalls.enter (lf := lf151) rfl rfl (by simp [lf151]) ?_
 have hz : ¬ h.size = h.size + 1 := by omega
 have eT : ∀ hh : LHeap, BytesAt hh sl0 x.text := fun hh => by rw [hx]; exact .inl ⟨rfl, 0, rfl⟩
 have eT0 : ∀ b, blkOf sl0 = some b → h.size ≤ b := fun b hb => by cases hb
  
 simp only [frV, go_sem, lf151, ↓reduceIte, hz]
 generalize hq : LHeap.push _ _ = h1
 have X1 : Ext h h1 := by rw [← hq]; exact (Ext.push _ _).trans (Ext.push _ _)
 have gb1 : h1.get h.size = some (.cells [.int .i64 (f.ty : Nat), .int .i64 (f.fl : Nat), .int .i64 (f.st : Nat), fv] true true) := by rw [← hq]; simp
 have gf1 : h1.get (h.size + 1) = some (.cells [.int .i64 0, .bool false] true true) := by rw [← hq]; simp
 have s1 : h1.size = h.size + 2 := by rw [← hq]; simp
 clear hq
 refine MCall.by (sInNew (hv.ext X1) hl) ?_
 rintro u h2 ⟨r, rfl, I2, X2, hr⟩
 have s2 := X2.size
 have hr2 := I2.lt.2
 have gb2 := (X2.get h.size (by omega)).trans gb1
 have gf2 := (X2.get (h.size + 1) (by omega)).trans gf1
 have gi2 : h2.get ib = _ := (X2.get ib (by omega)).trans ((X1.get ib hib).trans hi)
 simp only [go_sem, ↓reduceIte, gb2]
 refine MCall.by (sHas f fv hf (k := 8) (by omega)) ?_
 rintro u h3 ⟨rfl, X3⟩
 have s3 := X3.size
 have gb3 := (X3.get h.size (by omega)).trans gb2
 have gf3 := (X3.get (h.size + 1) (by omega)).trans gf2
 have gi3 := (X3.get ib (by omega)).trans gi2
 have I3 := I2.ext X3
 rw [s1] at I3
 have gi1 : h1.get ib = _ := (X1.get ib hib).trans hi
 have K1 : Kp h.size ib h h1 := X1.kp (Nat.le_refl _)
 have X13 : Ext h1 h3 := X2.trans X3
 refine MO.cut2 (fun fr hh => ∃ pad l tl, padI f = some (pad, l) ∧ fr = (0, .pointer (some ⟨ib, 0, none⟩)) :: (3, .pointer (some ⟨h.size, 0, none⟩)) :: (4, .pointer (some ⟨h.size + 1, 0, none⟩)) :: (5, .pointer (some ⟨r, 0, none⟩)) :: (6, .int .i64 (pad : Nat)) :: tl ∧
  InR hh (h.size + 2) h2.size r l ∧ l.length ≤ f.pl.length ∧ Ext h1 hh) ?_ ?_
 ·cases h8 : hasF f.fl 8 with
  | false =>
   simp only [go_sem, ↓reduceIte]
   exact ⟨0, f.pl, _, by simp [padI, h8], rfl, I3, Nat.le_refl _, X13⟩
  | true =>
   simp only [go_sem, ↓reduceIte]
   by_cases c : f.pl.length < 1
   ·refine MCall.by (sByteNo I3 c) ?_
    rintro u h4 ⟨rfl, rfl⟩
    simp only [go_sem, ↓reduceIte]
    refine MCall.by (sConnP 106) ?_
    rintro u h5 ⟨rfl, X5⟩
    have gf5 := (X5.get (h.size + 1) (by omega)).trans gf3
    have gi5 := (X5.get ib (by omega)).trans gi3
    simp only [fltV, go_sem, ↓reduceIte, gf5]
    have e : paddedI x f = (x, (106, true)) := by simp [paddedI, padI, h8, c]
    rw [e]
    exact ⟨sl0, rfl, by simpa [show ib ≠ h.size + 1 by omega] using gi5, eT _, eT0, (K1.trans ((X13.trans X5).kp (by omega))).trans (Kp.hi _ _ (by omega))⟩
   ·refine MCall.by (sByte I3 (by omega) hl) ?_
    rintro u h4 ⟨rfl, I4, U4⟩
    simp only [go_sem, ↓reduceIte]
    exact ⟨_, f.pl.drop 1, _, by simp [padI, h8, c], rfl, I4, by rw [List.length_drop]; omega, U4.ext X13 (by omega)⟩
 ·rintro fr hh ⟨pad, l, tl, hp, rfl, I4, hl4, X4⟩
  have gb4 := (X4.get h.size (by omega)).trans gb1
  have gf4 := (X4.get (h.size + 1) (by omega)).trans gf1
  have gi4 := (X4.get ib (by omega)).trans gi1
  have s4 := X4.size
  have K4 : Kp h.size ib h hh := K1.trans (X4.kp (by omega))
  have hpl : pad < 256 := by
   unfold padI at hp
   split at hp
   ·split at hp
    ·cases hp
    ·cases hp
     exact big_lt 1 _ (by rw [List.length_take]; omega)
   ·cases hp; decide
  simp only [go_sem, ↓reduceIte, gb4]
  refine MG.cut (fun fr h5 => ∃ y l' tl', (if f.ty = 1 ∧ hasF f.fl 32 = true then weighI x l else some (x, l)) = some (y, l') ∧ y.text = [] ∧ fr = (0, .pointer (some ⟨ib, 0, none⟩)) :: (4, .pointer (some ⟨h.size + 1, 0, none⟩)) :: (5, .pointer (some ⟨r, 0, none⟩)) :: (6, .int .i64 (pad : Nat)) :: tl' ∧
   h5.get ib = some (.cells (itc y sl0 pv) true true) ∧ h5.get (h.size + 1) = some (.cells [.int .i64 0, .bool false] true true) ∧ InR h5 (h.size + 2) h2.size r l' ∧ l'.length ≤ l.length ∧ Kp h.size ib h h5) ?_ ?_
  ·by_cases c1 : f.ty = 1
   ·have b1 : ((f.ty : Int) == 1) = true := by rw [c1]; rfl
    simp only [go_sem, ↓reduceIte, b1, gb4]
    refine MCall.by (sHas f fv hf (k := 32) (by omega)) ?_
    rintro u h5 ⟨rfl, X5⟩
    have I5 := I4.ext X5
    have gf5 := (X5.get (h.size + 1) (by omega)).trans gf4
    have gi5 := (X5.get ib (by omega)).trans gi4
    have K5 : Kp h.size ib h h5 := K4.trans (X5.kp (by omega))
    cases h32 : hasF f.fl 32 with
    | false =>
     simp only [go_sem, ↓reduceIte]
     exact ⟨x, l, _, by simp, hx, rfl, gi5, gf5, I5, Nat.le_refl _, K5⟩
    | true =>
     simp only [go_sem, ↓reduceIte]
     refine MCall.by (sWeigh gi5 (by omega) I5 (by omega)) ?_
     rintro u h6 W
     cases hw : weighI x l with
     | none =>
      rw [hw] at W
      obtain ⟨rfl, rfl⟩ := W
      simp only [go_sem, ↓reduceIte]
      refine MCall.by (sConnP 106) ?_
      rintro u h7 ⟨rfl, X7⟩
      have s5 := X5.size
      have gf7 := (X7.get (h.size + 1) (by omega)).trans gf5
      have gi7 := (X7.get ib (by omega)).trans gi5
      simp only [fltV, go_sem, ↓reduceIte, gf7]
      have e : paddedI x f = (x, (106, true)) := by simp [paddedI, hp, c1, h32, hw]
      rw [e]
      exact ⟨sl0, rfl, by simpa [show ib ≠ h.size + 1 by omega] using gi7, eT _, eT0, (K5.trans (X7.kp (by omega))).trans (Kp.hi _ _ (by omega))⟩
     | some p =>
      obtain ⟨y, l'⟩ := p
      rw [hw] at W
      obtain ⟨rfl, gi6, I6, K6⟩ := W
      obtain ⟨y1, y2⟩ := weighI_text hw
      simp only [go_sem, ↓reduceIte]
      exact ⟨y, l', _, by simp [c1], y1.trans hx, rfl, gi6, (K6.get _ (by omega) (by omega)).trans gf5, I6, y2, K5.trans ⟨K6.size, fun b b1 b2 => K6.get b (by omega) b2⟩⟩
   ·have b1 : ((f.ty : Int) == 1) = false := ne_lit (k := 1) c1
    simp only [go_sem, ↓reduceIte, b1]
    exact ⟨x, l, _, by simp [c1], hx, rfl, gi4, gf4, I4, Nat.le_refl _, K4⟩
  ·rintro fr h5 ⟨y, l', tl', hw, hy, rfl, gi5, gf5, I5, hl5, K5⟩
   have hlt5 := I5.lt
   simp only [go_sem, ↓reduceIte]
   refine MCall.by (sLeft I5) ?_
   rintro u h6 ⟨rfl, rfl⟩
   by_cases c : l'.length < pad
   ·have d : (pad : Int) > (l'.length : Int) := by omega
    have d' : (l'.length : Int) < (pad : Int) := by omega
    simp only [go_sem, ↓reduceIte, d, d', decide_true]
    refine MCall.by (sConnP 101) ?_
    rintro u h7 ⟨rfl, X7⟩
    have gf7 := (X7.get (h.size + 1) (by omega)).trans gf5
    have gi7 := (X7.get ib (by omega)).trans gi5
    simp only [fltV, go_sem, ↓reduceIte, gf7]
    have e : paddedI x f = (y, (101, true)) := by simp [paddedI, hp, hw, c]
    rw [e]
    exact ⟨sl0, rfl, by simpa [show ib ≠ h.size + 1 by omega] using gi7, by rw [hy]; exact .inl ⟨rfl, 0, rfl⟩, eT0, (K5.trans (X7.kp (by omega))).trans (Kp.hi _ _ (by omega))⟩
   ·have d : ¬ (pad : Int) > (l'.length : Int) := by omega
    have d' : ¬ (l'.length : Int) < (pad : Int) := by omega
    simp only [go_sem, ↓reduceIte, d, d', decide_false]
    refine MCall.by (sLeft I5) ?_
    rintro u h7 ⟨rfl, rfl⟩
    have w1 : IntKind.i64.wrap ((l'.length : Int) - (pad : Int)) = ((l'.length - pad : Nat) : Int) := by rw [IntWalk.i64_in _ (by omega)]; omega
    simp only [go_sem, ↓reduceIte, w1]
    refine MCall.by (sTake I5 (n := l'.length - pad) (by omega) (by omega)) ?_
    rintro u h8 ⟨w, rfl, B8, hb8, hlo8, I8, U8⟩
    have gf8 := (U8.get (h.size + 1) (by omega)).trans gf5
    have gi8 := (U8.get ib (by omega)).trans gi5
    have s8 := U8.size
    simp only [itc, sl0] at gi8
    obtain ⟨sa, sn, se, rfl⟩ := B8.shape
    have hne : ¬ h.size + 1 = ib := by omega
    simp only [go_sem, ↓reduceIte, gi8, gf8, hne]
    have e : paddedI x f = ({ y with text := l'.take (l'.length - pad) }, okF) := by simp [paddedI, hp, hw, c]
    rw [e]
    have K8 : Kp h.size ib h h8 := K5.trans (U8.kp (by omega))
    refine ⟨.slice sa sn se, rfl, by simp [itc, show ib ≠ h.size + 1 by omega], ?_, fun b hb => by have := hlo8 b hb; omega, (K8.trans (Kp.set _ _ _ _)).trans (Kp.hi _ _ (by omega))⟩
    exact (B8.upd (fun e => by have := hlo8 _ e; omega) (Upd.set ib _ _)).upd (fun e => by have := hlo8 _ e; omega) (Upd.set _ _ _)
end Go.E1

/-
 Layer 10: all of a frame's type.
-/
namespace Go.E1
open Go Go.Proofs Go.M
set_option linter.unusedSimpArgs false

def pc (p : Nat × Nat) : List Value := [.int .i64 (p.1 : Nat), .int .i64 (p.2 : Nat)]
theorem pc_cel : Cel 2 pc := ⟨fun _ => rfl, fun _ => rfl, by omega⟩
theorem GL.shape {α : Type} {k : Nat} {c : α → List Value} {h : LHeap} {v : Value} {l : List α} (g : GL k c h v l) : ∃ a n e, v = .slice a n e := by
 rcases g with ⟨_, rfl⟩ | ⟨b, rfl, _⟩ <;> exact ⟨_, _, _, rfl⟩
/-- An item at its place, its text and pairs in blocks of their own. -/
def ItAt (lo : Nat) (ib : Nat) (h' : LHeap) (y : Itm) : Prop := ∃ tv pv, h'.get ib = some (.cells (itc y tv pv) true true) ∧ BytesAt h' tv y.text ∧ (∀ b, blkOf tv = some b → lo ≤ b) ∧ GL 2 pc h' pv y.pairs ∧ (∀ b, blkOf pv = some b → lo ≤ b)
theorem GL.upd {α : Type} {k : Nat} {c : α → List Value} {h h' : LHeap} {v : Value} {l : List α} {r : Nat} (g : GL k c h v l) (u : Upd r h h') (hr : blkOf v ≠ some r) : GL k c h' v l :=
 g.move (Nat.le_of_eq u.size.symm) fun x hx => u.get x fun e => hr (by rw [hx, e])

theorem okF_ne {c : Nat} {b : Bool} (h : (c, b) ≠ okF) : decide ((c, b) = okF) = false := by simpa using h

theorem fin_it {h hN : LHeap} {ib : Nat} {y : Itm} {tv pv : Value} {o : LObj} (K : Kp h.size ib h hN) (hib : ib < h.size) (ht : BytesAt hN tv y.text) (ht0 : ∀ b, blkOf tv = some b → h.size + 2 ≤ b) (hp : GL 2 pc hN pv y.pairs) (hp0 : ∀ b, blkOf pv = some b → h.size + 2 ≤ b) :
  ItAt h.size ib ((hN.set ib (.cells (itc y tv pv) true true)).set (h.size + 1) o) y ∧ Kp h.size ib h ((hN.set ib (.cells (itc y tv pv) true true)).set (h.size + 1) o) := by
 have a1 : blkOf tv ≠ some ib := fun e => by have := ht0 _ e; omega
 have a2 : blkOf tv ≠ some (h.size + 1) := fun e => by have := ht0 _ e; omega
 have a3 : blkOf pv ≠ some ib := fun e => by have := hp0 _ e; omega
 have a4 : blkOf pv ≠ some (h.size + 1) := fun e => by have := hp0 _ e; omega
 have hks := K.size
 exact ⟨⟨tv, pv, by simp [show ib ≠ h.size + 1 by omega], (ht.upd a1 (Upd.set _ _ _)).upd a2 (Upd.set _ _ _), fun b e => by have := ht0 b e; omega,
  (hp.upd (Upd.set _ _ _) a3).upd (Upd.set _ _ _) a4, fun b e => by have := hp0 b e; omega⟩, (K.trans (Kp.set _ _ _ _)).trans (Kp.hi _ _ (by omega))⟩
theorem fin_it0 {h hN : LHeap} {ib : Nat} {y : Itm} {tv pv : Value} {o : LObj} (K : Kp h.size ib h hN) (hib : ib < h.size) (g : hN.get ib = some (.cells (itc y tv pv) true true)) (ht : BytesAt hN tv y.text) (ht0 : ∀ b, blkOf tv = some b → h.size + 2 ≤ b) (hp : GL 2 pc hN pv y.pairs) (hp0 : ∀ b, blkOf pv = some b → h.size + 2 ≤ b) :
  ItAt h.size ib (hN.set (h.size + 1) o) y ∧ Kp h.size ib h (hN.set (h.size + 1) o) := by
 have a2 : blkOf tv ≠ some (h.size + 1) := fun e => by have := ht0 _ e; omega
 have a4 : blkOf pv ≠ some (h.size + 1) := fun e => by have := hp0 _ e; omega
 exact ⟨⟨tv, pv, by simpa [show ib ≠ h.size + 1 by omega] using g, ht.upd a2 (Upd.set _ _ _), fun b e => by have := ht0 b e; omega,
  hp.upd (Upd.set _ _ _) a4, fun b e => by have := hp0 b e; omega⟩, K.trans (Kp.hi _ _ (by omega))⟩

theorem paddedI_pairs (x : Itm) (f : Frm) : (paddedI x f).1.pairs = x.pairs := by
 have hw : ∀ (l : Bytes) (y : Itm) (l' : Bytes), weighI x l = some (y, l') → y.pairs = x.pairs := fun l y l' h => by
  unfold weighI at h
  split at h
  ·cases h
  ·cases h; rfl
 unfold paddedI
 split
 ·rfl
 ·rename_i pad l _
  split
  ·rfl
  ·rename_i y l' hm
   have hy : y.pairs = x.pairs := by
    split at hm
    ·exact hw _ _ _ hm
    ·cases hm; rfl
   split <;> exact hy

theorem pairsI_len : ∀ (k : Nat) (l : Bytes), (pairsI k l).length = k
 | 0, _ => rfl
 | k + 1, l => by simp [pairsI, pairsI_len k]
theorem pairsI_snoc : ∀ (k : Nat) (l : Bytes), pairsI (k + 1) l = pairsI k l ++ [(big ((l.drop (6 * k)).take 2), big (((l.drop (6 * k)).drop 2).take 4))]
 | 0, l => by simp [pairsI]
 | k + 1, l => by
  rw [pairsI, pairsI_snoc k (l.drop 6), pairsI, List.drop_drop, List.cons_append]
  rw [show 6 + 6 * k = 6 * (k + 1) by omega]
theorem sRead {h : LHeap} {ib : Nat} {f : Frm} {fv : Value} {x : Itm} (hi : h.get ib = some (.cells (itc x sl0 sl0) true true)) (hib : ib < h.size) (hx : x.text = []) (hxp : x.pairs = [])
  (hv : BytesAt h fv f.pl) (hf : f.fl < 4294967296) (hl : f.pl.length < 1000000) (hL : lengthF f = okF) (hvb : blkOf fv ≠ some ib) :
  LCalls EC 134 [.pointer (some ⟨ib, 0, none⟩), frV f fv] h fun u h' => u = fltV (readI x f).2 ∧ ItAt h.size ib h' (readI x f).1 ∧ Kp h.size ib h h' := by
 refine LCalls.enter (lf := lf134) rfl rfl (by simp [lf134]) ?_
 have hz : ¬ h.size = h.size + 1 := by omega
 have hni : ¬ ib = h.size + 1 := by omega
 have hni' : ¬ h.size + 1 = ib := by omega
 have eT : ∀ hh : LHeap, BytesAt hh sl0 x.text := fun hh => by rw [hx]; exact .inl ⟨rfl, 0, rfl⟩
 have eP : ∀ hh : LHeap, GL 2 pc hh sl0 x.pairs := fun hh => by rw [hxp]; exact .inl ⟨rfl, rfl⟩
 have eT0 : ∀ b, blkOf sl0 = some b → h.size ≤ b := fun b hb => by cases hb
 simp only [frV, go_sem, lf134, ↓reduceIte, hz]
 generalize hq : LHeap.push _ _ = h1
 have X1 : Ext h h1 := by rw [← hq]; exact (Ext.push _ _).trans (Ext.push _ _)
 have gb1 : h1.get h.size = some (.cells [.int .i64 (f.ty : Nat), .int .i64 (f.fl : Nat), .int .i64 (f.st : Nat), fv] true true) := by rw [← hq]; simp
 have gf1 : h1.get (h.size + 1) = some (.cells [.int .i64 0, .bool false] true true) := by rw [← hq]; simp
 have s1 : h1.size = h.size + 2 := by rw [← hq]; simp
 clear hq
 have gi1 : h1.get ib = _ := (X1.get ib hib).trans hi
 refine MCall.by (sInNew (hv.ext X1) hl) ?_
 rintro u h2 ⟨r, rfl, I2, X2, hr⟩
 have s2 := X2.size
 have hr2 := I2.lt.2
 have gb2 := (X2.get h.size (by omega)).trans gb1
 have gf2 := (X2.get (h.size + 1) (by omega)).trans gf1
 have gi2 := (X2.get ib (by omega)).trans gi1
 have K2 : Kp h.size ib h h2 := (X1.trans X2).kp (Nat.le_refl _)
 have hv2 := hv.ext (X1.trans X2)
 rw [s1] at I2
 clear X2 X1 gb1 gf1 gi1 hi
 obtain ⟨t, fl, st, pl⟩ := f
 simp only at hf hl hL hv hv2 I2 gb2
 have has := fun (hh : LHeap) (k : Nat) (hk : k = 1 ∨ k = 4 ∨ k = 8 ∨ k = 32) => sHas (h := hh) ⟨t, fl, st, pl⟩ fv hf hk
 have pad := fun (hh : LHeap) (y : Itm) (pv : Value) (g : hh.get ib = some (.cells (itc y sl0 pv) true true)) (hib : ib < hh.size) (hy : y.text = []) (hv : BytesAt hh fv pl) => sPadded (f := ⟨t, fl, st, pl⟩) g hib hy hv hf hl
 simp only [frV] at has pad
 have giI := gi2
 simp only [itc, sl0] at gi2
 have eT2 : ∀ b, blkOf sl0 = some b → h.size + 2 ≤ b := fun b hb => by cases hb
 rcases ty_cases t with rfl | rfl | rfl | rfl | rfl | rfl | rfl | rfl | rfl | rfl | ht
 ·simp only [go_sem, ↓reduceIte, gb2, gi2, gf2]
  refine MCall.by (has h2 1 (by omega)) ?_
  rintro u h3 ⟨rfl, X3⟩
  have gi3 := (X3.get ib (by omega)).trans gi2
  have gb3 := (X3.get h.size (by omega)).trans gb2
  have s3 := X3.size
  have hnb : ¬ h.size = ib := by omega
  have X23 := X3
  simp only [go_sem, ↓reduceIte, gi3, gb3, hnb]
  generalize hq : LHeap.set _ ib _ = h4
  have U4 : Upd ib h3 h4 := by rw [← hq]; exact (Upd.set _ _ _).trans (Upd.set _ _ _)
  have gi4 : h4.get ib = some (.cells (itc { x with fin := hasF fl 1, endh := decide ((0 : Nat) = 1) && hasF fl 4 } sl0 sl0) true true) := by rw [← hq]; simp [itc, sl0]
  clear hq
  have s4 := U4.size
  have K4 : Kp h.size ib h h4 := (K2.trans (X3.kp (by omega))).trans ⟨Nat.le_of_eq U4.size.symm, fun b _ b2 => U4.get b b2⟩
  have gf4 := (U4.get (h.size + 1) (by omega)).trans ((X3.get (h.size + 1) (by omega)).trans gf2)
  have hv4 := BytesAt.upd (hv2.ext X3) hvb U4
  refine MCall.by (pad h4 { x with fin := hasF fl 1, endh := decide ((0 : Nat) = 1) && hasF fl 4 } _ gi4 (by omega) hx hv4) ?_
  rintro u h5 ⟨tv, rfl, gi5, B5, hlo5, K5⟩
  have s5 := K5.size
  have gf5 := (K5.get (h.size + 1) (by omega) (by omega)).trans gf4
  have hpp : (paddedI { x with fin := hasF fl 1, endh := decide ((0 : Nat) = 1) && hasF fl 4 } ⟨0, fl, st, pl⟩).1.pairs = x.pairs := paddedI_pairs _ _
  generalize hP : paddedI { x with fin := hasF fl 1, endh := decide ((0 : Nat) = 1) && hasF fl 4 } ⟨0, fl, st, pl⟩ = P at *
  obtain ⟨y, z⟩ := P
  have K05 : Kp h.size ib h h5 := K4.trans ⟨K5.size, fun b b1 b2 => K5.get b (by omega) b2⟩
  simp only [fltV, go_sem, ↓reduceIte]
  generalize hq : LHeap.set _ h5.size _ = h6
  have X6 : Ext h5 h6 := by rw [← hq]; exact (Ext.push _ _).set (Nat.le_refl _) _
  have g6 : h6.get h5.size = some (.cells [.int .i64 (z.1 : Nat), .bool z.2] true true) := by rw [← hq]; simp
  have s6 : h6.size = h5.size + 1 := by rw [← hq]; simp
  clear hq
  refine MCall.by (sOKF z) ?_
  rintro u h7 ⟨rfl, X7⟩
  have gi7 := (X7.get ib (by omega)).trans ((X6.get ib (by omega)).trans gi5)
  have gf7 := (X7.get (h.size + 1) (by omega)).trans ((X6.get (h.size + 1) (by omega)).trans gf5)
  have g7 := (X7.get h5.size (by omega)).trans g6
  have K07 : Kp h.size ib h h7 := (K05.trans (X6.kp (by omega))).trans (X7.kp (by omega))
  have B7 := (B5.ext X6).ext X7
  have s7 := X7.size
  by_cases cz : z = okF
  ·simp only [cz, decide_true, go_sem, ↓reduceIte]
   refine MCall.by (sOwn gi7 (by omega)) ?_
   rintro u h8 ⟨rfl, X8⟩
   have gi8 := (X8.get ib (by omega)).trans gi7
   have gf8 := (X8.get (h.size + 1) (by omega)).trans gf7
   simp only [fltV, go_sem, ↓reduceIte, gf8]
   have e : readI x ⟨0, fl, st, pl⟩ = (y, ownI y) := by
    unfold readI
    rw [if_pos (by simp)]
    show (let p := paddedI { x with fin := hasF fl 1, endh := decide ((0 : Nat) = 1) && hasF fl 4 } ⟨0, fl, st, pl⟩; if p.2 ≠ okF then p else (p.1, ownI p.1)) = _
    rw [hP]
    simp [cz]
   rw [e]
   exact ⟨rfl, fin_it0 (K07.trans (X8.kp (by omega))) hib gi8 (B7.ext X8) (fun b hb => by have := hlo5 b hb; omega) (by rw [hpp]; exact eP _) eT2⟩
  ·simp only [cz, decide_false, go_sem, ↓reduceIte, g7, gf7]
   have e : readI x ⟨0, fl, st, pl⟩ = (y, z) := by
    unfold readI
    rw [if_pos (by simp)]
    show (let p := paddedI { x with fin := hasF fl 1, endh := decide ((0 : Nat) = 1) && hasF fl 4 } ⟨0, fl, st, pl⟩; if p.2 ≠ okF then p else (p.1, ownI p.1)) = _
    rw [hP]
    simp [cz]
   rw [e]
   exact ⟨rfl, fin_it0 K07 hib gi7 B7 (fun b hb => by have := hlo5 b hb; omega) (by rw [hpp]; exact eP _) eT2⟩
 ·simp only [go_sem, ↓reduceIte, gb2, gi2, gf2]
  refine MCall.by (has h2 1 (by omega)) ?_
  rintro u h3' ⟨rfl, X3'⟩
  have gi3' := (X3'.get ib (by omega)).trans gi2
  have gb3' := (X3'.get h.size (by omega)).trans gb2
  have s3' := X3'.size
  have hnb : ¬ h.size = ib := by omega
  simp only [go_sem, ↓reduceIte, gi3', gb3', hnb]
  generalize hq : LHeap.set _ ib _ = h3a
  have U3 : Upd ib h3' h3a := by rw [← hq]; exact Upd.set _ _ _
  have gi3 : h3a.get ib = some (.cells (itc { x with fin := hasF fl 1 } sl0 sl0) true true) := by rw [← hq]; simp [itc, sl0]
  clear hq
  have gb3 := (U3.get h.size hnb).trans gb3'
  have s3a := U3.size
  refine MCall.by (has h3a 4 (by omega)) ?_
  rintro u h3 ⟨rfl, X3⟩
  have gi3 := (X3.get ib (by omega)).trans gi3
  have gb3 := (X3.get h.size (by omega)).trans gb3
  have s3 := X3.size
  simp only [itc, sl0] at gi3
  simp only [go_sem, ↓reduceIte, gi3, gb3, hnb]
  generalize hq : LHeap.set _ ib _ = h4
  have U4 : Upd ib h3 h4 := by rw [← hq]; exact (Upd.set _ _ _)
  have gi4 : h4.get ib = some (.cells (itc { x with fin := hasF fl 1, endh := decide ((1 : Nat) = 1) && hasF fl 4 } sl0 sl0) true true) := by rw [← hq]; simp [itc, sl0]
  clear hq
  have s4 := U4.size
  have K4 : Kp h.size ib h h4 := (((K2.trans (X3'.kp (by omega))).trans ⟨Nat.le_of_eq U3.size.symm, fun b _ b2 => U3.get b b2⟩).trans (X3.kp (by omega))).trans ⟨Nat.le_of_eq U4.size.symm, fun b _ b2 => U4.get b b2⟩
  have gf4 := (U4.get (h.size + 1) (by omega)).trans ((X3.get (h.size + 1) (by omega)).trans ((U3.get (h.size + 1) (by omega)).trans ((X3'.get (h.size + 1) (by omega)).trans gf2)))
  have hv4 := BytesAt.upd ((BytesAt.upd (hv2.ext X3') hvb U3).ext X3) hvb U4
  refine MCall.by (pad h4 { x with fin := hasF fl 1, endh := decide ((1 : Nat) = 1) && hasF fl 4 } _ gi4 (by omega) hx hv4) ?_
  rintro u h5 ⟨tv, rfl, gi5, B5, hlo5, K5⟩
  have s5 := K5.size
  have gf5 := (K5.get (h.size + 1) (by omega) (by omega)).trans gf4
  have hpp : (paddedI { x with fin := hasF fl 1, endh := decide ((1 : Nat) = 1) && hasF fl 4 } ⟨1, fl, st, pl⟩).1.pairs = x.pairs := paddedI_pairs _ _
  generalize hP : paddedI { x with fin := hasF fl 1, endh := decide ((1 : Nat) = 1) && hasF fl 4 } ⟨1, fl, st, pl⟩ = P at *
  obtain ⟨y, z⟩ := P
  have K05 : Kp h.size ib h h5 := K4.trans ⟨K5.size, fun b b1 b2 => K5.get b (by omega) b2⟩
  simp only [fltV, go_sem, ↓reduceIte]
  generalize hq : LHeap.set _ h5.size _ = h6
  have X6 : Ext h5 h6 := by rw [← hq]; exact (Ext.push _ _).set (Nat.le_refl _) _
  have g6 : h6.get h5.size = some (.cells [.int .i64 (z.1 : Nat), .bool z.2] true true) := by rw [← hq]; simp
  have s6 : h6.size = h5.size + 1 := by rw [← hq]; simp
  clear hq
  refine MCall.by (sOKF z) ?_
  rintro u h7 ⟨rfl, X7⟩
  have gi7 := (X7.get ib (by omega)).trans ((X6.get ib (by omega)).trans gi5)
  have gf7 := (X7.get (h.size + 1) (by omega)).trans ((X6.get (h.size + 1) (by omega)).trans gf5)
  have g7 := (X7.get h5.size (by omega)).trans g6
  have K07 : Kp h.size ib h h7 := (K05.trans (X6.kp (by omega))).trans (X7.kp (by omega))
  have B7 := (B5.ext X6).ext X7
  have s7 := X7.size
  by_cases cz : z = okF
  ·simp only [cz, decide_true, go_sem, ↓reduceIte]
   refine MCall.by (sOwn gi7 (by omega)) ?_
   rintro u h8 ⟨rfl, X8⟩
   have gi8 := (X8.get ib (by omega)).trans gi7
   have gf8 := (X8.get (h.size + 1) (by omega)).trans gf7
   simp only [fltV, go_sem, ↓reduceIte, gf8]
   have e : readI x ⟨1, fl, st, pl⟩ = (y, ownI y) := by
    unfold readI
    rw [if_pos (by simp)]
    show (let p := paddedI { x with fin := hasF fl 1, endh := decide ((1 : Nat) = 1) && hasF fl 4 } ⟨1, fl, st, pl⟩; if p.2 ≠ okF then p else (p.1, ownI p.1)) = _
    rw [hP]
    simp [cz]
   rw [e]
   exact ⟨rfl, fin_it0 (K07.trans (X8.kp (by omega))) hib gi8 (B7.ext X8) (fun b hb => by have := hlo5 b hb; omega) (by rw [hpp]; exact eP _) eT2⟩
  ·simp only [cz, decide_false, go_sem, ↓reduceIte, g7, gf7]
   have e : readI x ⟨1, fl, st, pl⟩ = (y, z) := by
    unfold readI
    rw [if_pos (by simp)]
    show (let p := paddedI { x with fin := hasF fl 1, endh := decide ((1 : Nat) = 1) && hasF fl 4 } ⟨1, fl, st, pl⟩; if p.2 ≠ okF then p else (p.1, ownI p.1)) = _
    rw [hP]
    simp [cz]
   rw [e]
   exact ⟨rfl, fin_it0 K07 hib gi7 B7 (fun b hb => by have := hlo5 b hb; omega) (by rw [hpp]; exact eP _) eT2⟩
 ·simp only [go_sem, ↓reduceIte, gb2, gi2, gf2]
  have hn : pl.length = 5 := by
   apply Classical.byContradiction
   intro c
   simp [lengthF, c, okF] at hL
  refine MCall.by (sWeigh giI (by omega) I2 hl) ?_
  rintro u h3 W
  cases hw : weighI x pl with
  | none => simp [weighI, hn] at hw
  | some p =>
   obtain ⟨y, l'⟩ := p
   rw [hw] at W
   obtain ⟨rfl, gi3, I3, K3⟩ := W
   have y1 := weighI_text hw
   have y2 : y.pairs = x.pairs := by simp only [weighI, hn] at hw; simp at hw; rw [← hw.1]
   have gf3 := (K3.get (h.size + 1) (by omega) (by omega)).trans gf2
   have hs3 := K3.size
   simp only [go_sem, ↓reduceIte]
   refine MCall.by (sOwn gi3 (by omega)) ?_
   rintro u h4 ⟨rfl, X4⟩
   have gi4 := (X4.get ib (by omega)).trans gi3
   have gf4 := (X4.get (h.size + 1) (by omega)).trans gf3
   simp only [fltV, go_sem, ↓reduceIte, gf4]
   have e : readI x ⟨2, fl, st, pl⟩ = (y, ownI y) := by simp [readI, hw]
   rw [e]
   exact ⟨rfl, fin_it0 ((K2.trans ⟨K3.size, fun b b1 b2 => K3.get b (by omega) b2⟩).trans (X4.kp (by omega))) hib gi4 (by rw [y1.1]; exact eT _) eT2 (by rw [y2]; exact eP _) eT2⟩
 ·simp only [go_sem, ↓reduceIte, gb2, gi2, gf2]
  have hn : pl.length = 4 := by
   apply Classical.byContradiction
   intro c
   simp [lengthF, c, okF] at hL
  refine MCall.by (sNumberP (n := 4) I2 (by omega) (by omega) hl) ?_
  rintro u h3 ⟨rfl, I3, U3⟩
  have gi3 := (U3.get ib (by omega)).trans gi2
  have gf3 := (U3.get (h.size + 1) (by omega)).trans gf2
  simp only [go_sem, ↓reduceIte, gi3, gf3, hni']
  exact ⟨rfl, fin_it (y := { x with code := big (pl.take 4) }) (K2.trans (U3.kp (by omega))) hib (eT _) eT2 (eP _) eT2⟩
 ·simp only [go_sem, ↓reduceIte, gb2, gi2, gf2]
  refine MCall.by (has h2 1 (by omega)) ?_
  rintro u h3 ⟨rfl, X3⟩
  have gi3 := (X3.get ib (by omega)).trans gi2
  have gf3 := (X3.get (h.size + 1) (by omega)).trans gf2
  have s3 := X3.size
  have hn : pl.length % 6 = 0 := by
   apply Classical.byContradiction
   intro c
   simp [lengthF, c, okF] at hL
  simp only [go_sem, ↓reduceIte, gi3, gf3, hni']
  generalize hq : LHeap.set _ ib _ = h4
  have U4 : Upd ib h3 h4 := by rw [← hq]; exact Upd.set _ _ _
  have gi4 : h4.get ib = some (.cells (itc { x with ack := hasF fl 1 } sl0 sl0) true true) := by rw [← hq]; simp [itc, sl0]
  clear hq
  have s4 := U4.size
  have K4 : Kp h.size ib h h4 := (K2.trans (X3.kp (by omega))).trans ⟨Nat.le_of_eq U4.size.symm, fun b _ b2 => U4.get b b2⟩
  have gf4 := (U4.get (h.size + 1) (by omega)).trans gf3
  have I4 := (I2.ext X3).upd U4 (by omega)
  refine MC.loop (fun m fr hh => ∃ i pv tl, m = pl.length - 6 * i ∧ fr = (0, .pointer (some ⟨ib, 0, none⟩)) :: (4, .pointer (some ⟨h.size + 1, 0, none⟩)) :: (5, .pointer (some ⟨r, 0, none⟩)) :: tl ∧ 6 * i ≤ pl.length ∧
   hh.get ib = some (.cells (itc { x with ack := hasF fl 1, pairs := pairsI i pl } sl0 pv) true true) ∧ hh.get (h.size + 1) = some (.cells [.int .i64 0, .bool false] true true) ∧ InR hh (h.size + 2) h2.size r (pl.drop (6 * i)) ∧
   GL 2 pc hh pv (pairsI i pl) ∧ (∀ b, blkOf pv = some b → h2.size ≤ b) ∧ Kp h.size ib h hh) pl.length ⟨0, sl0, [], by omega, rfl, by omega, gi4, gf4, I4, .inl ⟨rfl, rfl⟩, (fun b hb => by cases hb), K4⟩ ?_
  rintro m fr hh J ⟨i, pv, tl, rfl, rfl, hi6, gi5, gf5, I5, G5, hlo5, K5⟩ hJ
  simp only [go_sem, ↓reduceIte]
  refine MCall.by (sLeft I5) ?_
  rintro u h6 ⟨rfl, rfl⟩
  have hdl : (pl.drop (6 * i)).length = pl.length - 6 * i := List.length_drop
  by_cases c : 6 * i = pl.length
  ·have d : ¬ ((pl.drop (6 * i)).length : Int) > 0 := by omega
   have d' : ¬ (0 : Int) < ((pl.drop (6 * i)).length : Int) := by omega
   simp only [go_sem, ↓reduceIte, d, d', decide_false, gf5]
   have e : readI x ⟨4, fl, st, pl⟩ = ({ x with ack := hasF fl 1, pairs := pairsI i pl }, okF) := by simp [readI, show pl.length / 6 = i by omega]
   rw [e]
   exact ⟨rfl, fin_it0 K5 hib gi5 (eT _) eT2 G5 (fun b hb => by have := hlo5 b hb; omega)⟩
  ·have d : ((pl.drop (6 * i)).length : Int) > 0 := by omega
   have d' : (0 : Int) < ((pl.drop (6 * i)).length : Int) := by omega
   have hsz5 := I5.lt
   obtain ⟨pa, pn, pe, rfl⟩ := G5.shape
   have gi5' := gi5
   simp only [itc, sl0] at gi5'
   simp only [go_sem, ↓reduceIte, d, d', decide_true]
   refine MC.dregion ?_
   simp only [go_sem, ↓reduceIte, gi5']
   refine MDCall.by (sNumberP (n := 2) I5 (by omega) (by omega) (by omega)) ?_
   rintro u h7 ⟨rfl, I7, U7⟩
   have gi7 := (U7.get ib (by omega)).trans gi5'
   simp only [go_sem, ↓reduceIte, gi7]
   refine MDCall.by (sNumberP (n := 4) I7 (by rw [List.length_drop]; omega) (by omega) (by rw [List.length_drop]; omega)) ?_
   rintro u h8 ⟨rfl, I8, U8⟩
   have U := U7.trans U8
   have gi8 := (U.get ib (by omega)).trans gi5'
   have G8 := G5.upd U (fun e => by have := hlo5 _ e; omega)
   obtain ⟨pv', h9, ha, G9, z9, g9, n9⟩ := gl_append pc_cel (q := EC.q) (by' := 16) G8 (big ((pl.drop (6 * i)).take 2), big (((pl.drop (6 * i)).drop 2).take 4)) (by rw [pairsI_len]; omega) (by omega)
   simp only [pc] at ha
   have s7 := U7.size
   have s8 := U8.size
   have hsz8 : h2.size ≤ h8.size := by
    obtain ⟨v, k1, _⟩ := I8
    exact k1.2
   have hn8 : ¬ ib = h8.size := by omega
   have gi9 := (g9 ib (by omega) (fun e => by have := hlo5 _ e; omega)).trans gi8
   have gf9 := (g9 (h.size + 1) (by omega) (fun e => by have := hlo5 _ e; omega)).trans ((U.get (h.size + 1) (by omega)).trans gf5)
   obtain ⟨qa, qn, qe, rfl⟩ := G9.shape
   simp only [go_sem, ↓reduceIte, gi8, ha, hn8, gi9]
   have I9 : InR h9 (h.size + 2) h2.size r (pl.drop (6 * (i + 1))) := by
    have e : pl.drop (6 * (i + 1)) = ((pl.drop (6 * i)).drop 2).drop 4 := by rw [List.drop_drop, List.drop_drop, show 6 * (i + 1) = 6 * i + (2 + 4) by omega]
    rw [e]
    obtain ⟨v, k1, k0, k2, k3, k4, k5⟩ := I8
    refine ⟨v, ⟨k1.1, by omega⟩, k0, by rw [g9 r (by omega) (fun e => by have := hlo5 _ e; omega)]; exact k2, ?_, k4, k5⟩
    rcases k3 with h1 | ⟨b, o, cs, t, r', rfl, m1, m2, m3, m4⟩
    ·exact .inl h1
    ·have hb := k5 b rfl
     exact .inr ⟨b, o, cs, t, r', rfl, by omega, by rw [g9 b m1 (fun e => by have := hlo5 _ e; omega)]; exact m2, m3, m4⟩
   have hq9 : ∀ b, blkOf (.slice qa qn qe) = some b → h2.size ≤ b := fun b hb => by have := n9 b hb; omega
   refine hJ _ _ _ (by omega) ⟨i + 1, .slice qa qn qe, _, rfl, rfl, by omega, by rw [pairsI_snoc]; simp [itc, sl0], by simpa [hni'] using gf9, I9.upd (Upd.set ib _ _) (by omega), ?_, hq9, ?_⟩
   ·rw [pairsI_snoc]
    exact G9.upd (Upd.set ib _ _) (fun e => by have := hq9 _ e; omega)
   ·refine (K5.trans ⟨by omega, fun b b1 b2 => ?_⟩).trans (Kp.set _ _ _ _)
    rw [g9 b (by omega) (fun e => by have := hlo5 _ e; omega), U.get b (by omega)]
 ·simp only [go_sem, ↓reduceIte, gb2, gi2, gf2]
  exact ⟨rfl, fin_it0 K2 hib giI (eT _) eT2 (eP _) eT2⟩
 ·simp only [go_sem, ↓reduceIte, gb2, gi2, gf2]
  refine MCall.by (has h2 1 (by omega)) ?_
  rintro u h3 ⟨rfl, X3⟩
  have I3 := I2.ext X3
  simp only [go_sem, ↓reduceIte]
  refine MCall.by (sRest I3 hl) ?_
  rintro u h4 ⟨B4, hb4, hlo4, U4⟩
  have gi4 := (U4.get ib (by omega)).trans ((X3.get ib (by omega)).trans gi2)
  have gf4 := (U4.get (h.size + 1) (by omega)).trans ((X3.get (h.size + 1) (by omega)).trans gf2)
  obtain ⟨sa, sn, se, rfl⟩ := B4.shape
  simp only [go_sem, ↓reduceIte, gi4, gf4, hni']
  have B5 : ∀ o, BytesAt (h4.set ib o) (.slice sa sn se) pl := fun o => B4.upd (fun e => by have := hlo4 _ e; omega) (Upd.set ib _ _)
  have K4 : Kp h.size ib h h4 := (K2.trans (X3.kp (by omega))).trans (U4.kp (by omega))
  exact ⟨rfl, fin_it (y := { x with ack := hasF fl 1, text := pl }) (K4.trans (Kp.set _ _ _ _)) hib (B5 _) (fun b hb => (hlo4 b hb).1) (eP _) eT2⟩
 ·simp only [go_sem, ↓reduceIte, gb2, gi2, gf2]
  have hn : 8 ≤ pl.length := by
   apply Classical.byContradiction
   intro c
   simp [lengthF, okF, show pl.length < 8 by omega] at hL
  refine MCall.by (sNumberP (n := 4) I2 (by omega) (by omega) hl) ?_
  rintro u h3 ⟨rfl, I3, U3⟩
  have hb := big_lt 4 (pl.take 4) (by rw [List.length_take]; omega)
  have ha := and_low (n := big (pl.take 4)) (by rw [show (4294967296 : Nat) = 256 ^ 4 by decide]; exact hb)
  simp only [go_sem, ↓reduceIte, ha]
  refine MCall.by (sNumberP (n := 4) I3 (by rw [List.length_drop]; omega) (by omega) (by rw [List.length_drop]; omega)) ?_
  rintro u h4 ⟨rfl, I4, U4⟩
  simp only [go_sem, ↓reduceIte]
  refine MCall.by (sRest I4 (by rw [List.length_drop, List.length_drop]; omega)) ?_
  rintro u h5 ⟨B5, hb5, hlo5, U5⟩
  have U := (U3.trans U4).trans U5
  have gi5 := (U.get ib (by omega)).trans gi2
  have gf5 := (U.get (h.size + 1) (by omega)).trans gf2
  obtain ⟨sa, sn, se, rfl⟩ := B5.shape
  simp only [go_sem, ↓reduceIte, gi5, gf5, hni']
  rw [List.drop_drop] at B5
  have B6 : ∀ o, BytesAt (h5.set ib o) (.slice sa sn se) (pl.drop 8) := fun o => B5.upd (fun e => by have := hlo5 _ e; omega) (Upd.set ib _ _)
  have B7 : ∀ o o', BytesAt ((h5.set ib o).set ib o') (.slice sa sn se) (pl.drop 8) := fun o o' => (B6 o).upd (fun e => by have := hlo5 _ e; omega) (Upd.set ib _ _)
  have K5 : Kp h.size ib h h5 := K2.trans (U.kp (by omega))
  exact ⟨rfl, fin_it (y := { x with last := big (pl.take 4) % 2147483648, code := big ((pl.drop 4).take 4), text := pl.drop 8 }) ((K5.trans (Kp.set _ _ _ _)).trans (Kp.set _ _ _ _)) hib (B7 _ _) (fun b hb => (hlo5 b hb).1) (eP _) eT2⟩
 ·simp only [go_sem, ↓reduceIte, gb2, gi2, gf2]
  have hn : pl.length = 4 := by
   apply Classical.byContradiction
   intro c
   simp [lengthF, c, okF] at hL
  refine MCall.by (sNumberP (n := 4) I2 (by omega) (by omega) hl) ?_
  rintro u h3 ⟨rfl, I3, U3⟩
  have hb := big_lt 4 (pl.take 4) (by rw [List.length_take]; omega)
  have ha := and_low (n := big (pl.take 4)) (by rw [show (4294967296 : Nat) = 256 ^ 4 by decide]; exact hb)
  have gi3 := (U3.get ib (by omega)).trans gi2
  have gf3 := (U3.get (h.size + 1) (by omega)).trans gf2
  have gb3 := (U3.get h.size (by omega)).trans gb2
  have K3 : Kp h.size ib h h3 := K2.trans (U3.kp (by omega))
  have hnb : ¬ h.size = ib := by omega
  by_cases cz : big (pl.take 4) % 2147483648 = 0
  ·have b0 : (((big (pl.take 4) % 2147483648 : Nat) : Int) == 0) = true := by rw [cz]; rfl
   have e : readI x ⟨8, fl, st, pl⟩ = ({ x with inc := big (pl.take 4) % 2147483648 }, (101, decide (st = 0))) := by simp [readI, cz]
   have est : ((st : Int) == 0) = decide (st = 0) := by
    by_cases c : st = 0
    ·rw [c]; rfl
    ·simp only [c, decide_false]; exact ne_lit (k := 0) c
   simp only [go_sem, ↓reduceIte, gi3, gf3, gb3, ha, hni', hnb, b0, est]
   rw [e]
   exact ⟨rfl, fin_it (y := { x with inc := big (pl.take 4) % 2147483648 }) K3 hib (eT _) eT2 (eP _) eT2⟩
  ·have b0 : (((big (pl.take 4) % 2147483648 : Nat) : Int) == 0) = false := ne_lit (k := 0) cz
   have e : readI x ⟨8, fl, st, pl⟩ = ({ x with inc := big (pl.take 4) % 2147483648 }, okF) := by simp [readI, cz]
   simp only [go_sem, ↓reduceIte, gi3, gf3, gb3, ha, hni', hnb, b0]
   rw [e]
   exact ⟨rfl, fin_it (y := { x with inc := big (pl.take 4) % 2147483648 }) K3 hib (eT _) eT2 (eP _) eT2⟩
 ·simp only [go_sem, ↓reduceIte, gb2, gi2, gf2]
  refine MCall.by (has h2 4 (by omega)) ?_
  rintro u h3 ⟨rfl, X3⟩
  have I3 := I2.ext X3
  simp only [go_sem, ↓reduceIte]
  refine MCall.by (sRest I3 hl) ?_
  rintro u h4 ⟨B4, hb4, hlo4, U4⟩
  have gi4 := (U4.get ib (by omega)).trans ((X3.get ib (by omega)).trans gi2)
  have gf4 := (U4.get (h.size + 1) (by omega)).trans ((X3.get (h.size + 1) (by omega)).trans gf2)
  obtain ⟨sa, sn, se, rfl⟩ := B4.shape
  simp only [go_sem, ↓reduceIte, gi4, gf4, hni']
  have B5 : ∀ o, BytesAt (h4.set ib o) (.slice sa sn se) pl := fun o => B4.upd (fun e => by have := hlo4 _ e; omega) (Upd.set ib _ _)
  have K4 : Kp h.size ib h h4 := (K2.trans (X3.kp (by omega))).trans (U4.kp (by omega))
  exact ⟨rfl, fin_it (y := { x with endh := hasF fl 4, text := pl }) (K4.trans (Kp.set _ _ _ _)) hib (B5 _) (fun b hb => (hlo4 b hb).1) (eP _) eT2⟩
 ·have n0 : ((t : Int) == 0) = false := ne_lit (k := 0) (by omega)
  have n1 : ((t : Int) == 1) = false := ne_lit (k := 1) (by omega)
  have n2 : ((t : Int) == 2) = false := ne_lit (k := 2) (by omega)
  have n3 : ((t : Int) == 3) = false := ne_lit (k := 3) (by omega)
  have n4 : ((t : Int) == 4) = false := ne_lit (k := 4) (by omega)
  have n5 : ((t : Int) == 5) = false := ne_lit (k := 5) (by omega)
  have n6 : ((t : Int) == 6) = false := ne_lit (k := 6) (by omega)
  have n7 : ((t : Int) == 7) = false := ne_lit (k := 7) (by omega)
  have n8 : ((t : Int) == 8) = false := ne_lit (k := 8) (by omega)
  have n9 : ((t : Int) == 9) = false := ne_lit (k := 9) (by omega)
  simp only [go_sem, ↓reduceIte, gb2, gi2, gf2, n0, n1, n2, n3, n4, n6, n7, n8, n9]
  have e : readI x ⟨t, fl, st, pl⟩ = (x, okF) := by simp [readI, show ¬ t = 0 by omega, show ¬ t = 1 by omega, show ¬ t = 2 by omega, show ¬ t = 3 by omega, show ¬ t = 4 by omega, show ¬ t = 6 by omega, show ¬ t = 7 by omega, show ¬ t = 8 by omega, show ¬ t = 9 by omega]
  rw [e]
  exact ⟨rfl, fin_it0 K2 hib giI (eT _) eT2 (eP _) eT2⟩
end Go.E1
