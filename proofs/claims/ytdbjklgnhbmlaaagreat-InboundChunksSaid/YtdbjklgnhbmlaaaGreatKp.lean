/-
  Texts joined: NP, NQ.
-/
import Derived.Test.YtdbjklgnhbmlaaaGreatKo
import Derived.Test.YtdbjklgnhbmlaaaGreatKk
/-
 Layer 23: a whole block's event.
-/
namespace Go.E1
open Go Go.Proofs Go.M
set_option linter.unusedSimpArgs false

theorem OutAt.blksI {h : LHeap} {lo : Nat} {v : Value} {l : Bytes} (O : OutAt h lo v l) {S : Nat → Prop} (hS : ∀ b, b < h.size → lo ≤ b → ¬ S b) : Blks h v l S := by
 rcases O with ⟨rfl, rfl⟩ | ⟨b, rfl, h1, h2, h3⟩
 ·exact ⟨.inl ⟨rfl, rfl⟩⟩
 ·exact ⟨.inr ⟨b, 0, rfl, ⟨h2, _, _, _, h3, by rw [bv_len]; omega, by rw [List.drop_zero, ← bv_len, List.take_length]⟩, fun q => absurd q (hS b h2 h1)⟩⟩
theorem keepS_set (h : LHeap) (B : Nat) (o : LObj) : Keep (fun c => c = B) h (h.set B o) := ⟨by simp, fun b _ hn => by simp [show b ≠ B from hn]⟩
theorem LS.setI {h : LHeap} {lo B : Nat} {v : Value} {l : List Ln} (S : LS h lo v l) (hB : B < lo) (o : LObj) : LS (h.set B o) lo v l :=
 S.keep (keepS_set h B o) fun x n E he hx => by have := S.lt he; omega

def WholeQ (lo : Nat) (FD' : Nat → Prop) (h' : LHeap) (st : Nat) (fin : Bool) (res : Except Nat (List Ln)) (u : Value) : Prop := match res with
 | .ok l => ∃ lv, u = .tuple #[evV ⟨1, st, l, [], [], fin, 0, 0⟩ lv sl0 sl0, fltV okF] ∧ LS h' lo lv l ∧ ∀ x n E, lv = .slice (some ⟨x, 0, none⟩) n E → ¬ FD' x
 | .error _ => u = .tuple #[zeroEv, fltV (109, true)]

theorem sWhole {h : LHeap} {rb db : Nat} {d : Dec} {FD : Nat → Prop} {x y z z' : Value} (hr : rb < h.size) (g : h.get rb = some (.cells [x, y, .pointer (some ⟨db, 0, none⟩), z, z'] true true)) (D : DW h db d 0 16384 FD)
  {st : Nat} {bt : Value} {text : Bytes} {fin : Bool} {lo : Nat} (O : OutAt h lo bt text) (hlo : ∀ c, FD c → c < lo) (hl : text.length < 100000) :
  LCalls EC 105 [.pointer (some ⟨rb, 0, none⟩), .agg #[.int .i64 (st : Nat), bt, .bool fin]] h fun u h' => ∃ FD', DW h' db (M.decode 0 16384 d text).1 0 16384 FD' ∧ (∀ c, FD' c → FD c ∨ h.size ≤ c) ∧ Keep FD h h' ∧ WholeQ h.size FD' h' st fin (M.decode 0 16384 d text).2 u := by
 refine LCalls.enter (lf := lf105) rfl rfl (by simp [lf105]) ?_
 obtain ⟨ta, tn, te, rfl⟩ := O.bytes.shape
 obtain ⟨q01, q02, q03, q04, q05, q10, q12, q13, q14, q15, q20, q21, q23, q24, q25, q30, q31, q32, q34, q35, q40, q41, q42, q43, q45, q50, q51, q52, q53, q54⟩ := nn h.size
 have hn0 : ¬ rb = h.size := by omega
 have hn1 : ¬ rb = h.size + 1 := by omega
 have hn2 : ¬ rb = h.size + 1 + 1 := by omega
 simp only [go_sem, lf105, ↓reduceIte, q01, q02, q03, q04, q05, q10, q12, q13, q14, q15, q20, q21, q23, q24, q25, q30, q31, q32, q34, q35, q40, q41, q42, q43, q45, q50, q51, q52, q53, q54]
 refine MC.dregion ?_
 simp only [go_sem, ↓reduceIte, g, hn0, hn1, hn2, q01, q02, q03, q04, q05, q10, q12, q13, q14, q15, q20, q21, q23, q24, q25, q30, q31, q32, q34, q35, q40, q41, q42, q43, q45, q50, q51, q52, q53, q54]
 generalize hq : LHeap.push _ _ = h1
 have X1 : Ext h h1 := by rw [← hq]; exact ((Ext.push _ _).trans (Ext.push _ _)).trans (Ext.push _ _)
 have s1 : h1.size = h.size + 3 := by rw [← hq]; simp
 have gb1 : h1.get h.size = some (.cells [.int .i64 (st : Nat), .slice ta tn te, .bool fin] true true) := by rw [← hq]; simp [q01, q02, q03, q04, q05, q10, q12, q13, q14, q15, q20, q21, q23, q24, q25, q30, q31, q32, q34, q35, q40, q41, q42, q43, q45, q50, q51, q52, q53, q54]
 have ge1 : h1.get (h.size + 1) = some (.cells [.int .i64 0, .int .i64 0, .slice none 0 0, .slice none 0 0, .slice none 0 0, .bool false, .int .i64 0, .int .i64 0] true true) := by rw [← hq]; simp [q01, q02, q03, q04, q05, q10, q12, q13, q14, q15, q20, q21, q23, q24, q25, q30, q31, q32, q34, q35, q40, q41, q42, q43, q45, q50, q51, q52, q53, q54]
 have gf1 : h1.get (h.size + 1 + 1) = some (.cells [.int .i64 0, .bool false] true true) := by rw [← hq]; simp [q01, q02, q03, q04, q05, q10, q12, q13, q14, q15, q20, q21, q23, q24, q25, q30, q31, q32, q34, q35, q40, q41, q42, q43, q45, q50, q51, q52, q53, q54]
 clear hq
 have D1 := D.ext X1
 have Dlt : ∀ c, FD c → c < h.size := fun c hc => D.lt hc
 refine MDCall.by (wDecode D1 ((O.ext X1).blksI (S := FD) fun b _ hb hc => by have := hlo b hc; omega) hl (by omega)) ?_
 rintro u h2 ⟨FD', D2, hFD, K2, ov, e, ls, rfl, L2, hL2, hres⟩
 have s2 := K2.size
 have gb2 := (K2.get h.size (by omega) (fun hc => by have := Dlt _ hc; omega)).trans gb1
 have ge2 := (K2.get (h.size + 1) (by omega) (fun hc => by have := Dlt _ hc; omega)).trans ge1
 have gf2 := (K2.get (h.size + 1 + 1) (by omega) (fun hc => by have := Dlt _ hc; omega)).trans gf1
 have hFD' : ∀ c, FD' c → FD c ∨ h.size ≤ c := fun c hc => (hFD c hc).imp id fun _ => by omega
 have hF0 : ∀ c, FD' c → c ≠ h.size + 1 ∧ c ≠ h.size + 1 + 1 := fun c hc => by
  rcases hFD c hc with q | q
  ·have := Dlt c q; omega
  ·omega
 have KK : ∀ (hh : LHeap), Keep FD h2 hh → Keep FD h hh := fun hh K => ((Keep.of_ext X1).trans K2 fun i hi => .inl hi).trans K fun i hi => .inl hi
 have hset : ∀ (hh : LHeap) (B : Nat) (o : LObj), h.size ≤ B → Keep FD h hh → Keep FD h (hh.set B o) := fun hh B o hB K => K.trans (keepS_set hh B o) fun i hi => .inr (by omega)
 obtain ⟨wa, wn, we, rfl⟩ : ∃ a n e, ov = .slice a n e := by
  rcases L2 with ⟨_, rfl⟩ | ⟨b, rfl, _⟩ <;> exact ⟨_, _, _, rfl⟩
 simp only [go_sem, ↓reduceIte]
 rcases hres with ⟨rfl, hok⟩ | ⟨he, rfl, herr⟩
 ·rw [hok]
  simp only [go_sem, ↓reduceIte, gb2, ge2, gf2, q01, q02, q03, q04, q05, q10, q12, q13, q14, q15, q20, q21, q23, q24, q25, q30, q31, q32, q34, q35, q40, q41, q42, q43, q45, q50, q51, q52, q53, q54]
  exact ⟨FD', (D2.keep (keepS_set _ _ _) fun c hc => (hF0 c hc).1).keep (keepS_set _ _ _) fun c hc => (hF0 c hc).2, hFD', hset _ _ _ (by omega) (hset _ _ _ (by omega) (KK _ (Keep.refl _ _))), _, rfl, ((L2.setI (by omega) _).setI (by omega) _).lo_le (by omega), hL2⟩
 ·rw [herr]
  have b0 : ((e : Int) != 0) = true := ne_lit' (k := 0) he
  simp only [go_sem, ↓reduceIte, b0]
  refine MCall.by (sConnI 109) ?_
  rintro u h3 ⟨rfl, X3⟩
  have ge3 := (X3.get (h.size + 1) (by omega)).trans ge2
  have gf3 := (X3.get (h.size + 1 + 1) (by omega)).trans gf2
  simp only [fltV, go_sem, ↓reduceIte, ge3, gf3, q01, q02, q03, q04, q05, q10, q12, q13, q14, q15, q20, q21, q23, q24, q25, q30, q31, q32, q34, q35, q40, q41, q42, q43, q45, q50, q51, q52, q53, q54]
  exact ⟨FD', ((D2.ext X3).keep (keepS_set _ _ _) fun c hc => (hF0 c hc).1).keep (keepS_set _ _ _) fun c hc => (hF0 c hc).2, hFD', hset _ _ _ (by omega) (hset _ _ _ (by omega) (KK _ (Keep.of_ext X3))), rfl⟩
end Go.E1

/-
 Layer 23: a reader's state, a frame read.
-/
namespace Go.M
open Go.E1
theorem paddedI_len (x : Itm) (f : Frm) (hx : x.text = []) : (paddedI x f).1.text.length ≤ f.pl.length := by
 have hw : ∀ (l : Bytes) (y : Itm) (l' : Bytes), weighI x l = some (y, l') → y.text = [] ∧ l'.length ≤ l.length := fun l y l' h => by
  unfold weighI at h
  split at h
  ·cases h
  ·cases h
   exact ⟨hx, by rw [List.length_drop]; omega⟩
 unfold paddedI
 split
 ·rw [hx]; simp
 ·rename_i pad l hp
  have hl : l.length ≤ f.pl.length := by
   unfold padI at hp
   split at hp
   ·split at hp
    ·cases hp
    ·cases hp; rw [List.length_drop]; omega
   ·cases hp; exact Nat.le_refl _
  split
  ·rw [hx]; simp
  ·rename_i y l' hm
   have hy : y.text = [] ∧ l'.length ≤ l.length := by
    split at hm
    ·exact hw _ _ _ hm
    ·cases hm; exact ⟨hx, Nat.le_refl _⟩
   split
   ·show y.text.length ≤ _
    rw [hy.1]; simp
   ·show (l'.take _).length ≤ _
    rw [List.length_take]; omega
theorem readI_len (x : Itm) (f : Frm) (hx : x.text = []) : (readI x f).1.text.length ≤ f.pl.length := by
 unfold readI
 split
 ·show (if _ then _ else _ : Itm × Flt).1.text.length ≤ _
  split
  ·exact paddedI_len _ f hx
  ·exact paddedI_len _ f hx
 ·split
  ·split
   ·rw [hx]; simp
   ·rename_i y l hm
    have : y.text = [] := by
     unfold weighI at hm
     split at hm
     ·cases hm
     ·cases hm; exact hx
    show y.text.length ≤ _
    rw [this]; simp
  ·split
   ·show x.text.length ≤ _
    rw [hx]; simp
   ·split
    ·show x.text.length ≤ _
     rw [hx]; simp
    ·split
     ·exact Nat.le_refl _
     ·split
      ·show (f.pl.drop 8).length ≤ _
       rw [List.length_drop]; omega
      ·split
       ·show x.text.length ≤ _
        rw [hx]; simp
       ·split
        ·exact Nat.le_refl _
        ·show x.text.length ≤ _
         rw [hx]; simp
theorem parseI_len (f : Frm) : (parseI f).1.text.length ≤ f.pl.length := by
 unfold parseI
 split
 ·simp [bareI]
 ·split
  ·simp [bareI]
  ·show (if _ then _ else _ : Itm × Flt).1.text.length ≤ _
   split
   ·simp [bareI]
   ·exact readI_len _ f rfl
end Go.M
namespace Go.E1
open Go Go.Proofs Go.M
set_option linter.unusedSimpArgs false

structure ApartI (rb fb ab : Nat) (FD : Nat → Prop) (wv tv : Value) : Prop where
 n1 : rb ≠ fb
 n2 : rb ≠ ab
 n3 : fb ≠ ab
 f1 : ¬ FD rb
 f2 : ¬ FD fb
 f3 : ¬ FD ab
 w : ∀ b, blkOf wv = some b → b ≠ rb ∧ b ≠ fb ∧ b ≠ ab ∧ ¬ FD b
 t : ∀ b, blkOf tv = some b → b ≠ rb ∧ b ≠ fb ∧ b ≠ ab ∧ ¬ FD b
def rbc (fb ab db : Nat) (begun dead : Bool) : List Value := [.pointer (some ⟨fb, 0, none⟩), .pointer (some ⟨ab, 0, none⟩), .pointer (some ⟨db, 0, none⟩), .bool begun, .bool dead]
structure Inb (h : LHeap) (rb fb ab db : Nat) (FD : Nat → Prop) (wv tv : Value) (s : Sd) : Prop where
 lt : rb < h.size
 cells : h.get rb = some (.cells (rbc fb ab db s.rd.begun s.dead) true true)
 rs : RsAt h fb s.wait s.big wv
 am : AsAt h ab s.rd.asm tv
 dw : DW h db s.rd.dec 0 16384 FD
 ap : ApartI rb fb ab FD wv tv
theorem Inb.ext {h h' : LHeap} {rb fb ab db : Nat} {FD : Nat → Prop} {wv tv : Value} {s : Sd} (I : Inb h rb fb ab db FD wv tv s) (X : Ext h h') : Inb h' rb fb ab db FD wv tv s :=
 ⟨Nat.lt_of_lt_of_le I.lt X.size, (X.get _ I.lt).trans I.cells, I.rs.ext X, I.am.ext X, I.dw.ext X, I.ap⟩
theorem Inb.set {h : LHeap} {rb fb ab db : Nat} {FD : Nat → Prop} {wv tv : Value} {s : Sd} (I : Inb h rb fb ab db FD wv tv s) {B : Nat} (b1 : rb ≠ B) (b2 : fb ≠ B) (b3 : ab ≠ B) (b4 : ¬ FD B) (b5 : blkOf wv ≠ some B) (b6 : blkOf tv ≠ some B) (o : LObj) : Inb (h.set B o) rb fb ab db FD wv tv s :=
 ⟨by simpa using I.lt, by simpa [b1] using I.cells, ⟨by simpa using I.rs.lt, by simpa [b2] using I.rs.cells, I.rs.wait.upd b5 (Upd.set _ _ _), I.rs.ne⟩, ⟨by simpa using I.am.lt, by simpa [b3] using I.am.cells, I.am.text.upd b6 (Upd.set _ _ _), I.am.ne⟩,
  I.dw.keep (keepS_set _ _ _) (fun c hc e => b4 (e ▸ hc)), I.ap⟩
theorem Inb.begin {h : LHeap} {rb fb ab db : Nat} {FD : Nat → Prop} {wv tv : Value} {s : Sd} (I : Inb h rb fb ab db FD wv tv s) (bg dd : Bool) :
  Inb (h.set rb (.cells (rbc fb ab db bg dd) true true)) rb fb ab db FD wv tv { s with rd := { s.rd with begun := bg }, dead := dd } :=
 have hw : blkOf wv ≠ some rb := fun e => (I.ap.w rb e).1 rfl
 have ht : blkOf tv ≠ some rb := fun e => (I.ap.t rb e).1 rfl
 ⟨by simpa using I.lt, by simp [I.lt], ⟨by simpa using I.rs.lt, by simpa [I.ap.n1.symm] using I.rs.cells, I.rs.wait.upd hw (Upd.set _ _ _), I.rs.ne⟩, ⟨by simpa using I.am.lt, by simpa [I.ap.n2.symm] using I.am.cells, I.am.text.upd ht (Upd.set _ _ _), I.am.ne⟩,
  I.dw.keep (keepS_set _ _ _) (fun c hc e => I.ap.f1 (e ▸ hc)), I.ap⟩
theorem Kp.toS {ib : Nat} {h h' : LHeap} (K : Kp h.size ib h h') : Keep (fun c => c = ib) h h' := ⟨K.size, fun b hb hn => K.get b hb hn⟩
theorem BytesAt.kpS {S : Nat → Prop} {h h' : LHeap} {v : Value} {l : Bytes} (a : BytesAt h v l) (K : Keep S h h') (hS : ∀ b, blkOf v = some b → ¬ S b) : BytesAt h' v l := by
 rcases a with h1 | ⟨b, o, cs, t, r, rfl, h2, h3, h4, h5⟩
 ·exact .inl h1
 ·exact .inr ⟨b, o, cs, t, r, rfl, Nat.lt_of_lt_of_le h2 K.size, by rw [K.get b h2 (hS b rfl)]; exact h3, h4, h5⟩
theorem Inb.onA {h h' : LHeap} {rb fb ab db : Nat} {FD : Nat → Prop} {wv tv tv' : Value} {s : Sd} (I : Inb h rb fb ab db FD wv tv s) (K : Kp h.size ab h h') {a : Asm} (A : AsAt h' ab a tv') (ht : tv' = tv ∨ ∀ b, blkOf tv' = some b → h.size ≤ b) :
  Inb h' rb fb ab db FD wv tv' { s with rd := { s.rd with asm := a } } := by
 have hl := I.lt
 have hrs := I.rs.lt
 have ham := I.am.lt
 refine ⟨Nat.lt_of_lt_of_le I.lt K.size, (K.get rb I.lt I.ap.n2).trans I.cells, ⟨Nat.lt_of_lt_of_le I.rs.lt K.size, (K.get fb I.rs.lt I.ap.n3).trans I.rs.cells, I.rs.wait.kpS K.toS (fun b e => (I.ap.w b e).2.2.1), I.rs.ne⟩, A,
  I.dw.keep K.toS (fun c hc e => I.ap.f3 (e ▸ hc)), { I.ap with t := ?_ }⟩
 rcases ht with rfl | ht
 ·exact I.ap.t
 ·intro b e
  have := ht b e
  exact ⟨by omega, by omega, by omega, fun hc => by have := I.dw.lt hc; omega⟩
theorem Inb.dec {h h' : LHeap} {rb fb ab db : Nat} {FD FD' : Nat → Prop} {wv tv : Value} {s : Sd} (I : Inb h rb fb ab db FD wv tv s) (K : Keep FD h h') {d : Dec} (D : DW h' db d 0 16384 FD') (hF : ∀ c, FD' c → FD c ∨ h.size ≤ c) :
  Inb h' rb fb ab db FD' wv tv { s with rd := { s.rd with dec := d } } := by
 have hl := I.lt
 have hrs := I.rs.lt
 have ham := I.am.lt
 have nf : ∀ c, c < h.size → ¬ FD c → ¬ FD' c := fun c hc hn hf => by
  rcases hF c hf with q | q
  ·exact hn q
  ·omega
 exact ⟨Nat.lt_of_lt_of_le I.lt K.size, (K.get rb I.lt I.ap.f1).trans I.cells, ⟨Nat.lt_of_lt_of_le I.rs.lt K.size, (K.get fb I.rs.lt I.ap.f2).trans I.rs.cells, I.rs.wait.kpS K (fun b e => (I.ap.w b e).2.2.2), I.rs.ne⟩,
  ⟨Nat.lt_of_lt_of_le I.am.lt K.size, (K.get ab I.am.lt I.ap.f3).trans I.am.cells, I.am.text.kpS K (fun b e => (I.ap.t b e).2.2.2), I.am.ne⟩, D,
  {n1 := I.ap.n1, n2 := I.ap.n2, n3 := I.ap.n3, f1 := nf _ hl I.ap.f1, f2 := nf _ hrs I.ap.f2, f3 := nf _ ham I.ap.f3,
   w := fun b e => ⟨(I.ap.w b e).1, (I.ap.w b e).2.1, (I.ap.w b e).2.2.1, nf b (I.rs.wait.lt e) (I.ap.w b e).2.2.2⟩,
   t := fun b e => ⟨(I.ap.t b e).1, (I.ap.t b e).2.1, (I.ap.t b e).2.2.1, nf b (I.am.text.lt e) (I.ap.t b e).2.2.2⟩ }⟩
/-- What a frame may change. -/
def Foot3 (rb ab : Nat) (FD : Nat → Prop) (c : Nat) : Prop := c = rb ∨ c = ab ∨ FD c
theorem LS.gl {h : LHeap} {lo : Nat} {v : Value} {l : List Ln} (S : LS h lo v l) : GL 3 lc h v l := by
 rcases S with h1 | ⟨b, h1, _, h3, h4⟩
 ·exact .inl h1
 ·exact .inr ⟨b, h1, h3, h4⟩
theorem LS.extI {h h' : LHeap} {lo : Nat} {v : Value} {l : List Ln} (S : LS h lo v l) (X : Ext h h') : LS h' lo v l :=
 S.keep (S := fun _ => False) (Keep.of_ext X) fun _ _ _ _ q => q
def PayE (lo : Nat) (FD : Nat → Prop) (h : LHeap) (e : Ev) (lv tv pv : Value) : Prop :=
 GL 3 lc h lv e.lines ∧ BytesAt h tv e.text ∧ GL 2 pc h pv e.pairs ∧ ∀ b, (blkOf lv = some b ∨ blkOf tv = some b ∨ blkOf pv = some b) → lo ≤ b ∧ ¬ FD b
def ReadQ (lo : Nat) (FD : Nat → Prop) (h : LHeap) (e : Option Ev) (z : Flt) (u : Value) : Prop := match e with
 | none => u = .tuple #[zeroEv, .bool false, fltV z]
 | some e => ∃ lv tv pv, u = .tuple #[evV e lv tv pv, .bool true, fltV z] ∧ PayE lo FD h e lv tv pv

theorem onA_some {a : Asm} {x : Itm} {b : Nat × Bytes × Bool} (h : (onA a x).2.1 = some b) : (onA a x).2.2 = okF := by
 unfold onA at h ⊢
 by_cases c1 : mayA a x = false
 ·rw [if_pos c1] at h; cases h
 ·rw [if_neg c1] at h ⊢
  by_cases c2 : x.ty = 1 ∨ x.ty = 9
  ·rw [if_pos c2] at h ⊢
   generalize (if x.ty = 1 then (x.st, [], x.fin) else (a.st, a.text, a.fin) : Nat × Bytes × Bool) = n at h ⊢
   simp only at h ⊢
   by_cases c3 : 16384 < n.2.1.length + x.text.length
   ·rw [if_pos c3] at h; cases h
   ·rw [if_neg c3] at h ⊢
    by_cases c4 : x.endh = true
    ·rw [if_pos c4]
    ·rw [if_neg c4] at h; cases h
  ·rw [if_neg c2]
theorem onA_len {a : Asm} {x : Itm} {b : Nat × Bytes × Bool} (h : (onA a x).2.1 = some b) : b.2.1.length ≤ 16384 := by
 unfold onA at h
 by_cases c1 : mayA a x = false
 ·rw [if_pos c1] at h; cases h
 ·rw [if_neg c1] at h
  by_cases c2 : x.ty = 1 ∨ x.ty = 9
  ·rw [if_pos c2] at h
   generalize (if x.ty = 1 then (x.st, [], x.fin) else (a.st, a.text, a.fin) : Nat × Bytes × Bool) = n at h
   simp only at h
   by_cases c3 : 16384 < n.2.1.length + x.text.length
   ·rw [if_pos c3] at h; cases h
   ·rw [if_neg c3] at h
    by_cases c4 : x.endh = true
    ·rw [if_pos c4] at h
     cases h
     show (n.2.1 ++ x.text).length ≤ _
     rw [List.length_append]; omega
    ·rw [if_neg c4] at h; cases h
  ·rw [if_neg c2] at h; cases h
theorem sReadI {h : LHeap} {rb fb ab db : Nat} {FD : Nat → Prop} {wv tv : Value} {s : Sd} (I : Inb h rb fb ab db FD wv tv s) {f : Frm} {fv : Value} (hv : BytesAt h fv f.pl) (hf : f.fl < 4294967296) (hl : f.pl.length < 1000000) (ha : s.rd.asm.text.length ≤ 16384) :
  LCalls EC 70 [.pointer (some ⟨rb, 0, none⟩), frV f fv] h fun u h' => ∃ FD' tv', Inb h' rb fb ab db FD' wv tv' { s with rd := (readR s.rd f).1 } ∧ (∀ c, FD' c → FD c ∨ h.size ≤ c) ∧ (tv' = tv ∨ ∀ b, blkOf tv' = some b → h.size ≤ b) ∧
   Keep (Foot3 rb ab FD) h h' ∧ ReadQ h.size FD' h' (readR s.rd f).2.1 (readR s.rd f).2.2 u := by
 refine LCalls.enter (lf := lf70) rfl rfl (by simp [lf70]) ?_
 obtain ⟨q01, q02, q03, q04, q05, q10, q12, q13, q14, q15, q20, q21, q23, q24, q25, q30, q31, q32, q34, q35, q40, q41, q42, q43, q45, q50, q51, q52, q53, q54⟩ := nn h.size
 have hlt := I.lt
 simp only [frV, go_sem, lf70, ↓reduceIte, q01, q02, q03, q04, q05, q10, q12, q13, q14, q15, q20, q21, q23, q24, q25, q30, q31, q32, q34, q35, q40, q41, q42, q43, q45, q50, q51, q52, q53, q54]
 generalize hq : LHeap.push _ _ = h1
 have X1 : Ext h h1 := by rw [← hq]; exact ((Ext.push _ _).trans (Ext.push _ _)).trans (Ext.push _ _)
 have s1 : h1.size = h.size + 3 := by rw [← hq]; simp
 have gb1 : h1.get h.size = some (.cells (frc4 f fv) true true) := by rw [← hq]; simp [frc4, q01, q02, q03, q04, q05, q10, q12, q13, q14, q15, q20, q21, q23, q24, q25, q30, q31, q32, q34, q35, q40, q41, q42, q43, q45, q50, q51, q52, q53, q54]
 have ge1 : h1.get (h.size + 1) = some (.cells [.int .i64 0, .int .i64 0, .slice none 0 0, .slice none 0 0, .slice none 0 0, .bool false, .int .i64 0, .int .i64 0] true true) := by rw [← hq]; simp [q01, q02, q03, q04, q05, q10, q12, q13, q14, q15, q20, q21, q23, q24, q25, q30, q31, q32, q34, q35, q40, q41, q42, q43, q45, q50, q51, q52, q53, q54]
 have gf1 : h1.get (h.size + 1 + 1) = some (.cells [.int .i64 0, .bool false] true true) := by rw [← hq]; simp [q01, q02, q03, q04, q05, q10, q12, q13, q14, q15, q20, q21, q23, q24, q25, q30, q31, q32, q34, q35, q40, q41, q42, q43, q45, q50, q51, q52, q53, q54]
 clear hq
 have I1 := I.ext X1
 have zero : ∀ (hh : LHeap), Ext h hh → (readR s.rd f).1 = s.rd → Inb hh rb fb ab db FD wv tv { s with rd := (readR s.rd f).1 } ∧ (∀ c, FD c → FD c ∨ h.size ≤ c) ∧ (tv = tv ∨ ∀ b, blkOf tv = some b → h.size ≤ b) ∧ Keep (Foot3 rb ab FD) h hh := fun hh X e => by
  rw [e]
  exact ⟨I.ext X, fun c hc => .inl hc, .inl rfl, Keep.of_ext X⟩
 refine MCall.by (sMayR I1.lt I1.cells I1.am f fv hf) ?_
 rintro u h2 ⟨rfl, X2⟩
 have X02 := X1.trans X2
 have s2 := X2.size
 have gb2 := (X2.get h.size (by omega)).trans gb1
 have ge2 := (X2.get (h.size + 1) (by omega)).trans ge1
 have gf2 := (X2.get (h.size + 1 + 1) (by omega)).trans gf1
 cases hm : mayR s.rd f with
 | false =>
  have e : readR s.rd f = (s.rd, none, (101, true)) := by simp [readR, hm]
  simp only [go_sem, ↓reduceIte]
  refine MCall.by (sConnI 101) ?_
  rintro u h3 ⟨rfl, X3⟩
  have ge3 := (X3.get (h.size + 1) (by omega)).trans ge2
  have gf3 := (X3.get (h.size + 1 + 1) (by omega)).trans gf2
  simp only [fltV, go_sem, ↓reduceIte, ge3, gf3, q01, q02, q03, q04, q05, q10, q12, q13, q14, q15, q20, q21, q23, q24, q25, q30, q31, q32, q34, q35, q40, q41, q42, q43, q45, q50, q51, q52, q53, q54]
  obtain ⟨z1, z2, z3, z4⟩ := zero _ (((X02.trans X3).set (b := h.size + 1) (by omega) _).set (b := h.size + 1 + 1) (by omega) _) (by rw [e])
  rw [e] at z1 ⊢
  exact ⟨FD, tv, z1, z2, z3, z4, rfl⟩
 | true =>
  simp only [frc4] at gb2
  simp only [go_sem, ↓reduceIte, gb2]
  refine MCall.by (sParseI (f := f) (hv.ext X02) hf hl) ?_
  rintro u h3 ⟨xt, xp, rfl, Bt, hBt, Gp, hGp, X3⟩
  have s3 := X3.size
  have gb3 := (X3.get h.size (by omega)).trans gb2
  have ge3 := (X3.get (h.size + 1) (by omega)).trans ge2
  have gf3 := (X3.get (h.size + 1 + 1) (by omega)).trans gf2
  have hpl := parseI_len f
  generalize hP : parseI f = P at *
  obtain ⟨x, z⟩ := P
  simp only at Bt Gp hpl
  obtain ⟨ta, tn, te, rfl⟩ := Bt.shape
  obtain ⟨pa, pn, pe, rfl⟩ := Gp.shape
  obtain ⟨c, cn⟩ := z
  have r01 : ¬ h3.size = h3.size + 1 := by omega
  have r10 : ¬ h3.size + 1 = h3.size := by omega
  simp only [itV, itc, fltV, go_sem, ↓reduceIte, r01, r10]
  generalize hq : LHeap.set _ (h3.size + 1) _ = h4
  have X4 : Ext h3 h4 := by rw [← hq]; exact (((Ext.push _ _).trans (Ext.push _ _)).set (Nat.le_refl _) _).set (by omega) _
  have s4 : h4.size = h3.size + 2 := by rw [← hq]; simp
  have gx4 : h4.get h3.size = some (.cells (itc x (.slice ta tn te) (.slice pa pn pe)) true true) := by rw [← hq]; simp [itc, r01, r10]
  have gz4 : h4.get (h3.size + 1) = some (.cells [.int .i64 (c : Nat), .bool cn] true true) := by rw [← hq]; simp [r01, r10]
  clear hq
  have gb4 := (X4.get h.size (by omega)).trans gb3
  have ge4 := (X4.get (h.size + 1) (by omega)).trans ge3
  have gf4 := (X4.get (h.size + 1 + 1) (by omega)).trans gf3
  have X04 := (X02.trans X3).trans X4
  cases cn with
  | true =>
   have e : readR s.rd f = (s.rd, none, (c, true)) := by simp [readR, hm, hP]
   simp only [go_sem, ↓reduceIte, gz4]
   refine MCall.by (sConnI c) ?_
   rintro u h5 ⟨rfl, X5⟩
   have ge5 := (X5.get (h.size + 1) (by omega)).trans ge4
   have gf5 := (X5.get (h.size + 1 + 1) (by omega)).trans gf4
   simp only [fltV, go_sem, ↓reduceIte, ge5, gf5, q01, q02, q03, q04, q05, q10, q12, q13, q14, q15, q20, q21, q23, q24, q25, q30, q31, q32, q34, q35, q40, q41, q42, q43, q45, q50, q51, q52, q53, q54]
   obtain ⟨z1, z2, z3, z4⟩ := zero _ (((X04.trans X5).set (b := h.size + 1) (by omega) _).set (b := h.size + 1 + 1) (by omega) _) (by rw [e])
   rw [e] at z1 ⊢
   exact ⟨FD, tv, z1, z2, z3, z4, rfl⟩
  | false =>
   simp only [go_sem, ↓reduceIte, gz4]
   refine MCall.by (sOKF (c, false)) ?_
   rintro u h5 ⟨rfl, X5⟩
   have s5 := X5.size
   have gx5 := (X5.get h3.size (by omega)).trans gx4
   have gz5 := (X5.get (h3.size + 1) (by omega)).trans gz4
   have gb5 := (X5.get h.size (by omega)).trans gb4
   have ge5 := (X5.get (h.size + 1) (by omega)).trans ge4
   have gf5 := (X5.get (h.size + 1 + 1) (by omega)).trans gf4
   have X05 := X04.trans X5
   by_cases c0 : c = 0
   ·subst c0
    have d0 : decide ((((0 : Nat), false) : Flt) = okF) = true := rfl
    simp only [d0, go_sem, ↓reduceIte, gz5]
    refine MCall.by (sOKF (0, false)) ?_
    rintro u h6 ⟨rfl, X6⟩
    have s6 := X6.size
    have gx6 := (X6.get h3.size (by omega)).trans gx5
    have gz6 := (X6.get (h3.size + 1) (by omega)).trans gz5
    have ge6 := (X6.get (h.size + 1) (by omega)).trans ge5
    have gf6 := (X6.get (h.size + 1 + 1) (by omega)).trans gf5
    have X06 := X05.trans X6
    have I6 := I.ext X06
    have gr6 := I6.cells
    simp only [rbc] at gr6
    simp only [d0, go_sem, ↓reduceIte, gr6]
    obtain ⟨h7, hq⟩ : ∃ h7, h7 = h6.set rb (.cells (rbc fb ab db true s.dead) true true) := ⟨_, rfl⟩
    have I7 := I6.begin true s.dead
    rw [← hq] at I7
    have U7 : Upd rb h6 h7 := by rw [hq]; exact Upd.set _ _ _
    have K7 : Keep (Foot3 rb ab FD) h h7 := by
     rw [hq]
     exact (Keep.of_ext (S := Foot3 rb ab FD) X06).trans (keepS_set h6 rb _) fun i hi => .inl (.inl hi)
    have gx7 := (U7.get h3.size (by omega)).trans gx6
    have gz7 := (U7.get (h3.size + 1) (by omega)).trans gz6
    have ge7 := (U7.get (h.size + 1) (by omega)).trans ge6
    have gf7 := (U7.get (h.size + 1 + 1) (by omega)).trans gf6
    have s7 := U7.size
    have B7 : BytesAt h7 (.slice ta tn te) x.text := (((Bt.ext X4).ext X5).ext X6).upd (fun e => by have := hBt _ e; omega) U7
    have G7 : GL 2 pc h7 (.slice pa pn pe) x.pairs := (((Gp.ext X4).ext X5).ext X6).upd U7 (fun e => by have := hGp _ e; omega)
    simp only [rbc] at hq
    rw [← hq]
    clear hq
    have gr7 := I7.cells
    simp only [rbc] at gr7
    simp only [itc] at gx7
    have hn1 : ¬ rb = h7.size := by omega
    have hn2 : ¬ h3.size = h7.size := by omega
    have hn3 : ¬ h3.size + 1 = h7.size := by omega
    have hn4 : ¬ h7.size = h3.size + 1 := by omega
    refine MC.dregion ?_
    simp only [go_sem, ↓reduceIte, gr7, gx7, hn1, hn2, veqs, veq, Bool.and_self, beq_self_eq_true]
    have X8 : Ext h7 (h7.push (.cells [.int .i64 0, .slice none 0 0, .bool false] true true)) := Ext.push _ _
    have ham := I.am.lt
    refine MDCall.by (sOn (x := x) ((I7.ext X8).am) (B7.ext X8) (fun e => by have := hBt _ e; omega) (by omega) ha ⟨_, _, _, rfl⟩) ?_
    rintro u h9 ⟨tv', A9, htv, K9, Q9⟩
    have s9 := K9.size
    simp only [LHeap.size_push] at s9 K9 htv Q9
    have hrs := I.rs.lt
    have g9 := fun b (hb : b < h7.size) (hn : b ≠ ab) => (K9.get b (by omega) hn).trans (X8.get b hb)
    have gx9 := (g9 h3.size (by omega) (by omega)).trans gx7
    have gz9 := (g9 (h3.size + 1) (by omega) (by omega)).trans gz7
    have ge9 := (g9 (h.size + 1) (by omega) (by omega)).trans ge7
    have gf9 := (g9 (h.size + 1 + 1) (by omega) (by omega)).trans gf7
    have gn9 : h9.get h7.size = some (.cells [.int .i64 0, .slice none 0 0, .bool false] true true) := by
     rw [K9.get h7.size (by omega) (by omega)]; simp
    have I9 := (I7.ext X8).onA (by simpa using K9) A9 (by simpa using htv)
    have KK9 : Keep (Foot3 rb ab FD) h h9 := (K7.trans (Keep.of_ext (S := fun c => c = ab) X8) fun i hi => .inl (.inr (.inl hi))).trans (Kp.toS (by simpa using K9)) fun i hi => .inl (.inr (.inl hi))
    have hsetK : ∀ (hh : LHeap) (B : Nat) (o : LObj), h.size ≤ B → Keep (Foot3 rb ab FD) h hh → Keep (Foot3 rb ab FD) h (hh.set B o) := fun hh B o hB K => K.trans (keepS_set hh B o) fun i hi => .inr (by omega)
    have hFDl : ∀ c, FD c → c < h.size := fun c hc => I.dw.lt hc
    have htvs : tv' = tv ∨ ∀ b, blkOf tv' = some b → h7.size + 1 ≤ b := htv
    have htv0 : tv' = tv ∨ ∀ b, blkOf tv' = some b → h.size ≤ b := htv.imp id fun q b e => by have := q b e; omega
    have hsetI : ∀ (hh : LHeap) (B : Nat) (o : LObj) (s' : Sd), h.size ≤ B → B < h7.size + 1 → Inb hh rb fb ab db FD wv tv' s' → Inb (hh.set B o) rb fb ab db FD wv tv' s' := fun hh B o s' hB hB2 J =>
     J.set (by omega) (by omega) (by omega) (fun hc => by have := hFDl _ hc; omega) (fun e => by have := I.rs.wait.lt e; omega) (by
      intro e
      rcases htvs with q | q
      ·rw [q] at e; have := I.am.text.lt e; omega
      ·have := q _ e; omega) o
    have hon : ∀ b, (onA s.rd.asm x).2.1 = some b → (onA s.rd.asm x).2.2 = okF := fun b hb => onA_some hb
    have honl : ∀ b, (onA s.rd.asm x).2.1 = some b → b.2.1.length ≤ 16384 := fun b hb => onA_len hb
    have hrd : readR s.rd f = if (onA s.rd.asm x).2.2 ≠ okF then (⟨(onA s.rd.asm x).1, s.rd.dec, true⟩, none, (onA s.rd.asm x).2.2) else
      match (onA s.rd.asm x).2.1 with
      | some b => match M.decode 0 16384 s.rd.dec b.2.1 with
       | (d, .ok l) => (⟨(onA s.rd.asm x).1, d, true⟩, some ⟨1, b.1, l, [], [], b.2.2, 0, 0⟩, okF)
       | (d, .error _) => (⟨(onA s.rd.asm x).1, d, true⟩, none, (109, true))
      | none => (⟨(onA s.rd.asm x).1, s.rd.dec, true⟩, plainI x, okF) := by
     unfold readR
     rw [if_neg (by simp [hm])]
     simp only [hP]
     rw [if_neg (by simp [okF]), if_neg (by simp [okF])]
     rfl
    generalize onA s.rd.asm x = O at *
    obtain ⟨a', ro, z⟩ := O
    simp only at hon honl hrd Q9 I9 A9
    have post : ∀ (o1 o2 : LObj), ∃ h10, h10 = (h9.set h7.size o1).set (h3.size + 1) o2 ∧ h10.size = h9.size ∧ Inb h10 rb fb ab db FD wv tv' { s with rd := { asm := a', dec := s.rd.dec, begun := true } } ∧ Keep (Foot3 rb ab FD) h h10 ∧
      h10.get h3.size = h9.get h3.size ∧ h10.get (h3.size + 1) = some o2 ∧ h10.get h7.size = some o1 ∧ h10.get (h.size + 1) = h9.get (h.size + 1) ∧ h10.get (h.size + 1 + 1) = h9.get (h.size + 1 + 1) ∧
      (∀ v l, BytesAt h9 v l → (∀ b, blkOf v = some b → b ≠ h7.size ∧ b ≠ h3.size + 1) → BytesAt h10 v l) ∧ (∀ v l, GL 2 pc h9 v l → (∀ b, blkOf v = some b → b ≠ h7.size ∧ b ≠ h3.size + 1) → GL 2 pc h10 v l) := fun o1 o2 =>
     ⟨_, rfl, by simp, hsetI _ _ _ _ (by omega) (by omega) (hsetI _ _ _ _ (by omega) (by omega) I9), hsetK _ _ _ (by omega) (hsetK _ _ _ (by omega) KK9),
      by simp [hn2, r01], by simp, by simp [hn4], by simp [show ¬ h.size + 1 = h7.size by omega, show ¬ h.size = h3.size by omega], by simp [show ¬ h.size + 1 + 1 = h7.size by omega, show ¬ h.size + 1 = h3.size by omega],
      fun v l B hb => (B.upd (fun e => (hb _ e).1 rfl) (Upd.set _ _ _)).upd (fun e => (hb _ e).2 rfl) (Upd.set _ _ _), fun v l B hb => (B.upd (Upd.set _ _ _) (fun e => (hb _ e).1 rfl)).upd (Upd.set _ _ _) (fun e => (hb _ e).2 rfl)⟩
    have B9 : BytesAt h9 (.slice ta tn te) x.text := (B7.ext X8).kpS (Kp.toS (by simpa using K9)) (fun b e hq => by have := hBt b e; omega)
    have G9 : GL 2 pc h9 (.slice pa pn pe) x.pairs := (G7.ext X8).move K9.size fun b e => K9.get b ((G7.ext X8).blk e).1 (by have := hGp b e; omega)
    have hBt9 : ∀ b, blkOf (.slice ta tn te) = some b → b ≠ h7.size ∧ b ≠ h3.size + 1 := fun b e => by
     have := B7.lt e; have := Bt.lt e
     omega
    have hGp9 : ∀ b, blkOf (.slice pa pn pe) = some b → b ≠ h7.size ∧ b ≠ h3.size + 1 := fun b e => by
     have := (G7.blk e).1; have := (Gp.blk e).1
     omega
    cases ro with
    | none =>
     simp only [OnQ] at Q9
     subst Q9
     obtain ⟨h10, hq, s10, I10, KK10, gx10, gz10, gn10, ge10, gf10, cB, cG⟩ := post (.cells [.int .i64 0, .slice none 0 0, .bool false] true true) (.cells [.int .i64 (z.1 : Nat), .bool z.2] true true)
     have B10 := cB _ _ B9 hBt9
     have G10 := cG _ _ G9 hGp9
     rw [gx9] at gx10
     rw [ge9] at ge10
     rw [gf9] at gf10
     simp only [fltV, go_sem, ↓reduceIte, gn9, gz9, hn4, hn3, hn2]
     rw [← hq]
     refine MCall.by (sOKF z) ?_
     rintro u h11 ⟨rfl, X11⟩
     have s11 := X11.size
     have I11 := I10.ext X11
     have gx11 := (X11.get h3.size (by omega)).trans gx10
     have gz11 := (X11.get (h3.size + 1) (by omega)).trans gz10
     have ge11 := (X11.get (h.size + 1) (by omega)).trans ge10
     have gf11 := (X11.get (h.size + 1 + 1) (by omega)).trans gf10
     by_cases hz : z = okF
     ·subst hz
      rw [if_neg (by simp)] at hrd
      simp only at hrd
      simp only [okF, decide_true, go_sem, ↓reduceIte, gx11]
      refine MCall.by (sPlain (B10.ext X11) (G10.ext X11)) ?_
      rintro u h12 ⟨P12, X12⟩
      have s12 := X12.size
      have ge12 := (X12.get (h.size + 1) (by omega)).trans ge11
      have gf12 := (X12.get (h.size + 1 + 1) (by omega)).trans gf11
      have e1 : ¬ h.size + 1 = h12.size := by omega
      have e2 : ¬ h.size + 1 + 1 = h12.size := by omega
      have fin : ∀ (o o1 o2 : LObj) (o' : LObj), Inb ((((h12.push o).set h12.size o').set (h.size + 1) o1).set (h.size + 1 + 1) o2) rb fb ab db FD wv tv' { s with rd := (readR s.rd f).1 } ∧ Keep (Foot3 rb ab FD) h ((((h12.push o).set h12.size o').set (h.size + 1) o1).set (h.size + 1 + 1) o2) := fun o o1 o2 o' => by
       have Xn : Ext h10 ((h12.push o).set h12.size o') := ((X11.trans X12).trans (Ext.push _ _)).set (by omega) _
       rw [hrd]
       exact ⟨hsetI _ _ _ _ (by omega) (by omega) (hsetI _ _ _ _ (by omega) (by omega) (I10.ext Xn)), hsetK _ _ _ (by omega) (hsetK _ _ _ (by omega) (KK10.trans (Keep.of_ext (S := Foot3 rb ab FD) Xn) fun i hi => .inl hi))⟩
      cases hpe : plainI x with
      | none =>
       rw [hpe] at P12 hrd
       simp only [PlainQ] at P12
       subst P12
       simp only [zeroEv, go_sem, ↓reduceIte, ge12, gf12, e1, e2, q01, q02, q03, q04, q05, q10, q12, q13, q14, q15, q20, q21, q23, q24, q25, q30, q31, q32, q34, q35, q40, q41, q42, q43, q45, q50, q51, q52, q53, q54]
       obtain ⟨z1, z2⟩ := fin _ _ _ _
       exact ⟨FD, tv', z1, fun c hc => .inl hc, htv0, z2, by rw [hrd]; rfl⟩
      | some e =>
       rw [hpe] at P12 hrd
       obtain ⟨pt, pp, rfl, Bpt, Gpp, hb1, hb2, hl0⟩ := P12
       obtain ⟨ea, en, ee, rfl⟩ := Bpt.shape
       obtain ⟨ga, gn, ge, rfl⟩ := Gpp.shape
       simp only [evV, evc, sl0, go_sem, ↓reduceIte, ge12, gf12, e1, e2, q01, q02, q03, q04, q05, q10, q12, q13, q14, q15, q20, q21, q23, q24, q25, q30, q31, q32, q34, q35, q40, q41, q42, q43, q45, q50, q51, q52, q53, q54]
       obtain ⟨z1, z2⟩ := fin _ _ _ _
       refine ⟨FD, tv', z1, fun c hc => .inl hc, htv0, z2, ?_⟩
       rw [hrd]
       have c1 : ∀ b, blkOf (.slice ea en ee) = some b → h3.size ≤ b ∨ (h2.size ≤ b ∧ b < h3.size) := fun b hb => by have := hBt b (hb1 b hb); have := Bt.lt (hb1 b hb); omega
       have c2 : ∀ b, blkOf (.slice ga gn ge) = some b → h2.size ≤ b ∧ b < h3.size := fun b hb => ⟨hGp b (hb2 b hb), (Gp.blk (hb2 b hb)).1⟩
       have c1' : ∀ b, blkOf (.slice ea en ee) = some b → h2.size ≤ b ∧ b < h3.size := fun b hb => ⟨hBt b (hb1 b hb), Bt.lt (hb1 b hb)⟩
       refine ⟨sl0, _, _, rfl, by rw [hl0]; exact .inl ⟨rfl, rfl⟩, ?_, ?_, ?_⟩
       ·exact (((Bpt.ext (Ext.push _ _)).upd (fun e => by have := c1' _ e; omega) (Upd.set _ _ _)).upd (fun e => by have := c1' _ e; omega) (Upd.set _ _ _)).upd (fun e => by have := c1' _ e; omega) (Upd.set _ _ _)
       ·exact (((Gpp.ext (Ext.push _ _)).upd (Upd.set _ _ _) (fun e => by have := c2 _ e; omega)).upd (Upd.set _ _ _) (fun e => by have := c2 _ e; omega)).upd (Upd.set _ _ _) (fun e => by have := c2 _ e; omega)
       ·rintro b (hb | hb | hb)
        ·cases hb
        ·have := c1' b hb
         exact ⟨by omega, fun hc => by have := hFDl b hc; omega⟩
        ·have := c2 b hb
         exact ⟨by omega, fun hc => by have := hFDl b hc; omega⟩
     ·rw [if_pos hz] at hrd
      rw [hrd]
      have hA : ¬ h3.size = h.size := by omega
      have hA' : ¬ h3.size + 1 = h.size + 1 := by omega
      simp only [hz, decide_false, go_sem, ↓reduceIte]
      refine MC.dregion ?_
      simp only [go_sem, ↓reduceIte, gz11, ge11, gf11, hA, hA', veqs, veq, Bool.and_self, beq_self_eq_true, q01, q02, q03, q04, q05, q10, q12, q13, q14, q15, q20, q21, q23, q24, q25, q30, q31, q32, q34, q35, q40, q41, q42, q43, q45, q50, q51, q52, q53, q54]
      exact ⟨FD, tv', hsetI _ _ _ _ (by omega) (by omega) (hsetI _ _ _ _ (by omega) (by omega) I11), fun c hc => .inl hc, htv0, hsetK _ _ _ (by omega) (hsetK _ _ _ (by omega) (KK10.trans (Keep.of_ext (S := Foot3 rb ab FD) X11) fun i hi => .inl hi)), rfl⟩
    | some b =>
     obtain ⟨st, text, fin⟩ := b
     obtain rfl := hon _ rfl
     have htl := honl _ rfl
     obtain ⟨bt, rfl, O9⟩ := Q9
     obtain ⟨ba, bn, be, rfl⟩ := O9.bytes.shape
     obtain ⟨h10, hq, s10, I10, KK10, gx10, gz10, gn10, ge10, gf10, cB, cG⟩ := post (.cells [.int .i64 (st : Nat), .slice ba bn be, .bool fin] true true) (.cells [.int .i64 0, .bool false] true true)
     have O10 : OutAt h10 (h7.size + 1) (.slice ba bn be) text := by
      rw [hq]
      exact (O9.upd (Upd.set _ _ _) (by omega)).upd (Upd.set _ _ _) (by omega)
     rw [ge9] at ge10
     rw [gf9] at gf10
     simp only [fltV, okF, go_sem, ↓reduceIte, gn9, gz9, hn4, hn3, hn2]
     rw [← hq]
     refine MCall.by (sOKF okF) ?_
     rintro u h11 ⟨rfl, X11⟩
     have s11 := X11.size
     have I11 := I10.ext X11
     have gn11 := (X11.get h7.size (by omega)).trans gn10
     have ge11 := (X11.get (h.size + 1) (by omega)).trans ge10
     have gf11 := (X11.get (h.size + 1 + 1) (by omega)).trans gf10
     have KK11 := KK10.trans (Keep.of_ext (S := Foot3 rb ab FD) X11) fun i hi => .inl hi
     rw [if_neg (by simp)] at hrd
     simp only at hrd htl
     simp only [decide_true, go_sem, ↓reduceIte, gn11]
     refine MCall.by (sWhole I11.lt I11.cells I11.dw (O10.ext X11) (fun c hc => by have := hFDl c hc; omega) (by omega)) ?_
     rintro u h12 ⟨FD', D12, hF12, K12, Q12⟩
     have I12 := I11.dec K12 D12 hF12
     have s12 := K12.size
     have ge12 := (K12.get (h.size + 1) (by omega) (fun hc => by have := hFDl _ hc; omega)).trans ge11
     have gf12 := (K12.get (h.size + 1 + 1) (by omega) (fun hc => by have := hFDl _ hc; omega)).trans gf11
     have KK12 : Keep (Foot3 rb ab FD) h h12 := KK11.trans K12 fun i hi => .inl (.inr (.inr hi))
     have e1 : ¬ h.size + 1 = h12.size := by omega
     have e2 : ¬ h.size + 1 + 1 = h12.size := by omega
     have e3 : ¬ h.size + 1 = h12.size + 1 := by omega
     have e4 : ¬ h.size + 1 + 1 = h12.size + 1 := by omega
     have e5 : ¬ h12.size = h.size + 1 := by omega
     have e6 : ¬ h12.size + 1 = h.size + 1 := by omega
     have e7 : ¬ h12.size = h.size + 1 + 1 := by omega
     have e8 : ¬ h12.size + 1 = h.size + 1 + 1 := by omega
     have e9 : ¬ h12.size = h12.size + 1 := by omega
     have e10 : ¬ h12.size + 1 = h12.size := by omega
     have hFD2 : ∀ c, FD' c → FD c ∨ h.size ≤ c := fun c hc => (hF12 c hc).imp id fun _ => by omega
     have hsetI2 : ∀ (hh : LHeap) (B : Nat) (o : LObj) (s' : Sd), h.size ≤ B → B < h7.size + 1 → Inb hh rb fb ab db FD' wv tv' s' → Inb (hh.set B o) rb fb ab db FD' wv tv' s' := fun hh B o s' hB hB2 J =>
      J.set (by omega) (by omega) (by omega) (fun hc => by
       rcases hF12 _ hc with q | q
       ·have := hFDl _ q; omega
       ·omega) (fun e => by have := I.rs.wait.lt e; omega) (by
       intro e
       rcases htvs with q | q
       ·rw [q] at e; have := I.am.text.lt e; omega
       ·have := q _ e; omega) o
     generalize M.decode 0 16384 s.rd.dec text = R at *
     obtain ⟨d', res⟩ := R
     cases res with
     | error e =>
      simp only [WholeQ] at Q12
      subst Q12
      simp only at hrd
      simp only [zeroEv, fltV, go_sem, ↓reduceIte, e9, e10]
      refine MC.dregion ?_
      simp only [go_sem, ↓reduceIte, e9, e10]
      generalize hq13 : LHeap.set _ (h12.size + 1) _ = h13
      have X13 : Ext h12 h13 := by rw [← hq13]; exact (((Ext.push _ _).trans (Ext.push _ _)).set (Nat.le_refl _) _).set (by omega) _
      have s13 : h13.size = h12.size + 2 := by rw [← hq13]; simp
      have g11 : h13.get h12.size = some (.cells [.int .i64 0, .int .i64 0, .slice none 0 0, .slice none 0 0, .slice none 0 0, .bool false, .int .i64 0, .int .i64 0] true true) := by rw [← hq13]; simp [e9]
      have g12 : h13.get (h12.size + 1) = some (.cells [.int .i64 109, .bool true] true true) := by rw [← hq13]; simp
      clear hq13
      refine MDCall.by (sOKF (109, true)) ?_
      rintro u h14 ⟨rfl, X14⟩
      have ge14 := (X14.get (h.size + 1) (by omega)).trans ((X13.get (h.size + 1) (by omega)).trans ge12)
      have gf14 := (X14.get (h.size + 1 + 1) (by omega)).trans ((X13.get (h.size + 1 + 1) (by omega)).trans gf12)
      have g11' := (X14.get h12.size (by omega)).trans g11
      have g12' := (X14.get (h12.size + 1) (by omega)).trans g12
      have Xn : Ext h12 h14 := X13.trans X14
      have KKn := hsetK
      have fini : ∀ (o1 o2 : LObj), Inb ((h14.set (h.size + 1) o1).set (h.size + 1 + 1) o2) rb fb ab db FD' wv tv' { s with rd := (readR s.rd f).1 } ∧ Keep (Foot3 rb ab FD) h ((h14.set (h.size + 1) o1).set (h.size + 1 + 1) o2) := fun o1 o2 => by
       rw [hrd]
       exact ⟨hsetI2 _ _ _ _ (by omega) (by omega) (hsetI2 _ _ _ _ (by omega) (by omega) (I12.ext Xn)), hsetK _ _ _ (by omega) (hsetK _ _ _ (by omega) (KK12.trans (Keep.of_ext (S := Foot3 rb ab FD) Xn) fun i hi => .inl hi))⟩
      have dz : decide (((109, true) : Flt) = okF) = false := rfl
      simp only [dz, go_sem, ↓reduceIte, g11, g12, g11', g12', ge14, gf14, e5, e6, e7, e8, veqs, veq, Bool.and_self, beq_self_eq_true, q01, q02, q03, q04, q05, q10, q12, q13, q14, q15, q20, q21, q23, q24, q25, q30, q31, q32, q34, q35, q40, q41, q42, q43, q45, q50, q51, q52, q53, q54]
      obtain ⟨z1, z2⟩ := fini _ _
      exact ⟨FD', tv', z1, hFD2, htv0, z2, by rw [hrd]; rfl⟩
     | ok ls =>
      obtain ⟨lv, rfl, L12, hL12⟩ := Q12
      simp only at hrd
      obtain ⟨la, ln, le, rfl⟩ : ∃ a n e, lv = .slice a n e := by
       rcases L12 with ⟨_, rfl⟩ | ⟨b, rfl, _⟩ <;> exact ⟨_, _, _, rfl⟩
      simp only [evV, evc, sl0, fltV, okF, go_sem, ↓reduceIte, e9, e10]
      refine MC.dregion ?_
      simp only [go_sem, ↓reduceIte, e9, e10]
      generalize hq13 : LHeap.set _ (h12.size + 1) _ = h13
      have X13 : Ext h12 h13 := by rw [← hq13]; exact (((Ext.push _ _).trans (Ext.push _ _)).set (Nat.le_refl _) _).set (by omega) _
      have s13 : h13.size = h12.size + 2 := by rw [← hq13]; simp
      have g11 : h13.get h12.size = some (.cells [.int .i64 1, .int .i64 (st : Nat), .slice la ln le, .slice none 0 0, .slice none 0 0, .bool fin, .int .i64 0, .int .i64 0] true true) := by rw [← hq13]; simp [e9]
      have g12 : h13.get (h12.size + 1) = some (.cells [.int .i64 0, .bool false] true true) := by rw [← hq13]; simp
      clear hq13
      refine MDCall.by (sOKF okF) ?_
      rintro u h14 ⟨rfl, X14⟩
      have ge14 := (X14.get (h.size + 1) (by omega)).trans ((X13.get (h.size + 1) (by omega)).trans ge12)
      have gf14 := (X14.get (h.size + 1 + 1) (by omega)).trans ((X13.get (h.size + 1 + 1) (by omega)).trans gf12)
      have g11' := (X14.get h12.size (by omega)).trans g11
      have g12' := (X14.get (h12.size + 1) (by omega)).trans g12
      have Xn : Ext h12 h14 := X13.trans X14
      have KKn := hsetK
      have fini : ∀ (o1 o2 : LObj), Inb ((h14.set (h.size + 1) o1).set (h.size + 1 + 1) o2) rb fb ab db FD' wv tv' { s with rd := (readR s.rd f).1 } ∧ Keep (Foot3 rb ab FD) h ((h14.set (h.size + 1) o1).set (h.size + 1 + 1) o2) := fun o1 o2 => by
       rw [hrd]
       exact ⟨hsetI2 _ _ _ _ (by omega) (by omega) (hsetI2 _ _ _ _ (by omega) (by omega) (I12.ext Xn)), hsetK _ _ _ (by omega) (hsetK _ _ _ (by omega) (KK12.trans (Keep.of_ext (S := Foot3 rb ab FD) Xn) fun i hi => .inl hi))⟩
      have dz : decide ((okF : Flt) = okF) = true := rfl
      simp only [dz, go_sem, ↓reduceIte, g11, g12, g11', g12', ge14, gf14, e5, e6, e7, e8, veqs, veq, Bool.and_self, beq_self_eq_true, q01, q02, q03, q04, q05, q10, q12, q13, q14, q15, q20, q21, q23, q24, q25, q30, q31, q32, q34, q35, q40, q41, q42, q43, q45, q50, q51, q52, q53, q54]
      obtain ⟨z1, z2⟩ := fini _ _
      refine ⟨FD', tv', z1, hFD2, htv0, z2, ?_⟩
      rw [hrd]
      have L14 := ((L12.extI Xn).setI (B := h.size + 1) (by omega) (.cells [.int .i64 1, .int .i64 (st : Nat), .slice la ln le, .slice none 0 0, .slice none 0 0, .bool fin, .int .i64 0, .int .i64 0] true true)).setI (B := h.size + 1 + 1) (by omega) (.cells [.int .i64 0, .bool false] true true)
      refine ⟨.slice la ln le, sl0, sl0, rfl, L14.gl, .inl ⟨rfl, 0, rfl⟩, .inl ⟨rfl, rfl⟩, ?_⟩
      rintro b (hb | hb | hb)
      ·rcases L14 with ⟨_, hE⟩ | ⟨b', hE, l1, l2, _⟩
       ·rw [hE] at hb; cases hb
       ·rw [hE] at hb
        simp only [blkOf_some, Option.some.injEq] at hb
        subst hb
        exact ⟨by omega, hL12 _ _ _ hE⟩
      ·cases hb
      ·cases hb
   ·have hz : (c, false) ≠ okF := fun e => c0 (congrArg Prod.fst e)
    have d0 : decide ((c, false) = okF) = false := okF_ne hz
    by_cases c1 : f.ty = 1
    ·have e : readR s.rd f = (s.rd, none, (c, true)) := by simp [readR, hm, hP, hz, c1]
     have d1 : (f.ty == 1) = true := by simpa using c1
     simp only [d0, go_sem, ↓reduceIte, gb5, beq_nat1, d1, gz5]
     refine MCall.by (sConnI c) ?_
     rintro u h6 ⟨rfl, X6⟩
     have ge6 := (X6.get (h.size + 1) (by omega)).trans ge5
     have gf6 := (X6.get (h.size + 1 + 1) (by omega)).trans gf5
     simp only [fltV, go_sem, ↓reduceIte, ge6, gf6, q01, q02, q03, q04, q05, q10, q12, q13, q14, q15, q20, q21, q23, q24, q25, q30, q31, q32, q34, q35, q40, q41, q42, q43, q45, q50, q51, q52, q53, q54]
     obtain ⟨z1, z2, z3, z4⟩ := zero _ (((X05.trans X6).set (b := h.size + 1) (by omega) _).set (b := h.size + 1 + 1) (by omega) _) (by rw [e])
     rw [e] at z1 ⊢
     exact ⟨FD, tv, z1, z2, z3, z4, rfl⟩
    ·have e : readR s.rd f = (s.rd, some ⟨10, x.st, [], [], [], false, x.flow, c⟩, okF) := by simp [readR, hm, hP, hz, c1]
     have d1 : (f.ty == 1) = false := by simpa using c1
     simp only [d0, go_sem, ↓reduceIte, gb5, beq_nat1, d1, gz5]
     refine MCall.by (sOKF (c, false)) ?_
     rintro u h6 ⟨rfl, X6⟩
     have gx6 := (X6.get h3.size (by omega)).trans gx5
     have gz6 := (X6.get (h3.size + 1) (by omega)).trans gz5
     have ge6 := (X6.get (h.size + 1) (by omega)).trans ge5
     have gf6 := (X6.get (h.size + 1 + 1) (by omega)).trans gf5
     simp only [itc] at gx6
     simp only [d0, go_sem, ↓reduceIte, gx6, gz6, ge6, gf6, q01, q02, q03, q04, q05, q10, q12, q13, q14, q15, q20, q21, q23, q24, q25, q30, q31, q32, q34, q35, q40, q41, q42, q43, q45, q50, q51, q52, q53, q54]
     obtain ⟨z1, z2, z3, z4⟩ := zero _ (((X05.trans X6).set (b := h.size + 1) (by omega) _).set (b := h.size + 1 + 1) (by omega) _) (by rw [e])
     rw [e] at z1 ⊢
     exact ⟨FD, tv, z1, z2, z3, z4, sl0, sl0, sl0, rfl, .inl ⟨rfl, rfl⟩, .inl ⟨rfl, 0, rfl⟩, .inl ⟨rfl, rfl⟩, fun b hb => by rcases hb with q | q | q <;> cases q⟩
end Go.E1
