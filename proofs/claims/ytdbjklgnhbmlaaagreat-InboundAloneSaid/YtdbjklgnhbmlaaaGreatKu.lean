/-
 Layer 23: InboundAlone.
-/
import Derived.Test.YtdbjklgnhbmlaaaGreatKr
namespace Go.M
open Go.E1
def asm0 : Asm := ⟨false, 0, [], false⟩
def dec0 : Dec := ⟨⟨[], 0⟩, false⟩
def sd1 : Sd := ⟨[], false, ⟨asm0, dec0, true⟩, false⟩
theorem feed_asked : (feedS sd0 (frBytes ⟨4, 0, 0, []⟩)).1 = sd1 := by
 have h : allB (sd0.wait ++ frBytes ⟨4, 0, 0, []⟩) = some ([⟨4, 0, 0, []⟩], []) := by
  have := allB_frames [⟨4, 0, 0, []⟩] (by
   intro f hf
   rw [List.mem_singleton.1 hf]
   exact ⟨⟨by decide, by decide, by decide, by decide⟩, by decide⟩)
  simpa [sd0] using this
 rw [feedS_live rfl rfl h]
 rfl
theorem parse_block {st : Nat} {b : Bytes} (hs : st ≠ 0) : parseI ⟨1, 4, st, b⟩ = (⟨1, st, b, false, true, false, 0, 0, 0, 0, 0, 0, false, false, []⟩, okF) := by
 have h8 : hasF 4 8 = false := rfl
 have h32 : hasF 4 32 = false := rfl
 have h1 : hasF 4 1 = false := rfl
 have h4 : hasF 4 4 = true := rfl
 simp [parseI, placeF, lengthF, readI, paddedI, padI, ownI, bareI, hs, h8, h32, h1, h4, okF]
theorem read_block {st : Nat} {b : Bytes} (hs : st ≠ 0) (hb : b.length ≤ 16384) (d : Dec) : readR ⟨asm0, d, true⟩ ⟨1, 4, st, b⟩ = match M.decode 0 16384 d b with
  | (d', .ok l) => (⟨asm0, d', true⟩, some ⟨1, st, l, [], [], false, 0, 0⟩, okF)
  | (d', .error _) => (⟨asm0, d', true⟩, none, (109, true)) := by
 have hb' : ¬ 16384 < b.length := by omega
 simp [readR, mayR, parse_block hs, asm0, onA, mayA, okF, hb']
 cases M.decode 0 16384 d b with
 | mk d' r => cases r <;> rfl
theorem frOk_block {st : Nat} {b : Bytes} (hs : st ≤ 2147483647) (hb : b.length ≤ 200) : frOk ⟨1, 4, st, b⟩ ∧ (⟨1, 4, st, b⟩ : Frm).pl.length ≤ 16384 :=
 ⟨⟨by show (1 : Nat) ≤ 255; decide, by show (4 : Nat) ≤ 255; decide, hs, by show b.length ≤ _; omega⟩, by show b.length ≤ _; omega⟩
theorem feed_block {st : Nat} {b : Bytes} (hs : st ≠ 0) (hs' : st ≤ 2147483647) (hb : b.length ≤ 200) (d : Dec) : feedS ⟨[], false, ⟨asm0, d, true⟩, false⟩ (frBytes ⟨1, 4, st, b⟩) = match M.decode 0 16384 d b with
  | (d', .ok l) => (⟨[], false, ⟨asm0, d', true⟩, false⟩, [⟨1, st, l, [], [], false, 0, 0⟩], okF)
  | (d', .error _) => (⟨[], false, ⟨asm0, d', true⟩, true⟩, [], (109, true)) := by
 have h : allB (([] : Bytes) ++ frBytes ⟨1, 4, st, b⟩) = some ([⟨1, 4, st, b⟩], []) := by
  have := allB_frames [⟨1, 4, st, b⟩] (by
   intro f hf
   rw [List.mem_singleton.1 hf]
   exact frOk_block hs' hb)
  simpa using this
 rw [feedS_live (s := ⟨[], false, ⟨asm0, d, true⟩, false⟩) rfl rfl h, procR_cons, read_block hs (by omega)]
 cases hd : M.decode 0 16384 d b with
 | mk d' r => cases r <;> simp [procR, okF]
theorem decode_alive {most bound : Nat} {d d' : Dec} {b : Bytes} {l : List Ln} (h : M.decode most bound d b = (d', .ok l)) : d'.dead = false := by
 unfold M.decode at h
 split at h
 ·cases h
 ·split at h
  ·cases h; rfl
  ·cases h
end Go.M
namespace Go.E1
open Go Go.Proofs Go.M
set_option linter.unusedSimpArgs false

theorem Sat.dec {z : Snap} {h : LHeap} {rs : List Res} {rb : Nat} {s : Sd} (S : Sat z h rs) (i : Nat) (e : rs[i]? = some (Go.E1.inb rb s)) : s.rd.dec.st = ⟨[], 0⟩ := by
 obtain ⟨M, fb, ab, db, FD, wv, tv, I, _⟩ := Sat.at i S e
 obtain ⟨h1, h2, _⟩ := I.dw.sz
 have h3 : s.rd.dec.st.limit = 0 := by omega
 cases hst : s.rd.dec.st with
 | mk L lim =>
  rw [hst] at h1 h3
  simp only at h1 h3
  subst h3
  cases L with
  | nil => rfl
  | cons f L =>
   simp only [tsz, List.map_cons, List.sum_cons, fsz] at h1
   omega

theorem sAlone {h : LHeap} {v w : Value} {text other : Bytes} (V : BytesAt h v text) (W : BytesAt h w other) :
  LCalls EC 11 [v, w] h fun u _ => u = .bool true := by
 refine LCalls.enter (lf := lf11) rfl rfl (by simp [lf11]) ?_
 simp only [go_sem, lf11, ↓reduceIte]
 refine MCall.by (fNewI (sat0 h)) ?_
 rintro u h1 ⟨z1, p, le1, rfl, S1⟩
 simp only [go_sem, ↓reduceIte]
 refine MCall.by (fNewI S1) ?_
 rintro u h2 ⟨z2, q, le2, rfl, S2⟩
 have zv := V.z0.mono (le1.trans le2)
 have zw := W.z0.mono (le1.trans le2)
 have eV := fun hh : LHeap => zv.len (q := EC.q) (h := hh)
 have eW := fun hh : LHeap => zw.len (q := EC.q) (h := hh)
 obtain ⟨va, vn, ve, rfl⟩ := zv.shape
 obtain ⟨wa, wn, we, rfl⟩ := zw.shape
 simp only [go_sem, ↓reduceIte, eV]
 by_cases h200 : 200 < text.length
 ·have d1 : (200 : Int) < (text.length : Int) := by omega
  have d2 : (text.length : Int) > 200 := by omega
  simp only [d1, d2, decide_true, go_sem, ↓reduceIte]
 have d1 : ¬ (200 : Int) < (text.length : Int) := by omega
 have d2 : ¬ (text.length : Int) > 200 := by omega
 simp only [d1, d2, decide_false, go_sem, ↓reduceIte, eW]
 by_cases h200' : 200 < other.length
 ·have d1 : (200 : Int) < (other.length : Int) := by omega
  have d2 : (other.length : Int) > 200 := by omega
  simp only [d1, d2, decide_true, go_sem, ↓reduceIte]
 have d1 : ¬ (200 : Int) < (other.length : Int) := by omega
 have d2 : ¬ (other.length : Int) > 200 := by omega
 simp only [d1, d2, decide_false, go_sem, ↓reduceIte]
 refine MCall.by (fBytes (f := ⟨4, 0, 0, []⟩) (fv := .slice none 0 0) S2 zB.nil ⟨by decide, by decide, by decide, by decide⟩ (by decide)) ?_
 rintro u h3 ⟨z3, sv, le3, rfl, B3, S3⟩
 simp only [go_sem, ↓reduceIte]
 refine MCall.by (fBytes (f := ⟨1, 4, 3, other⟩) S3 (zw.mono le3) (frOk_block (by decide) (by omega)).1 (frOk_block (st := 3) (by decide) (by omega)).2) ?_
 rintro u h4 ⟨z4, xv, le4, rfl, B4, S4⟩
 simp only [go_sem, ↓reduceIte]
 refine MCall.by (fBytes (f := ⟨1, 4, 1, text⟩) S4 (zv.mono (le3.trans le4)) (frOk_block (by decide) (by omega)).1 (frOk_block (st := 1) (by decide) (by omega)).2) ?_
 rintro u h5 ⟨z5, yv, le5, rfl, B5, S5⟩
 simp only [go_sem, ↓reduceIte]
 refine MCall.by (fFeedI (S5.ordN 2 [1, 0] (by decide)) (B3.mono (le4.trans le5)) (by rw [frBytes_len]; decide)) ?_
 rintro u h6 ⟨z6, ov6, ps6, le6, rfl, E6, S6⟩
 rw [feed_asked] at S6
 simp only [go_sem, ↓reduceIte]
 refine MCall.by (fFeedI (S6.ordN 2 [1, 0] (by decide)) (B3.mono ((le4.trans le5).trans le6)) (by rw [frBytes_len]; decide)) ?_
 rintro u h7 ⟨z7, ov7, ps7, le7, rfl, E7, S7⟩
 rw [feed_asked] at S7
 simp only [go_sem, ↓reduceIte]
 refine MCall.by (fFeedI S7 (B4.mono ((le5.trans le6).trans le7)) (by rw [frBytes_len]; show 9 + other.length < _; omega)) ?_
 rintro u h8 ⟨z8, ov8, ps8, le8, rfl, E8, S8⟩
 have hfx := feed_block (st := 3) (b := other) (by decide) (by decide) (by omega) dec0
 change feedS sd1 _ = _ at hfx
 rw [hfx] at S8 E8 ⊢
 clear hfx E6 E7
 have T8 := S8.push [.int .i64 0, .bool false]
 cases hd : M.decode 0 16384 dec0 other with
 | mk d res =>
  rw [hd] at S8 E8 T8
  cases res with
  | error e =>
   simp only [fltV, go_sem, ↓reduceIte]
   have T9 := T8.set 0 rfl [.int .i64 (109 : Nat), .bool true]
   generalize hq : LHeap.set _ h8.size _ = h9 at *
   clear hq
   refine MCall.by (sOKFS T9 (109, true)) ?_
   rintro u h10 ⟨rfl, S10⟩
   have dz : decide (((109, true) : Flt) = okF) = false := rfl
   simp only [dz, go_sem, ↓reduceIte]
  | ok ls =>
   have hdd : d = dec0 := by
    have h1 := decode_alive hd
    have h2 := S8.dec 0 rfl
    cases d with
    | mk st dead =>
     simp only at h1 h2
     rw [h1, h2]; rfl
   subst hdd
   simp only [fltV, okF, go_sem, ↓reduceIte]
   have T9 := T8.set 0 rfl [.int .i64 (0 : Nat), .bool false]
   generalize hq : LHeap.set _ h8.size _ = h9 at *
   clear hq
   refine MCall.by (sOKFS T9 okF) ?_
   rintro u h10 ⟨rfl, S10⟩
   simp only [decide_true, go_sem, ↓reduceIte]
   refine MCall.by (fFeedI (S10.ordN 3 [2, 1] (by decide)) (B5.mono ((le6.trans le7).trans le8)) (by rw [frBytes_len]; show 9 + text.length < _; omega)) ?_
   rintro u h11 ⟨z11, av, ps, le11, rfl, E11, S11⟩
   have hsz : ∀ e ∈ (feedS sd1 (frBytes ⟨1, 4, 1, text⟩)).2.1, evOk e := feedS_sz
   generalize hR : feedS sd1 (frBytes ⟨1, 4, 1, text⟩) = R at *
   obtain ⟨s', es, fz⟩ := R
   have T11 := (S11.push [.int .i64 0, .bool false]).set 0 rfl [.int .i64 (fz.1 : Nat), .bool fz.2]
   simp only [fltV, go_sem, ↓reduceIte]
   generalize hf1 : h11.size = f1 at *
   generalize hq : LHeap.set _ f1 _ = h12 at *
   clear hq
   refine MCall.by (fFeedI (s := sd1) (T11.ordN 3 [2, 1, 0] (by decide)) (B5.mono (((le6.trans le7).trans le8).trans le11)) (by rw [frBytes_len]; show 9 + text.length < _; omega)) ?_
   rintro u h13 ⟨z13, bv13, qs, le13, rfl, E13, S13⟩
   rw [hR] at S13 E13 ⊢
   have hne : ¬ f1 = h13.size := by have := S13.ptlt 2 rfl; omega
   have gA0 := S13.gpt 2 rfl
   have T13 := (S13.push [.int .i64 0, .bool false]).set 0 rfl [.int .i64 (fz.1 : Nat), .bool fz.2]
   simp only [fltV, go_sem, ↓reduceIte]
   generalize hf2 : h13.size = f2 at *
   generalize hq : LHeap.set _ f2 _ = h14 at *
   clear hq
   have gA := T13.gpt 3 rfl
   have gB := T13.gpt 0 rfl
   have q1 := q_flt2 (fz.1 : Nat) fz.2
   have zps := E11.2.1.mono le13
   have eP := fun h' : LHeap => zps.len (q := EC.q) (h := h')
   have eQ := fun h' : LHeap => E13.2.1.len (q := EC.q) (h := h')
   have hlen : ps.length = qs.length := by
    have e1 := congrArg List.length E11.1
    have e2 := congrArg List.length E13.1
    simp only [List.length_map] at e1 e2
    omega
   have q2 : (((ps.length : Nat) : Int) != ((qs.length : Nat) : Int)) = false := by rw [hlen]; simp
   simp only [go_sem, ↓reduceIte, hne, gA0, gA, gB, q1, eP, eQ, q2]
   refine MC.dregion ?_
   cases ps with
   | nil =>
    simp only [go_sem, ↓reduceIte, eP, List.length_nil]
   | cons x ps =>
    obtain ⟨y, qs, rfl⟩ : ∃ y qs', qs = y :: qs' := by
     cases qs with
     | nil => simp at hlen
     | cons y qs => exact ⟨y, qs, rfl⟩
    have hxy : x.1 = y.1 := by
     have := E11.1.trans E13.1.symm
     simp only [List.map_cons, List.cons.injEq] at this
     exact this.1
    have hev : evOk x.1 := hsz x.1 (by rw [← E11.1]; exact List.mem_map.2 ⟨x, List.mem_cons_self .., rfl⟩)
    have Px := (E11.2.2 x (List.mem_cons_self ..)).mono le13
    have Py := E13.2.2 y (List.mem_cons_self ..)
    obtain ⟨b1, t1, r1, hv1, g11, g12⟩ := zps.at T13 (i := 0) rfl
    obtain ⟨b2, t2, r2, hv2, g21, g22⟩ := E13.2.1.at T13 (i := 0) rfl
    obtain ⟨k11, k12⟩ := evp_cel.get (l := x :: ps) (i := 0) rfl
    obtain ⟨k21, k22⟩ := evp_cel.get (l := y :: qs) (i := 0) rfl
    generalize (x :: ps).flatMap evp = c1 at *
    generalize (y :: qs).flatMap evp = c2 at *
    obtain ⟨e, ⟨x1, x2, x3⟩, ⟨x4, x5, x6⟩, x7, x8, x9⟩ := x
    obtain ⟨e', ⟨y1, y2, y3⟩, ⟨y4, y5, y6⟩, y7, y8, y9⟩ := y
    simp only at hxy
    subst hxy
    simp only [evp, slV, evc, Nat.zero_mul, Nat.zero_add, List.drop_zero] at k11 k21 k12 k22
    have n0 : (((ps.length + 1 : Nat) : Int) == 0) = false := by simp; omega
    have d1 : (0 : Int) < ((ps.length + 1 : Nat) : Int) := by omega
    have d2 : (0 : Int) < ((qs.length + 1 : Nat) : Int) := by omega
    simp only [List.length_cons] at hv1 hv2 eP eQ
    simp only [go_sem, ↓reduceIte, eP, n0, d1, d2, hv1, hv2, g12, g22, k11, k12, k21, k22]
    refine MDCall.by (sEqEv (e := e) hev (Px.1.sl T13) (Py.1.sl T13) (Px.2.1.at T13) (Py.2.1.at T13) (Px.2.2.sl T13) (Py.2.2.sl T13)) ?_
    rintro u h15 ⟨rfl, X15⟩
    simp only [go_sem, ↓reduceIte]
theorem larg_bytesI {h : LHeap} {n : Nat} {lv : Value} (hl : LArg Tryz.prog h n 23 lv) : ∃ l, BA h lv l ∧ l.length ≤ reachBytes := by
 rcases hl with ⟨g1, _⟩ | ⟨_, hl⟩
 ·simp [isAggP, Tryz.underlying23] at g1
 ·obtain ⟨v, l, h1, h2, h3⟩ := LRd_bytes hl
  simp only [List.cons.injEq, and_true] at h1
  subst h1
  exact ⟨l, h2, h3⟩
theorem lawAlone (h : LHeap) (lvs : List Value) (hl : LArgs Tryz.prog h 6 [23, 23] lvs) : LCalls EC 11 lvs h fun v _ => v = .bool true := by
 obtain ⟨v0, r0, rfl, h0, hr0⟩ := LArgs_cons hl
 obtain ⟨v1, r1, rfl, h1, hr1⟩ := LArgs_cons hr0
 obtain rfl := LArgs_nil hr1
 obtain ⟨a, A, _⟩ := larg_bytesI h0
 obtain ⟨b, B, _⟩ := larg_bytesI h1
 exact sAlone (BA.bytes A) (BA.bytes B)
end Go.E1
