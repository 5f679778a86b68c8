/-
  Texts joined: NV, NR, NS.
-/
import Derived.Test.YtdbjklgnhbmlaaaGreatKp
/-
 Layer 23: plain facts of frames and of what is read.
-/
namespace Go.M
open Go.E1
theorem parseF_ok {most : Nat} {b : Bytes} {f : Frm} {n : Nat} (h : parseF most b = .ok f n) : 9 ≤ n ∧ n ≤ b.length ∧ f.ty < 256 ∧ f.fl < 256 ∧ f.st < 2147483648 ∧ f.pl.length ≤ most := by
 obtain ⟨h1, h2⟩ := parseF_used h
 refine ⟨h1, h2, ?_⟩
 unfold parseF at h
 split at h
 ·cases h
 ·split at h
  ·cases h
  ·split at h
   ·cases h
   ·cases h
    refine ⟨big_lt 1 _ (by rw [List.length_take, List.length_drop]; omega), big_lt 1 _ (by rw [List.length_take, List.length_drop]; omega), Nat.mod_lt _ (by decide), ?_⟩
    show (List.take _ _).length ≤ _
    rw [List.length_take]; omega
theorem parseF_short {most : Nat} {b : Bytes} (h : parseF most b = .short) : b.length < 9 + most := by
 unfold parseF at h
 split at h
 ·omega
 ·split at h
  ·cases h
  ·split at h
   ·omega
   ·cases h
theorem allB_spec : ∀ (n : Nat) (b : Bytes) (fs : List Frm) (rest : Bytes), b.length ≤ n → allB b = some (fs, rest) → 9 * fs.length + rest.length ≤ b.length ∧ rest.length < 9 + 16384 ∧ ∀ f ∈ fs, f.ty < 256 ∧ f.fl < 256 ∧ f.st < 2147483648 ∧ f.pl.length ≤ 16384
 | n, b, fs, rest, hn, h => by
  rw [allB_eq] at h
  cases hp : parseF 16384 b with
  | short =>
   rw [hp] at h
   simp only at h
   cases h
   exact ⟨by simp, parseF_short hp, fun f hf => by cases hf⟩
  | big => rw [hp] at h; cases h
  | ok f m =>
   rw [hp] at h
   simp only [Option.map_eq_some_iff] at h
   obtain ⟨⟨fs', rest'⟩, h1, h2⟩ := h
   cases h2
   obtain ⟨k1, k2, k3⟩ := parseF_ok hp
   match n with
   | 0 => omega
   | n + 1 =>
    obtain ⟨e1, e2, e3⟩ := allB_spec n (b.drop m) fs' _ (by rw [List.length_drop]; omega) h1
    rw [List.length_drop] at e1
    refine ⟨by simp; omega, e2, fun g hg => ?_⟩
    rcases List.mem_cons.1 hg with rfl | hg
    ·exact k3
    ·exact e3 g hg
theorem onA_asm (a : Asm) (x : Itm) (h : a.text.length ≤ 16384) : (onA a x).1.text.length ≤ 16384 := by
 unfold onA
 by_cases c1 : mayA a x = false
 ·rw [if_pos c1]; exact h
 ·rw [if_neg c1]
  by_cases c2 : x.ty = 1 ∨ x.ty = 9
  ·rw [if_pos c2]
   generalize (if x.ty = 1 then (x.st, [], x.fin) else (a.st, a.text, a.fin) : Nat × Bytes × Bool) = n
   simp only
   by_cases c3 : 16384 < n.2.1.length + x.text.length
   ·rw [if_pos c3]; exact h
   ·rw [if_neg c3]
    by_cases c4 : x.endh = true
    ·rw [if_pos c4]; simp
    ·rw [if_neg c4]
     show (n.2.1 ++ x.text).length ≤ _
     rw [List.length_append]; omega
  ·rw [if_neg c2]; exact h
theorem readR_shape (r : Rd) (f : Frm) : ((readR r f).2.1 ≠ none → (readR r f).2.2 = okF) ∧ ((readR r f).1 = r ∨ (readR r f).1.asm = (onA r.asm (parseI f).1).1) := by
 unfold readR
 by_cases c1 : mayR r f = false
 ·rw [if_pos c1]; exact ⟨fun h => absurd rfl h, .inl rfl⟩
 ·rw [if_neg c1]
  simp only
  by_cases c2 : (parseI f).2.2 = true ∨ (parseI f).2 ≠ okF ∧ f.ty = 1
  ·rw [if_pos c2]; exact ⟨fun h => absurd rfl h, .inl rfl⟩
  ·rw [if_neg c2]
   by_cases c3 : (parseI f).2 ≠ okF
   ·rw [if_pos c3]; exact ⟨fun _ => rfl, .inl rfl⟩
   ·rw [if_neg c3]
    by_cases c4 : (onA r.asm (parseI f).1).2.2 ≠ okF
    ·rw [if_pos c4]; exact ⟨fun h => absurd rfl h, .inr rfl⟩
    ·rw [if_neg c4]
     cases hb : (onA r.asm (parseI f).1).2.1 with
     | none => exact ⟨fun _ => rfl, .inr rfl⟩
     | some b =>
      simp only
      generalize M.decode 0 16384 r.dec b.2.1 = R
      obtain ⟨d, res⟩ := R
      cases res with
      | error e => exact ⟨fun h => absurd rfl h, .inr rfl⟩
      | ok l => exact ⟨fun _ => rfl, .inr rfl⟩
theorem readR_asm {r : Rd} (f : Frm) (h : r.asm.text.length ≤ 16384) : (readR r f).1.asm.text.length ≤ 16384 := by
 rcases (readR_shape r f).2 with e | e
 ·rw [e]; exact h
 ·rw [e]; exact onA_asm _ _ h
theorem procR_cons (r : Rd) (f : Frm) (fs : List Frm) : procR r (f :: fs) = if (readR r f).2.2 ≠ okF then ((readR r f).1, [], (readR r f).2.2) else ((procR (readR r f).1 fs).1, (readR r f).2.1.toList ++ (procR (readR r f).1 fs).2.1, (procR (readR r f).1 fs).2.2) := by
 rw [procR]
theorem procR_asm : ∀ (fs : List Frm) {r : Rd}, r.asm.text.length ≤ 16384 → (procR r fs).1.asm.text.length ≤ 16384
 | [], r, h => h
 | f :: fs, r, h => by
  rw [procR_cons]
  split
  ·exact readR_asm f h
  ·exact procR_asm fs (readR_asm f h)
theorem procR_append : ∀ (a b : List Frm) (r : Rd), procR r (a ++ b) = if (procR r a).2.2 ≠ okF then procR r a else ((procR (procR r a).1 b).1, (procR r a).2.1 ++ (procR (procR r a).1 b).2.1, (procR (procR r a).1 b).2.2)
 | [], b, r => by simp [procR]
 | f :: a, b, r => by
  rw [List.cons_append, procR_cons, procR_cons]
  by_cases c : (readR r f).2.2 ≠ okF
  ·rw [if_pos c, if_pos c, if_pos c]
  ·rw [if_neg c, if_neg c, procR_append a b]
   by_cases c2 : (procR (readR r f).1 a).2.2 ≠ okF
   ·rw [if_pos c2, if_pos c2]
   ·rw [if_neg c2, if_neg c2, List.append_assoc]
end Go.M

/-
 Layer 23: a chunk.
-/
namespace Go.E1
open Go Go.Proofs Go.M
set_option linter.unusedSimpArgs false

abbrev EvP := Ev × SlT × SlT × SlT
def evp (p : EvP) : List Value := evc p.1 (slV p.2.1) (slV p.2.2.1) (slV p.2.2.2)
theorem evp_cel : Cel 8 evp := ⟨fun _ => rfl, fun _ => rfl, by omega⟩
/-- Events in a list, what they hold in blocks that are nobody's. -/
structure EvL (lo : Nat) (FD : Nat → Prop) (h : LHeap) (v : Value) (es : List Ev) (ps : List EvP) : Prop where
 fst : ps.map (·.1) = es
 gl : GL 8 evp h v ps
 low : ∀ b, blkOf v = some b → lo ≤ b ∧ ¬ FD b
 pay : ∀ p ∈ ps, PayE lo FD h p.1 (slV p.2.1) (slV p.2.2.1) (slV p.2.2.2) ∧ ∀ b, (blkOf (slV p.2.1) = some b ∨ blkOf (slV p.2.2.1) = some b ∨ blkOf (slV p.2.2.2) = some b) → blkOf v ≠ some b
theorem PayE.kp {lo : Nat} {FD FD' S : Nat → Prop} {h h' : LHeap} {e : Ev} {lv tv pv : Value} (P : PayE lo FD h e lv tv pv) (K : Keep S h h') (hS : ∀ b, (blkOf lv = some b ∨ blkOf tv = some b ∨ blkOf pv = some b) → ¬ S b) (hF : ∀ c, FD' c → FD c ∨ h.size ≤ c) : PayE lo FD' h' e lv tv pv := by
 obtain ⟨a1, a2, a3, a4⟩ := P
 refine ⟨a1.move K.size fun x hx => K.get x (a1.blk hx).1 (hS x (.inl hx)), a2.kpS K (fun b hb => hS b (.inr (.inl hb))), a3.move K.size fun x hx => K.get x (a3.blk hx).1 (hS x (.inr (.inr hx))), fun b hb => ⟨(a4 b hb).1, fun hc => ?_⟩⟩
 rcases hF b hc with q | q
 ·exact (a4 b hb).2 q
 ·rcases hb with hb | hb | hb
  ·have := (a1.blk hb).1; omega
  ·have := a2.lt hb; omega
  ·have := (a3.blk hb).1; omega
theorem EvL.kp {lo : Nat} {FD FD' S : Nat → Prop} {h h' : LHeap} {v : Value} {es : List Ev} {ps : List EvP} (E : EvL lo FD h v es ps) (K : Keep S h h') (hS : ∀ b, S b → b < lo ∨ FD b) (hF : ∀ c, FD' c → FD c ∨ h.size ≤ c) : EvL lo FD' h' v es ps := by
 refine ⟨E.fst, E.gl.move K.size fun x hx => K.get x (E.gl.blk hx).1 (fun hs => ?_), fun b hb => ⟨(E.low b hb).1, fun hc => ?_⟩, fun p hp => ⟨(E.pay p hp).1.kp K (fun b hb hs => ?_) hF, (E.pay p hp).2⟩⟩
 ·have := E.low x hx
  rcases hS x hs with q | q
  ·omega
  ·exact this.2 q
 ·rcases hF b hc with q | q
  ·exact (E.low b hb).2 q
  ·have := (E.gl.blk hb).1; omega
 ·have := (E.pay p hp).1.2.2.2 b hb
  rcases hS b hs with q | q
  ·omega
  ·exact this.2 q
/-- What a chunk may change. -/
def Foot4 (rb fb ab : Nat) (FD : Nat → Prop) (c : Nat) : Prop := c = rb ∨ c = fb ∨ c = ab ∨ FD c
def FeedQ (lo : Nat) (FD' : Nat → Prop) (h' : LHeap) (es : List Ev) (z : Flt) (u : Value) : Prop := ∃ ov ps, u = .tuple #[ov, fltV z] ∧ EvL lo FD' h' ov es ps
theorem frc_get {ps : List (Frm × SlT)} {i : Nat} {p : Frm × SlT} (h : ps[i]? = some p) : ((ps.flatMap frc).drop (i * 4)).take 4 = frc p ∧ i * 4 + 4 ≤ (ps.flatMap frc).length := frc_cel.get h

theorem Inb.feed {h h' : LHeap} {rb fb ab db : Nat} {FD : Nat → Prop} {wv wv' tv : Value} {s : Sd} (I : Inb h rb fb ab db FD wv tv s) (K : Kp h.size fb h h') {w : Bytes} {bg : Bool} (R : RsAt h' fb w bg wv') (hw : ∀ b, blkOf wv' = some b → h.size ≤ b) :
  Inb h' rb fb ab db FD wv' tv { s with wait := w, big := bg } := by
 have hl := I.lt
 have hrs := I.rs.lt
 have ham := I.am.lt
 refine ⟨Nat.lt_of_lt_of_le I.lt K.size, (K.get rb I.lt I.ap.n1).trans I.cells, R, ⟨Nat.lt_of_lt_of_le I.am.lt K.size, (K.get ab I.am.lt I.ap.n3.symm).trans I.am.cells, I.am.text.kpS K.toS (fun b e => (I.ap.t b e).2.1), I.am.ne⟩,
  I.dw.keep K.toS (fun c hc e => I.ap.f2 (e ▸ hc)), { I.ap with w := fun b e => ?_ }⟩
 have := hw b e
 exact ⟨by omega, by omega, by omega, fun hc => by have := I.dw.lt hc; omega⟩
theorem EvL.lo {lo lo' : Nat} {FD : Nat → Prop} {h : LHeap} {v : Value} {es : List Ev} {ps : List EvP} (E : EvL lo FD h v es ps) (hl : lo' ≤ lo) : EvL lo' FD h v es ps :=
 ⟨E.fst, E.gl, fun b hb => ⟨Nat.le_trans hl (E.low b hb).1, (E.low b hb).2⟩, fun p hp => ⟨⟨(E.pay p hp).1.1, (E.pay p hp).1.2.1, (E.pay p hp).1.2.2.1, fun b hb => ⟨Nat.le_trans hl ((E.pay p hp).1.2.2.2 b hb).1, ((E.pay p hp).1.2.2.2 b hb).2⟩⟩, (E.pay p hp).2⟩⟩
theorem Inb.kp {h h' : LHeap} {rb fb ab db : Nat} {FD S : Nat → Prop} {wv tv : Value} {s : Sd} (I : Inb h rb fb ab db FD wv tv s) (K : Keep S h h') (h1 : ¬ S rb) (h2 : ¬ S fb) (h3 : ¬ S ab) (h4 : ∀ c, FD c → ¬ S c) (h5 : ∀ b, blkOf wv = some b → ¬ S b) (h6 : ∀ b, blkOf tv = some b → ¬ S b) :
  Inb h' rb fb ab db FD wv tv s :=
 ⟨Nat.lt_of_lt_of_le I.lt K.size, (K.get rb I.lt h1).trans I.cells, ⟨Nat.lt_of_lt_of_le I.rs.lt K.size, (K.get fb I.rs.lt h2).trans I.rs.cells, I.rs.wait.kpS K h5, I.rs.ne⟩,
  ⟨Nat.lt_of_lt_of_le I.am.lt K.size, (K.get ab I.am.lt h3).trans I.am.cells, I.am.text.kpS K h6, I.am.ne⟩, I.dw.keep K h4, I.ap⟩
theorem sFeedI {h : LHeap} {rb fb ab db : Nat} {FD : Nat → Prop} {wv tv : Value} {s : Sd} (I : Inb h rb fb ab db FD wv tv s) {v : Value} {l : Bytes} (B : BytesAt h v l) (hl : s.wait.length + l.length < 1000000) (ha : s.rd.asm.text.length ≤ 16384) (hbd : s.big = true → s.dead = true) :
  LCalls EC 41 [.pointer (some ⟨rb, 0, none⟩), v] h fun u h' => ∃ FD' wv' tv', Inb h' rb fb ab db FD' wv' tv' (feedS s l).1 ∧ (∀ c, FD' c → FD c ∨ h.size ≤ c) ∧ (wv' = wv ∨ ∀ b, blkOf wv' = some b → h.size ≤ b) ∧ (tv' = tv ∨ ∀ b, blkOf tv' = some b → h.size ≤ b) ∧
   Keep (Foot4 rb fb ab FD) h h' ∧ FeedQ h.size FD' h' (feedS s l).2.1 (feedS s l).2.2 u := by
 refine LCalls.enter (lf := lf41) rfl rfl (by simp [lf41]) ?_
 obtain ⟨va, vn, ve, rfl⟩ := B.shape
 have hlt := I.lt
 have hrs := I.rs.lt
 have ham := I.am.lt
 have hFDl : ∀ c, FD c → c < h.size := fun c hc => I.dw.lt hc
 have hn : ¬ rb = h.size := by omega
 have hn' : ¬ h.size = rb := by omega
 have gr := I.cells
 simp only [rbc] at gr
 have X1 : Ext h (h.push (.cells [.int .i64 0, .bool false] true true)) := Ext.push _ _
 have nil0 : ∀ (lo : Nat) (hh : LHeap) (FD' : Nat → Prop), EvL lo FD' hh (.slice none 0 0) [] [] := fun lo hh FD' => ⟨rfl, .inl ⟨rfl, rfl⟩, (fun b hb => by cases hb), (fun p hp => by cases hp)⟩
 simp only [go_sem, lf41, ↓reduceIte, gr, hn]
 cases hd : s.dead with
 | true =>
  have e : feedS s l = (s, [], (105, true)) := by simp [feedS, hd]
  rw [e]
  simp only [go_sem, ↓reduceIte]
  refine MCall.by (sConnI 105) ?_
  rintro u h2 ⟨rfl, X2⟩
  have g2 := X2.get h.size (by simp)
  simp only [go_sem, ↓reduceIte] at g2
  simp only [fltV, go_sem, ↓reduceIte, g2]
  have Xf : Ext h (h2.set h.size (.cells [.int .i64 105, .bool true] true true)) := (X1.trans X2).set (Nat.le_refl _) _
  exact ⟨FD, wv, tv, I.ext Xf, fun c hc => .inl hc, .inl rfl, .inl rfl, Keep.of_ext Xf, _, _, rfl, nil0 _ _ _⟩
 | false =>
  have hbg : s.big = false := by
   cases hb : s.big with
   | false => rfl
   | true => rw [hbd hb] at hd; cases hd
  have I1 := I.ext X1
  have R1 := I1.rs
  rw [hbg] at R1
  simp only [hd, go_sem, ↓reduceIte, gr, hn]
  refine MCall.by (sFeedR R1 (B.ext X1) hl) ?_
  rintro u h2 ⟨Q2, K2⟩
  have s2 := K2.size
  simp only [LHeap.size_push] at s2 K2 Q2
  have gf2 : h2.get h.size = some (.cells [.int .i64 0, .bool false] true true) := by
   rw [K2.get h.size (by omega) (by omega)]; simp
  have gr2 : h2.get rb = some (.cells (rbc fb ab db s.rd.begun false) true true) := by
   rw [K2.get rb (by omega) I.ap.n1]
   have := I1.cells
   rw [hd] at this
   exact this
  cases hres : allB (s.wait ++ l) with
  | none =>
   rw [hres] at Q2
   obtain ⟨rfl, R2⟩ := Q2
   have I2 := I1.feed (by simpa using K2) R2 (fun b hb => by cases hb)
   have I3 := I2.begin s.rd.begun true
   have e : feedS s l = ({ s with wait := [], big := true, dead := true }, [], (106, true)) := by
    have h1 : allF 16384 ((s.wait ++ l).length + 1) (s.wait ++ l) = none := hres
    simp only [feedS, hd, hbg, h1]
    simp
   rw [e]
   have K3 : Keep (Foot4 rb fb ab FD) h (h2.set rb (.cells (rbc fb ab db s.rd.begun true) true true)) :=
    ((Keep.of_ext X1).trans (Kp.toS (by simpa using K2)) fun i hi => .inl (.inr (.inl hi))).trans (keepS_set _ _ _) fun i hi => .inl (.inl hi)
   simp only [rbc] at gr2 I3 K3
   simp only [go_sem, ↓reduceIte, gr2]
   generalize hq : h2.set rb _ = h3 at *
   have gf3 : h3.get h.size = some (.cells [.int .i64 0, .bool false] true true) := by rw [← hq]; simpa [hn'] using gf2
   have s3' : h3.size = h2.size := by rw [← hq]; simp
   clear hq
   refine MCall.by (sConnI 106) ?_
   rintro u h4 ⟨rfl, X4⟩
   have s3 := K3.size
   have gf4 := (X4.get h.size (by omega)).trans gf3
   simp only [fltV, go_sem, ↓reduceIte, gf4]
   refine ⟨FD, _, tv, ((I3.ext X4).set hn (by omega) (by omega) (fun hc => by have := hFDl _ hc; omega) (by simp) (fun e => by have := I.am.text.lt e; omega) _), fun c hc => .inl hc, .inr (fun b hb => by cases hb), .inl rfl, ?_, _, _, rfl, nil0 _ _ _⟩
   exact (K3.trans (Keep.of_ext (S := Foot4 rb fb ab FD) X4) fun i hi => .inl hi).trans (keepS_set _ _ _) fun i hi => .inr (by omega)
  | some p =>
   obtain ⟨fs, rest⟩ := p
   rw [hres] at Q2
   obtain ⟨ov, ps, wv', rfl, F2, R2, hwv⟩ := Q2
   have I2 := I1.feed (by simpa using K2) R2 (by simpa using fun b hb => by have := hwv b hb; simp at this; omega)
   have eL := fun hh => F2.gl.len (q := EC.q) (h := hh)
   have K02 : Keep (Foot4 rb fb ab FD) h h2 := (Keep.of_ext X1).trans (Kp.toS (by simpa using K2)) fun i hi => .inl (.inr (.inl hi))
   obtain ⟨hlen, hrest, hfr⟩ := allB_spec _ _ fs rest (Nat.le_refl _) hres
   rw [List.length_append] at hlen
   have hps : ps.length = fs.length := by rw [← F2.fst, List.length_map]
   have efeed : feedS s l = (⟨rest, false, (procR s.rd fs).1, decide ((procR s.rd fs).2.2 ≠ okF)⟩, (procR s.rd fs).2.1, (procR s.rd fs).2.2) := by
    have h1 : allF 16384 ((s.wait ++ l).length + 1) (s.wait ++ l) = some (fs, rest) := hres
    simp only [feedS, hd, hbg, h1]
    simp
   have hsz1 : (h.push (.cells [.int .i64 0, .bool false] true true)).size = h.size + 1 := by simp
   rw [hsz1] at F2 hwv
   simp only [go_sem, ↓reduceIte, eL]
   refine MC.loop (fun m fr hh => ∃ i FDi tvi esi psi ov' ri tl, m = ps.length - i ∧ i ≤ ps.length ∧ fr = (0, .pointer (some ⟨rb, 0, none⟩)) :: (5, .pointer (some ⟨h.size, 0, none⟩)) :: (8, ov') :: (35, ov) :: (36, .int .i64 (ps.length : Nat)) :: (37, .int .i64 (i : Nat)) :: tl ∧
    Inb hh rb fb ab db FDi wv' tvi ⟨rest, false, ri, false⟩ ∧ (∀ c, FDi c → FD c ∨ h2.size ≤ c) ∧ (tvi = tv ∨ ∀ b, blkOf tvi = some b → h2.size ≤ b) ∧ Keep (Foot3 rb ab FD) h2 hh ∧ EvL h2.size FDi hh ov' esi psi ∧ (∀ b, blkOf tvi = some b → blkOf ov' ≠ some b) ∧ psi.length ≤ i ∧ ri.asm.text.length ≤ 16384 ∧
    procR s.rd fs = ((procR ri (fs.drop i)).1, esi ++ (procR ri (fs.drop i)).2.1, (procR ri (fs.drop i)).2.2)) ps.length
    ⟨0, FD, tv, [], [], .slice none 0 0, s.rd, [], rfl, Nat.zero_le _, rfl, by have := I2; rw [hd] at this; exact this, fun c hc => .inl hc, .inl rfl, Keep.refl _ _, nil0 _ _ _, (fun _ _ e => by cases e), Nat.le_refl _, ha, by simp⟩ ?_
   rintro m fr hh J ⟨i, FDi, tvi, esi, psi, ov', ri, tl, rfl, hi, rfl, Ii, hFi, htvi, Ki, Ei, hto, hpsi, hai, hpr⟩ hJ
   have hK0 : ∀ b, h.size ≤ b → ¬ Foot3 rb ab FD b := fun b hb hc => by
    rcases hc with rfl | rfl | hc
    ·omega
    ·omega
    ·have := hFDl b hc; omega
   have si := Ki.size
   have gfi := (Ki.get h.size (by omega) (hK0 _ (Nat.le_refl _))).trans gf2
   by_cases hlt' : i < ps.length
   ·have d1 : (i : Int) < (ps.length : Int) := by omega
    have d0 : (0 : Int) ≤ (i : Int) := by omega
    obtain ⟨p, hp⟩ : ∃ p, ps[i]? = some p := ⟨ps[i], by simp [hlt']⟩
    obtain ⟨f, pa, pn, pe⟩ := p
    have hfi : fs[i]? = some f := by rw [← F2.fst, List.getElem?_map, hp]; rfl
    have hdrop : fs.drop i = f :: fs.drop (i + 1) := by
     have hlt2 : i < fs.length := by omega
     rw [List.drop_eq_getElem_cons hlt2]
     congr 1
     rw [List.getElem?_eq_getElem hlt2] at hfi
     exact Option.some.inj hfi
    obtain ⟨hf1, hf2, hf3, hf4⟩ := hfr f (List.mem_of_getElem? hfi)
    have Fpay := (F2.pay _ (List.mem_of_getElem? hp)).1
    obtain ⟨fb2, rfl, fl1, fl2⟩ := F2.gl.at hp
    have flo := F2.low fb2 rfl
    obtain ⟨fg1, fg2⟩ := frc_get hp
    have flh := (Ki.get fb2 fl1 (hK0 _ (by omega))).trans fl2
    have hfb : ¬ fb2 = hh.size := by omega
    have w1 : IntKind.i64.wrap ((i : Int) + 1) = ((i + 1 : Nat) : Int) := by rw [IntWalk.i64_in _ (by omega)]; omega
    simp only [frc] at fg1
    simp only [go_sem, ↓reduceIte, d1, d0, Int.toNat_natCast, flh, fg1, fg2]
    obtain ⟨h3, hq3⟩ : ∃ h3, h3 = (hh.push (.cells [.int .i64 0, .int .i64 0, .int .i64 0, .slice none 0 0] true true)).set hh.size (.cells [.int .i64 (f.ty : Nat), .int .i64 (f.fl : Nat), .int .i64 (f.st : Nat), .slice pa pn pe] true true) := ⟨_, rfl⟩
    have X3 : Ext hh h3 := by rw [hq3]; exact (Ext.push _ _).set (Nat.le_refl _) _
    rw [← hq3]
    clear hq3
    have s3 := X3.size
    have Bf : BytesAt h3 (.slice pa pn pe) f.pl := (Fpay.bytes.kpS Ki fun b hb => hK0 b (by have := Fpay.blk hb; omega)).ext X3
    refine MCall.by (sReadI (f := f) (Ii.ext X3) Bf (by omega) (by omega) hai) ?_
    rintro u h4 ⟨FD4, tv4, I4, hF4, htv4, K4, Q4⟩
    have s4 := K4.size
    have hFiK : ∀ c, Foot3 rb ab FDi c → Foot3 rb ab FD c ∨ h2.size ≤ c := fun c hc => by
     rcases hc with q | q | q
     ·exact .inl (.inl q)
     ·exact .inl (.inr (.inl q))
     ·exact (hFi c q).imp (fun q => .inr (.inr q)) id
    have hF4' : ∀ c, FD4 c → FDi c ∨ hh.size ≤ c := fun c hc => (hF4 c hc).imp id fun _ => by omega
    have KK4 : Keep (Foot3 rb ab FD) h2 h4 := (Ki.trans (Keep.of_ext (S := Foot3 rb ab FD) X3) fun i hi => .inl hi).trans K4 hFiK
    have E4 : EvL h2.size FD4 h4 ov' esi psi := (Ei.kp (Keep.of_ext (S := Foot3 rb ab FDi) X3) (fun b hb => by
      rcases hb with q | q | q
      ·left; omega
      ·left; omega
      ·exact .inr q) (fun c hc => .inl hc)).kp K4 (fun b hb => by
      rcases hb with q | q | q
      ·left; omega
      ·left; omega
      ·exact .inr q) (fun c hc => (hF4 c hc))
    have hF4h : ∀ c, FD4 c → FD c ∨ h2.size ≤ c := fun c hc => by
     rcases hF4 c hc with q | q
     ·exact hFi c q
     ·right; omega
    have htv4h : tv4 = tv ∨ ∀ b, blkOf tv4 = some b → h2.size ≤ b := by
     rcases htv4 with q | q
     ·rw [q]; exact htvi
     ·exact .inr fun b hb => by have := q b hb; omega
    have hto4 : ∀ b, blkOf tv4 = some b → blkOf ov' ≠ some b := fun b hb => by
     rcases htv4 with q | q
     ·rw [q] at hb; exact hto b hb
     ·have := q b hb; intro he; have := (Ei.gl.blk he).1; omega
    have ha4 := readR_asm f hai
    have hsome := (readR_shape ri f).1
    have hpr2 := procR_cons ri f (fs.drop (i + 1))
    rw [← hdrop] at hpr2
    generalize readR ri f = RR at *
    obtain ⟨r4, ev, z⟩ := RR
    simp only at I4 Q4 ha4 hsome hpr2
    have gr4 := I4.cells
    simp only [rbc] at gr4
    have gf4 := (KK4.get h.size (by omega) (hK0 _ (Nat.le_refl _))).trans gf2
    have e9 : ¬ h4.size = h4.size + 1 := by omega
    have e10 : ¬ h4.size + 1 = h4.size := by omega
    have hnf : ¬ h.size = h4.size := by omega
    cases ev with
    | none =>
     simp only [ReadQ] at Q4
     subst Q4
     simp only [zeroEv, fltV, go_sem, ↓reduceIte, e9, e10]
     generalize hq5 : LHeap.set _ (h4.size + 1) _ = h5
     have X5 : Ext h4 h5 := by rw [← hq5]; exact (((Ext.push _ _).trans (Ext.push _ _)).set (Nat.le_refl _) _).set (by omega) _
     have s5 : h5.size = h4.size + 2 := by rw [← hq5]; simp
     have g11 : h5.get h4.size = some (.cells [.int .i64 0, .int .i64 0, .slice none 0 0, .slice none 0 0, .slice none 0 0, .bool false, .int .i64 0, .int .i64 0] true true) := by rw [← hq5]; simp [e9]
     have g13 : h5.get (h4.size + 1) = some (.cells [.int .i64 (z.1 : Nat), .bool z.2] true true) := by rw [← hq5]; simp
     clear hq5
     refine MCall.by (sOKF z) ?_
     rintro u h6 ⟨rfl, X6⟩
     have X46 := X5.trans X6
     have s6 := X6.size
     have g11' := (X6.get h4.size (by omega)).trans g11
     have g13' := (X6.get (h4.size + 1) (by omega)).trans g13
     have gf6 := (X46.get h.size (by omega)).trans gf4
     have I6 := I4.ext X46
     have gr6 := (X46.get rb (by omega)).trans gr4
     have KK6 := KK4.trans (Keep.of_ext (S := Foot3 rb ab FD) X46) fun i hi => .inl hi
     have E6 := E4.kp (Keep.of_ext (S := fun _ => False) X46) (fun b hb => hb.elim) (fun c hc => .inl hc)
     by_cases hz : z = okF
     ·subst hz
      rw [if_neg (by simp)] at hpr2
      simp only [decide_true, go_sem, ↓reduceIte, w1]
      exact hJ _ _ _ (by omega) ⟨i + 1, FD4, tv4, esi, psi, ov', r4, _, rfl, by omega, rfl, I6, hF4h, htv4h, KK6, E6, hto4, by omega, ha4, by rw [hpr, hpr2]; simp⟩
     ·rw [if_pos hz] at hpr2
      simp only [hz, decide_false, go_sem, ↓reduceIte, gr6]
      have I7 := I6.begin r4.begun true
      have K7 : Keep (Foot3 rb ab FD) h2 (h6.set rb (.cells (rbc fb ab db r4.begun true) true true)) := KK6.trans (keepS_set _ _ _) fun i hi => .inl (.inl hi)
      have E7 := E6.kp (keepS_set h6 rb (.cells (rbc fb ab db r4.begun true) true true)) (fun b hb => .inl (by omega)) (fun c hc => .inl hc)
      simp only [rbc] at I7 K7 E7
      have hn13 : ¬ h4.size + 1 = rb := by omega
      refine MC.dregion ?_
      simp only [go_sem, ↓reduceIte, g13', gf6, hn13, hn']
      rw [efeed, hpr, hpr2]
      have Kf := K02.trans K7 fun c hc => .inl (by
       rcases hc with q | q | q
       ·exact .inl q
       ·exact .inr (.inr (.inl q))
       ·exact .inr (.inr (.inr q)))
      refine ⟨FD4, wv', tv4, ?_, ?_, .inr fun b hb => by have := hwv b hb; omega, htv4h.imp id fun q b hb => by have := q b hb; omega, Kf.trans (keepS_set _ _ _) fun i hi => .inr (by omega), ov', psi, rfl, ?_⟩
      ·have := I7.set (B := h.size) hn (by omega) (by omega) (fun hc => by
        rcases hF4h _ hc with q | q
        ·have := hFDl _ q; omega
        ·omega) (fun e => by have := hwv _ e; omega) (by
        intro e
        rcases htv4h with q | q
        ·rw [q] at e; have := I.am.text.lt e; omega
        ·have := q _ e; omega) (.cells [.int .i64 (z.1 : Nat), .bool z.2] true true)
       simpa [hz] using this
      ·exact fun c hc => (hF4h c hc).imp id fun _ => by omega
      ·rw [List.append_nil]
       exact (E7.kp (keepS_set _ _ _) (fun b hb => .inl (by omega)) (fun c hc => .inl hc)).lo (by omega)
    | some e =>
     obtain ⟨lv, tv5, pv, rfl, P4⟩ := Q4
     obtain rfl := hsome (by simp)
     rw [if_neg (by simp)] at hpr2
     obtain ⟨la, ln, le, rfl⟩ := P4.1.shape
     obtain ⟨ta, tn, te, rfl⟩ := P4.2.1.shape
     obtain ⟨xa, xn, xe, rfl⟩ := P4.2.2.1.shape
     simp only [evV, evc, fltV, okF, go_sem, ↓reduceIte, e9, e10]
     generalize hq5 : LHeap.set _ (h4.size + 1) _ = h5
     have X5 : Ext h4 h5 := by rw [← hq5]; exact (((Ext.push _ _).trans (Ext.push _ _)).set (Nat.le_refl _) _).set (by omega) _
     have s5 : h5.size = h4.size + 2 := by rw [← hq5]; simp
     have g11 : h5.get h4.size = some (.cells (evp (e, (la, ln, le), (ta, tn, te), (xa, xn, xe))) true true) := by rw [← hq5]; simp [e9, evp, evc, slV]
     have g13 : h5.get (h4.size + 1) = some (.cells [.int .i64 0, .bool false] true true) := by rw [← hq5]; simp
     clear hq5
     refine MCall.by (sOKF okF) ?_
     rintro u h6 ⟨rfl, X6⟩
     have X46 := X5.trans X6
     have s6 := X6.size
     have g11' := (X6.get h4.size (by omega)).trans g11
     have g13' := (X6.get (h4.size + 1) (by omega)).trans g13
     have gf6 := (X46.get h.size (by omega)).trans gf4
     have I6 := I4.ext X46
     have gr6 := (X46.get rb (by omega)).trans gr4
     have KK6 := KK4.trans (Keep.of_ext (S := Foot3 rb ab FD) X46) fun i hi => .inl hi
     have E6 := E4.kp (Keep.of_ext (S := fun _ => False) X46) (fun b hb => hb.elim) (fun c hc => .inl hc)
     have hov : ∀ b, blkOf ov' = some b → b < h4.size := fun b hb => (E4.gl.blk hb).1
     obtain ⟨nv, h8, ha, G8, z8, g8, n8⟩ := gl_append evp_cel (q := EC.q) (by' := 112) E6.gl (e, (la, ln, le), (ta, tn, te), (xa, xn, xe)) (by omega) (by omega)
     simp only [evp, evc, slV] at ha g11'
     simp only [decide_true, go_sem, ↓reduceIte, g11', ha, w1]
     have Kg : Keep (fun b => blkOf ov' = some b) h6 h8 := ⟨z8, fun b hb hn => g8 b hb hn⟩
     have hRb : ∀ b, Foot3 rb ab FD4 b → blkOf ov' ≠ some b := fun b hb he => by
      have := E6.low b he
      rcases hb with q | q | q
      ·omega
      ·omega
      ·exact this.2 q
     have hov8 := fun b (hb : blkOf ov' = some b) => E6.low b hb
     have P8 : PayE h2.size FD4 h8 e (.slice la ln le) (.slice ta tn te) (.slice xa xn xe) := by
      have P6 := P4.kp (Keep.of_ext (S := fun _ => False) X46) (fun b _ hb => hb.elim) (fun c hc => .inl hc)
      have P8 := P6.kp (FD' := FD4) Kg (fun b hb he => by
       have h1 := (P4.2.2.2 b hb).1
       have h2 := (Ei.gl.blk he).1
       omega) (fun c hc => .inl hc)
      exact ⟨P8.1, P8.2.1, P8.2.2.1, fun b hb => ⟨by have := (P8.2.2.2 b hb).1; omega, (P8.2.2.2 b hb).2⟩⟩
     have hFD4l : ∀ c, FD4 c → c < h6.size := fun c hc => by have := I6.dw.lt hc; omega
     refine hJ _ _ _ (by omega) ⟨i + 1, FD4, tv4, esi ++ [e], psi ++ [(e, (la, ln, le), (ta, tn, te), (xa, xn, xe))], nv, r4, _, rfl, by omega, rfl, ?_, hF4h, htv4h, ?_, ⟨?_, G8, fun b hb => ⟨?_, fun hc => ?_⟩, fun q hq => ?_⟩, fun b hb he => by have := n8 b he; have := I4.am.text.lt hb; omega, by simp; omega, ha4, by rw [hpr, hpr2]; simp⟩
     ·exact I6.kp Kg (fun e => by have := (hov8 _ e).1; omega) (fun e => by have := (hov8 _ e).1; omega) (fun e => by have := (hov8 _ e).1; omega) (fun c hc e => (hov8 _ e).2 hc) (fun b hb e => by have := (hov8 _ e).1; have := I2.rs.wait.lt hb; omega) hto4
     ·exact KK6.trans Kg fun b hb => .inr (E6.low b hb).1
     ·rw [List.map_append, E6.fst]; rfl
     ·have := n8 b hb; omega
     ·have := n8 b hb; have := hFD4l b hc; omega
     ·rcases List.mem_append.1 hq with hq | hq
      ·refine ⟨(E6.pay q hq).1.kp Kg (fun b hb he => (E6.pay q hq).2 b hb he) (fun c hc => .inl hc), fun b hb he => ?_⟩
       have h1 := n8 b he
       rcases hb with hb | hb | hb
       ·have := ((E6.pay q hq).1.1.blk hb).1; omega
       ·have := (E6.pay q hq).1.2.1.lt hb; omega
       ·have := ((E6.pay q hq).1.2.2.1.blk hb).1; omega
      ·rw [List.mem_singleton.1 hq]
       refine ⟨P8, fun b hb he => ?_⟩
       have h1 := n8 b he
       rcases hb with hb | hb | hb
       ·have := (P4.1.blk hb).1; omega
       ·have := P4.2.1.lt hb; omega
       ·have := (P4.2.2.1.blk hb).1; omega
   ·have d1 : ¬ (i : Int) < (ps.length : Int) := by omega
    obtain rfl : i = ps.length := by omega
    simp only [go_sem, ↓reduceIte, d1, gfi]
    rw [show fs.drop ps.length = [] by rw [hps]; exact List.drop_length] at hpr
    simp only [procR, List.append_nil] at hpr
    rw [efeed, hpr]
    have Kf : Keep (Foot4 rb fb ab FD) h hh := K02.trans Ki fun c hc => .inl (by
     rcases hc with q | q | q
     ·exact .inl q
     ·exact .inr (.inr (.inl q))
     ·exact .inr (.inr (.inr q)))
    refine ⟨FDi, wv', tvi, Ii.set hn (by omega) (by omega) (fun hc => ?_) (fun e => by have := hwv _ e; omega) ?_ _, ?_, .inr fun b hb => by have := hwv b hb; omega, htvi.imp id fun q b hb => by have := q b hb; omega, Kf.trans (keepS_set _ _ _) fun i hi => .inr (by omega), ov', psi, rfl, ?_⟩
    ·rcases hFi _ hc with q | q
     ·have := hFDl _ q; omega
     ·omega
    ·intro e
     rcases htvi with q | q
     ·rw [q] at e; have := I.am.text.lt e; omega
     ·have := q _ e; omega
    ·exact fun c hc => (hFi c hc).imp id fun _ => by omega
    ·exact (Ei.kp (keepS_set _ _ _) (fun b hb => .inl (by omega)) (fun c hc => .inl hc)).lo (by omega)
end Go.E1

/-
 Layer 23: a reader, as the statements see it.
-/
namespace Go.E1
open Go Go.Proofs Go.M
set_option linter.unusedSimpArgs false

/-- A reader: M may be changed by it, F is all that it hangs on. -/
structure InW (h : LHeap) (rb : Nat) (s : Sd) (M F : Nat → Prop) : Prop where
 ex : ∃ fb ab db FD wv tv, Inb h rb fb ab db FD wv tv s ∧ M = Foot4 rb fb ab FD ∧ F = fun c => Foot4 rb fb ab FD c ∨ blkOf wv = some c ∨ blkOf tv = some c
 wait : s.wait.length < 16393
 text : s.rd.asm.text.length ≤ 16384
 big : s.big = true → s.dead = true
theorem InW.sub {h : LHeap} {rb : Nat} {s : Sd} {M F : Nat → Prop} (I : InW h rb s M F) : ∀ c, M c → F c := by
 obtain ⟨fb, ab, db, FD, wv, tv, I1, rfl, rfl⟩ := I.ex
 exact fun c hc => .inl hc
theorem InW.lt {h : LHeap} {rb : Nat} {s : Sd} {M F : Nat → Prop} (I : InW h rb s M F) : ∀ c, F c → c < h.size := by
 obtain ⟨fb, ab, db, FD, wv, tv, I1, rfl, rfl⟩ := I.ex
 rintro c ((rfl | rfl | rfl | hc) | hc | hc)
 ·exact I1.lt
 ·exact I1.rs.lt
 ·exact I1.am.lt
 ·exact I1.dw.lt hc
 ·exact I1.rs.wait.lt hc
 ·exact I1.am.text.lt hc
theorem InW.rb {h : LHeap} {rb : Nat} {s : Sd} {M F : Nat → Prop} (I : InW h rb s M F) : M rb := by
 obtain ⟨fb, ab, db, FD, wv, tv, I1, rfl, rfl⟩ := I.ex
 exact .inl rfl
theorem InW.keep {h h' : LHeap} {rb : Nat} {s : Sd} {M F G : Nat → Prop} (I : InW h rb s M F) (K : Keep G h h') (hn : ∀ c, F c → ¬ G c) : InW h' rb s M F := by
 obtain ⟨fb, ab, db, FD, wv, tv, I1, rfl, rfl⟩ := I.ex
 exact ⟨⟨fb, ab, db, FD, wv, tv, I1.kp K (hn _ (.inl (.inl rfl))) (hn _ (.inl (.inr (.inl rfl)))) (hn _ (.inl (.inr (.inr (.inl rfl))))) (fun c hc => hn c (.inl (.inr (.inr (.inr hc))))) (fun b hb => hn b (.inr (.inl hb))) (fun b hb => hn b (.inr (.inr hb))), rfl, rfl⟩, I.wait, I.text, I.big⟩
theorem InW.ext {h h' : LHeap} {rb : Nat} {s : Sd} {M F : Nat → Prop} (I : InW h rb s M F) (X : Ext h h') : InW h' rb s M F := I.keep (G := fun _ => False) (Keep.of_ext X) fun _ _ h => h
theorem InW.dead {h : LHeap} {rb : Nat} {s : Sd} {M F : Nat → Prop} (I : InW h rb s M F) : ∃ x y z w, rb < h.size ∧ h.get rb = some (.cells [x, y, z, w, .bool s.dead] true true) := by
 obtain ⟨fb, ab, db, FD, wv, tv, I1, rfl, rfl⟩ := I.ex
 exact ⟨_, _, _, _, I1.lt, I1.cells⟩
theorem EvL.imp {lo : Nat} {FD FD' : Nat → Prop} {h : LHeap} {v : Value} {es : List Ev} {ps : List EvP} (E : EvL lo FD h v es ps) (hi : ∀ c, FD' c → FD c ∨ c < lo) : EvL lo FD' h v es ps :=
 have h1 : ∀ b, (lo ≤ b ∧ ¬ FD b) → lo ≤ b ∧ ¬ FD' b := fun b hb => ⟨hb.1, fun hc => by
  rcases hi b hc with q | q
  ·exact hb.2 q
  ·omega⟩
 ⟨E.fst, E.gl, fun b hb => h1 b (E.low b hb), fun p hp => ⟨⟨(E.pay p hp).1.1, (E.pay p hp).1.2.1, (E.pay p hp).1.2.2.1, fun b hb => h1 b ((E.pay p hp).1.2.2.2 b hb)⟩, (E.pay p hp).2⟩⟩

theorem feedS_wait {s : Sd} {l : Bytes} (hw : s.wait.length < 16393) (ht : s.rd.asm.text.length ≤ 16384) (hb : s.big = true → s.dead = true) : (feedS s l).1.wait.length < 16393 ∧ (feedS s l).1.rd.asm.text.length ≤ 16384 ∧ ((feedS s l).1.big = true → (feedS s l).1.dead = true) := by
 unfold feedS
 by_cases c1 : s.dead = true
 ·rw [if_pos c1]; exact ⟨hw, ht, hb⟩
 ·rw [if_neg c1]
  by_cases c2 : s.big = true
  ·exact absurd (hb c2) c1
  ·rw [if_neg c2]
   cases hr : allF 16384 ((s.wait ++ l).length + 1) (s.wait ++ l) with
   | none => exact ⟨by simp, ht, fun _ => rfl⟩
   | some p =>
    obtain ⟨fs, rest⟩ := p
    obtain ⟨_, h2, _⟩ := allB_spec _ _ fs rest (Nat.le_refl _) hr
    exact ⟨by show rest.length < _; omega, procR_asm fs ht, fun h => by cases h⟩

theorem wFeedI {h : LHeap} {rb : Nat} {s : Sd} {M F : Nat → Prop} (I : InW h rb s M F) {v : Value} {l : Bytes} (B : BytesAt h v l) (hl : l.length < 900000) :
  LCalls EC 41 [.pointer (some ⟨rb, 0, none⟩), v] h fun u h' => ∃ M' F', InW h' rb (feedS s l).1 M' F' ∧ (∀ c, M' c → M c ∨ h.size ≤ c) ∧ (∀ c, F' c → F c ∨ h.size ≤ c) ∧ Keep M h h' ∧ FeedQ h.size M' h' (feedS s l).2.1 (feedS s l).2.2 u := by
 obtain ⟨fb, ab, db, FD, wv, tv, I1, rfl, rfl⟩ := I.ex
 refine (sFeedI I1 B (by have := I.wait; omega) I.text I.big).mono fun u h' ⟨FD', wv', tv', I', hF, hw, ht, K, ov, ps, hu, E⟩ => ?_
 obtain ⟨h1, h2, h3⟩ := feedS_wait (l := l) I.wait I.text I.big
 have hM : ∀ c, Foot4 rb fb ab FD' c → Foot4 rb fb ab FD c ∨ h.size ≤ c := by
  rintro c (q | q | q | q)
  ·exact .inl (.inl q)
  ·exact .inl (.inr (.inl q))
  ·exact .inl (.inr (.inr (.inl q)))
  ·exact (hF c q).imp (fun q => .inr (.inr (.inr q))) id
 refine ⟨_, _, ⟨⟨fb, ab, db, FD', wv', tv', I', rfl, rfl⟩, h1, h2, h3⟩, hM, ?_, K, ov, ps, hu, E.imp ?_⟩
 ·rintro c (q | q | q)
  ·exact (hM c q).imp .inl id
  ·rcases hw with e | e
   ·rw [e] at q; exact .inl (.inr (.inl q))
   ·exact .inr (e c q)
  ·rcases ht with e | e
   ·rw [e] at q; exact .inl (.inr (.inr q))
   ·exact .inr (e c q)
 ·have a1 := I1.lt
  have a2 := I1.rs.lt
  have a3 := I1.am.lt
  rintro c (rfl | rfl | rfl | q)
  ·exact .inr a1
  ·exact .inr a2
  ·exact .inr a3
  ·exact .inl q

theorem wDeadI {h : LHeap} {rb : Nat} {s : Sd} {M F : Nat → Prop} (I : InW h rb s M F) : LCalls EC 40 [.pointer (some ⟨rb, 0, none⟩)] h fun u h' => u = .bool s.dead ∧ h' = h := by
 refine LCalls.enter (lf := lf40) rfl rfl (by simp [lf40]) ?_
 obtain ⟨x, y, z, w, hlt, g⟩ := I.dead
 simp only [go_sem, lf40, ↓reduceIte, g]
theorem wWaitI {h : LHeap} {rb : Nat} {s : Sd} {M F : Nat → Prop} (I : InW h rb s M F) : LCalls EC 43 [.pointer (some ⟨rb, 0, none⟩)] h fun u h' => u = .int .i64 ((s.wait.length + s.rd.asm.text.length : Nat) : Int) ∧ h' = h := by
 refine LCalls.enter (lf := lf43) rfl rfl (by simp [lf43]) ?_
 obtain ⟨fb, ab, db, FD, wv, tv, I1, rfl, rfl⟩ := I.ex
 have g := I1.cells
 have h1 := I.wait
 have h2 := I.text
 simp only [rbc] at g
 have w1 : IntKind.i64.wrap ((s.wait.length : Int) + (s.rd.asm.text.length : Int)) = ((s.wait.length + s.rd.asm.text.length : Nat) : Int) := by rw [IntWalk.i64_in _ (by omega)]; omega
 simp only [go_sem, lf43, ↓reduceIte, g]
 refine MC.dregion ?_
 simp only [go_sem, ↓reduceIte, g]
 refine MDCall.by (sWaitR I1.rs) ?_
 rintro u h2 ⟨rfl, rfl⟩
 simp only [go_sem, ↓reduceIte, g]
 refine MDCall.by (sWaitA I1.am) ?_
 rintro u h3 ⟨rfl, rfl⟩
 simp only [go_sem, ↓reduceIte, g, w1]
def sd0 : Sd := ⟨[], false, ⟨⟨false, 0, [], false⟩, ⟨⟨[], 0⟩, false⟩, false⟩, false⟩
theorem wNewI {h : LHeap} : LCalls EC 38 [] h fun u h' => ∃ rb M F, u = .pointer (some ⟨rb, 0, none⟩) ∧ InW h' rb sd0 M F ∧ Ext h h' ∧ (∀ c, F c → h.size ≤ c) := by
 refine LCalls.enter (lf := lf38) rfl rfl (by simp [lf38]) ?_
 simp only [go_sem, lf38, ↓reduceIte]
 generalize hq : h.push _ = h1
 have X1 : Ext h h1 := by rw [← hq]; exact Ext.push _ _
 have g1 : h1.get h.size = some (.cells [.pointer none, .pointer none, .pointer none, .bool false, .bool false] true true) := by rw [← hq]; simp
 have s1 : h1.size = h.size + 1 := by rw [← hq]; simp
 clear hq
 refine MCall.by sNewR ?_
 rintro u h2 ⟨rfl, R2, X2⟩
 have s2 := X2.size
 have r2 := R2.lt
 have g2 := (X2.get h.size (by omega)).trans g1
 simp only [go_sem, ↓reduceIte, g2]
 generalize hq : h2.set _ _ = h3
 have U3 : Upd h.size h2 h3 := by rw [← hq]; exact Upd.set _ _ _
 have g3 : h3.get h.size = some (.cells [.pointer (some ⟨h1.size, 0, none⟩), .pointer none, .pointer none, .bool false, .bool false] true true) := by rw [← hq]; simp
 clear hq
 have s3 := U3.size
 refine MCall.by sNewA ?_
 rintro u h4 ⟨rfl, A4, X4⟩
 have s4 := X4.size
 have r4 := A4.lt
 have g4 := (X4.get h.size (by omega)).trans g3
 simp only [go_sem, ↓reduceIte, g4]
 generalize hq : h4.set _ _ = h5
 have U5 : Upd h.size h4 h5 := by rw [← hq]; exact Upd.set _ _ _
 have g5 : h5.get h.size = some (.cells [.pointer (some ⟨h1.size, 0, none⟩), .pointer (some ⟨h3.size, 0, none⟩), .pointer none, .bool false, .bool false] true true) := by rw [← hq]; simp
 clear hq
 have s5 := U5.size
 refine MCall.by (wNew (most := 0) (bound := 16384) (by omega) (by omega)) ?_
 rintro u h6 ⟨d, FD, rfl, D6, X6, hFD⟩
 have s6 := X6.size
 have g6 := (X6.get h.size (by omega)).trans g5
 simp only [go_sem, ↓reduceIte, g6]
 have U7 : Upd h.size h6 (h6.set h.size (.cells [.pointer (some ⟨h1.size, 0, none⟩), .pointer (some ⟨h3.size, 0, none⟩), .pointer (some ⟨d, 0, none⟩), .bool false, .bool false] true true)) := Upd.set _ _ _
 have s7 := U7.size
 have gR := (U7.get h1.size (by omega)).trans ((X6.get h1.size (by omega)).trans ((U5.get h1.size (by omega)).trans ((X4.get h1.size (by omega)).trans ((U3.get h1.size (by omega)).trans R2.cells))))
 have gA := (U7.get h3.size (by omega)).trans ((X6.get h3.size (by omega)).trans ((U5.get h3.size (by omega)).trans A4.cells))
 have I : Inb (h6.set h.size (.cells [.pointer (some ⟨h1.size, 0, none⟩), .pointer (some ⟨h3.size, 0, none⟩), .pointer (some ⟨d, 0, none⟩), .bool false, .bool false] true true)) h.size h1.size h3.size d FD (.slice none 0 0) (.slice none 0 0) sd0 :=
  ⟨by omega, by simp [rbc, sd0], ⟨by omega, gR, .inl ⟨rfl, 0, rfl⟩, by simp⟩, ⟨by omega, gA, .inl ⟨rfl, 0, rfl⟩, by simp⟩, D6.keep (keepS_set _ _ _) (fun c hc e => by have := hFD c hc; omega),
   {n1 := by omega, n2 := by omega, n3 := by omega, f1 := fun hc => by have := hFD _ hc; omega, f2 := fun hc => by have := hFD _ hc; omega, f3 := fun hc => by have := hFD _ hc; omega, w := (fun b e => by cases e), t := (fun b e => by cases e) }⟩
 refine ⟨h.size, _, _, rfl, ⟨⟨_, _, _, _, _, _, I, rfl, rfl⟩, by simp [sd0], by simp [sd0], by simp [sd0]⟩, ⟨by have := X1.size; omega, fun b hb => ?_⟩, ?_⟩
 ·rw [U7.get b (by omega), X6.get b (by omega), U5.get b (by omega), X4.get b (by omega), U3.get b (by omega), X2.get b (by omega), X1.get b hb]
 ·rintro c ((rfl | rfl | rfl | q) | q | q)
  ·omega
  ·omega
  ·omega
  ·have := hFD c q; omega
  ·cases q
  ·cases q
end Go.E1
