/-
 Layer 23: InboundCopies.
-/
import Derived.Test.YtdbjklgnhbmlaaaGreatKr
namespace Go.E1
open Go Go.Proofs Go.M
set_option linter.unusedSimpArgs false

theorem MC.cutk {E : Env} {c : LCode} {id : Nat} {k : Cont} {fr : Fr} {h : LHeap} {Q : Value → LHeap → Prop} (J : Fr → LHeap → Prop) (w : MC E c (.block id (.inv J k)) fr h Q) (hb : ∀ fr h, J fr h → MK E .normal k fr h Q) : MC E c (.block id k) fr h Q :=
 w.cont (kont_block fun x fr h w => by
  cases x with
  | normal => exact hb fr h w
  | exit j => exact w
  | ret => exact w)
theorem wCopyI {h : LHeap} {rb fb ab db : Nat} {FD : Nat → Prop} {wv tv : Value} {s : Sd} (I : Inb h rb fb ab db FD wv tv s) (hw : s.wait.length < 16393) (ht : s.rd.asm.text.length ≤ 16384) :
  LCalls EC 47 [.pointer (some ⟨rb, 0, none⟩)] h fun u h' => ∃ rb' fb' ab' db' FD' wv' tv', u = .pointer (some ⟨rb', 0, none⟩) ∧ Inb h' rb' fb' ab' db' FD' wv' tv' s ∧ Ext h h' ∧
   (∀ c, Foot4 rb' fb' ab' FD' c → h.size ≤ c) ∧ (∀ b, blkOf wv' = some b → h.size ≤ b) ∧ (∀ b, blkOf tv' = some b → h.size ≤ b) := by
 refine LCalls.enter (lf := lf47) rfl rfl (by simp [lf47]) ?_
 have g := I.cells
 simp only [rbc] at g
 simp only [go_sem, lf47, ↓reduceIte]
 refine MC.dregion ?_
 simp only [go_sem, ↓reduceIte, g]
 refine MDCall.by (sCopyR I.rs (by omega)) ?_
 rintro u h2 ⟨fb', wv', rfl, l2, R2, w2, X2⟩
 have g2 := (X2.get rb I.lt).trans g
 have s2 := X2.size
 have r2 := R2.lt
 simp only [go_sem, ↓reduceIte, g2, g, veq, Bool.and_self, beq_self_eq_true]
 refine MDCall.by (sCopyA (I.am.ext X2) (by omega)) ?_
 rintro u h3 ⟨tv', rfl, A3, t3, X3⟩
 have g3 := (X3.get rb (Nat.lt_of_lt_of_le I.lt s2)).trans g2
 have s3 := X3.size
 have r3 := A3.lt
 simp only [go_sem, ↓reduceIte, g3, g2, g, veq, Bool.and_self, beq_self_eq_true]
 refine MDCall.by (wCopy ((I.dw.ext X2).ext X3)) ?_
 rintro u h4 ⟨d', F', rfl, D4, X4, hF⟩
 have g4 := (X4.get rb (Nat.lt_of_lt_of_le I.lt (Nat.le_trans s2 s3))).trans g3
 have s4 := X4.size
 simp only [go_sem, ↓reduceIte, g4, g3, g2, g, veq, Bool.and_self, beq_self_eq_true]
 have Xp : Ext h4 (h4.push (.cells (rbc fb' h2.size d' s.rd.begun s.dead) true true)) := Ext.push _ _
 have hwl := fun b (hb : blkOf wv' = some b) => R2.wait.lt hb
 have htl := fun b (hb : blkOf tv' = some b) => A3.text.lt hb
 have hdl := fun c hc => D4.lt (c := c) hc
 refine ⟨h4.size, fb', h2.size, d', F', wv', tv', rfl, ⟨by simp, by simp [rbc], ((R2.ext X3).ext X4).ext Xp, (A3.ext X4).ext Xp, D4.ext Xp,
  {n1 := by omega, n2 := by omega, n3 := by omega, f1 := fun hc => by have := hdl _ hc; omega, f2 := fun hc => by have := hF _ hc; omega, f3 := fun hc => by have := hF _ hc; omega,
   w := fun b e => ⟨by have := hwl b e; omega, fun q => R2.ne (q ▸ e), by have := hwl b e; omega, fun hc => by have := hF _ hc; have := hwl b e; omega⟩,
   t := fun b e => ⟨by have := htl b e; omega, by have := t3 b e; omega, fun q => A3.ne (q ▸ e), fun hc => by have := hF _ hc; have := htl b e; omega⟩ }⟩,
  ((X2.trans X3).trans X4).trans Xp, ?_, w2, fun b hb => by have := t3 b hb; omega⟩
 rintro c (rfl | rfl | rfl | hc)
 ·omega
 ·omega
 ·omega
 ·have := hF _ hc; omega
theorem fCopyI {z : Snap} {h : LHeap} {rs : List Res} {rb : Nat} {s : Sd} (S : Sat z h (inb rb s :: rs)) : LCalls EC 47 [.pointer (some ⟨rb, 0, none⟩)] h fun u h' => ∃ z' cb, z.le z' ∧ u = .pointer (some ⟨cb, 0, none⟩) ∧ Sat z' h' (inb cb s :: inb rb s :: rs) := by
 obtain ⟨M, fb, ab, db, FD, wv, tv, I, hA, zw, zt, h1, h2, h3⟩ := S.head
 refine (wCopyI I h1 h2).mono fun u h' ⟨rb', fb', ab', db', FD', wv', tv', hu, I', X, hF, hw, ht⟩ => ?_
 obtain ⟨z', le, hz', fin⟩ := S.new X (Foot4 rb' fb' ab' FD') fun c hc => ⟨hF c hc, I'.flt c hc⟩
 refine ⟨z', rb', le, hu, fin [inb rb' s] (inb_P I' (I'.rs.wait.zz fun b hb hlt => ?_) (I'.am.text.zz fun b hb hlt => ?_) h1 h2 h3)⟩
 ·obtain ⟨q1, q2, q3, q4⟩ := I'.ap.w b hb
  refine hz' b (hw b hb) hlt ?_
  rintro (q | q | q | q)
  ·exact q1 q
  ·exact q2 q
  ·exact q3 q
  ·exact q4 q
 ·obtain ⟨q1, q2, q3, q4⟩ := I'.ap.t b hb
  refine hz' b (ht b hb) hlt ?_
  rintro (q | q | q | q)
  ·exact q1 q
  ·exact q2 q
  ·exact q3 q
  ·exact q4 q

def stepA (a : Sd × List Ev) (c : Bytes) : Sd × List Ev := ((feedS a.1 c).1, a.2 ++ (feedS a.1 c).2.1)
theorem stepA_pre : ∀ (cs : List Bytes) (a : Sd × List Ev), ∃ t, (cs.foldl stepA a).2 = a.2 ++ t
 | [], a => ⟨[], by simp⟩
 | c :: cs, a => by
  obtain ⟨t, ht⟩ := stepA_pre cs (stepA a c)
  exact ⟨(feedS a.1 c).2.1 ++ t, by rw [List.foldl_cons, ht]; simp [stepA]⟩
theorem feedS_cnt (s : Sd) (b : Bytes) : 9 * (feedS s b).2.1.length ≤ s.wait.length + b.length := by
 unfold feedS
 by_cases c1 : s.dead = true
 ·rw [if_pos c1]; simp
 ·rw [if_neg c1]
  by_cases c2 : s.big = true
  ·rw [if_pos c2]; simp
  ·rw [if_neg c2]
   cases hr : allF 16384 ((s.wait ++ b).length + 1) (s.wait ++ b) with
   | none => simp
   | some p =>
    obtain ⟨fs, rest⟩ := p
    have h1 := (allB_spec _ _ fs rest (Nat.le_refl _) hr).1
    have h2 := procR_len fs s.rd
    rw [List.length_append] at h1
    show 9 * (procR s.rd fs).2.1.length ≤ _
    omega
theorem Sat.bnd {z : Snap} {h : LHeap} {rs : List Res} {rb : Nat} {s : Sd} (S : Sat z h rs) (i : Nat) (e : rs[i]? = some (Go.E1.inb rb s)) : s.wait.length < 16393 := by
 obtain ⟨M, fb, ab, db, FD, wv, tv, I, hA, zw, zt, h1, h2, h3⟩ := Sat.at i S e
 exact h1
/-- A frame of a list that came in. -/
theorem frame_at {z : Snap} {h : LHeap} {rs : List Res} {v : Value} {l : List RF} (zv : zL 4 rfc z v l) (S : Sat z h rs) (zb : ∀ r ∈ l, zB z (slV r.2.1) r.2.2) (hr : ∀ x ∈ l, rightR x = true) (hs : sumR l ≤ 600) {i : Nat} (hi : i < l.length) :
  ∃ b t r n1 n2 n3 p1 p2 p3 pl cs, v = .slice (some ⟨b, 0, none⟩) l.length 4 ∧ b < h.size ∧ h.get b = some (.cells cs t r) ∧ (cs.drop (i * 4)).take 4 = [.int .i64 (n1 : Nat), .int .i64 (n2 : Nat), .int .i64 (n3 : Nat), .slice p1 p2 p3] ∧ i * 4 + 4 ≤ cs.length ∧
   zB z (.slice p1 p2 p3) pl ∧ frOk ⟨n1, n2, n3, pl⟩ ∧ pl.length ≤ 600 ∧ (l.map fun r => frBytes (toF r))[i]? = some (frBytes ⟨n1, n2, n3, pl⟩) := by
 obtain ⟨x, hx⟩ : ∃ x, l[i]? = some x := ⟨l[i], by simp [hi]⟩
 obtain ⟨b, t, r, hv, g1, g2⟩ := zv.at S hx
 obtain ⟨k1, k2⟩ := rfc_cel.get hx
 have hxm := List.mem_of_getElem? hx
 obtain ⟨hxok, e1, e2, e3⟩ := toF_ok (hr x hxm)
 have hxs := sumR_mem hxm
 have hxb := zb x hxm
 obtain ⟨⟨a1, a2, a3⟩, ⟨p1, p2, p3⟩, pl⟩ := x
 simp only at e1 e2 e3 hxs
 obtain ⟨n1, rfl⟩ : ∃ n : Nat, a1 = n := ⟨_, e1⟩
 obtain ⟨n2, rfl⟩ : ∃ n : Nat, a2 = n := ⟨_, e2⟩
 obtain ⟨n3, rfl⟩ : ∃ n : Nat, a3 = n := ⟨_, e3⟩
 have hF : toF (((n1 : Int), (n2 : Int), (n3 : Int)), (p1, p2, p3), pl) = ⟨n1, n2, n3, pl⟩ := by simp [toF]
 rw [hF] at hxok
 exact ⟨b, t, r, n1, n2, n3, p1, p2, p3, pl, _, hv, g1, g2, k1, k2, hxb, hxok, by omega, by rw [List.getElem?_map, hx, Option.map_some, hF]⟩

theorem sCopies {h : LHeap} {v w : Value} {l ms : List RF} (V : SL 4 rfc h v l) (hb : ∀ r ∈ l, BytesAt h (slV r.2.1) r.2.2 ∧ r.2.2.length ≤ reachBytes) (hl : l.length * 48 ≤ reachBytes) (W : SL 4 rfc h w ms) (hb2 : ∀ r ∈ ms, BytesAt h (slV r.2.1) r.2.2 ∧ r.2.2.length ≤ reachBytes) (hl2 : ms.length * 48 ≤ reachBytes) :
  LCalls EC 12 [v, w] h fun u _ => u = .bool true := by
 refine LCalls.enter (lf := lf12) rfl rfl (by simp [lf12]) ?_
 simp only [go_sem, lf12, ↓reduceIte]
 refine MCall.by (fNewI (sat0 h)) ?_
 rintro u h1 ⟨z1, q, le1, rfl, S1⟩
 have zv := V.z0.mono le1
 have zw := W.z0.mono le1
 have zb := fun r hr => ((hb r hr).1.z0).mono le1
 have zb2 := fun r hr => ((hb2 r hr).1.z0).mono le1
 have eV := fun hh : LHeap => zv.len (q := EC.q) (h := hh)
 have eW := fun hh : LHeap => zw.len (q := EC.q) (h := hh)
 simp only [go_sem, ↓reduceIte]
 refine MCall.by (sSmall (zv.sl S1) (fun r hr => ⟨(zb r hr).at S1, (hb r hr).2⟩) hl) ?_
 rintro u h2 ⟨⟨r, rfl, hr⟩, X2⟩
 have S2 := S1.ext X2
 cases r with
 | false => simp only [go_sem, ↓reduceIte]
 | true =>
  obtain ⟨hright, hsum⟩ := hr rfl
  have hlen := sumR_len l
  simp only [go_sem, ↓reduceIte]
  refine MCall.by (sSmall (zw.sl S2) (fun r hr => ⟨(zb2 r hr).at S2, (hb2 r hr).2⟩) hl2) ?_
  rintro u h3 ⟨⟨r, rfl, hr⟩, X3⟩
  have S3 := S2.ext X3
  cases r with
  | false => simp only [go_sem, ↓reduceIte]
  | true =>
   obtain ⟨hright2, hsum2⟩ := hr rfl
   have hlen2 := sumR_len ms
   simp only [go_sem, ↓reduceIte, eV]
   obtain ⟨bl, hbl⟩ : ∃ bl, bl = ms.map fun r => frBytes (toF r) := ⟨_, rfl⟩
   have hbll : bl.length = ms.length := by rw [hbl]; simp
   refine MC.cutb (fun fr hh => ∃ z' s tl, z1.le z' ∧ fr = (1, w) :: (5, .pointer (some ⟨q, 0, none⟩)) :: tl ∧ Sat z' hh [inb q s]) ?_ ?_
   ·refine MC.loop (fun m fr hh => ∃ i z' s, m = l.length - i ∧ i ≤ l.length ∧ z1.le z' ∧ fr = [(1, w), (5, .pointer (some ⟨q, 0, none⟩)), (47, v), (48, .int .i64 (l.length : Nat)), (49, .int .i64 (i : Nat))] ∧ Sat z' hh [inb q s]) l.length
     ⟨0, z1, sd0, rfl, Nat.zero_le _, Snap.refl _, rfl, S3⟩ ?_
    rintro m fr hh J ⟨i, z', s, rfl, hi, hz, rfl, S⟩ hJ
    by_cases hlt : i < l.length
    ·obtain ⟨b, t, r, n1, n2, n3, p1, p2, p3, pl, cs, hv, g1, g2, k1, k2, hxb, hxok, hpl, _⟩ := frame_at (zv.mono hz) S (fun r hr => (zb r hr).mono hz) hright hsum hlt
     have c0 : (0 : Int) ≤ (i : Int) := by omega
     have c1 : (i : Int) < (l.length : Int) := by omega
     have hnb : ¬ b = hh.size := by omega
     have w3 : IntKind.i64.wrap ((i : Int) + 1) = ((i + 1 : Nat) : Int) := by rw [IntWalk.i64_in _ (by omega)]; omega
     simp only [go_sem, ↓reduceIte, c0, c1, Int.toNat_natCast, hv, g2, k1, k2, hnb]
     have S5 := (S.push [.int .i64 0, .int .i64 0, .int .i64 0, .slice none 0 0]).set 0 rfl [.int .i64 (n1 : Nat), .int .i64 (n2 : Nat), .int .i64 (n3 : Nat), .slice p1 p2 p3]
     generalize hq : LHeap.set _ hh.size _ = h5 at *
     clear hq
     refine MCall.by (fBytes (f := ⟨n1, n2, n3, pl⟩) S5.drop hxb hxok (by show pl.length ≤ _; omega)) ?_
     rintro u h6 ⟨z6, bv6, le6, rfl, B6, S6⟩
     simp only [go_sem, ↓reduceIte]
     refine MCall.by (fFeedI S6 B6 (by rw [frBytes_len]; show 9 + pl.length < _; omega)) ?_
     rintro u h9 ⟨z9, ov, qs, le9, rfl, E9, S9⟩
     simp only [go_sem, ↓reduceIte, w3]
     exact hJ _ _ _ (by omega) ⟨i + 1, z9, _, rfl, by omega, hz.trans (le6.trans le9), by rw [hv], S9⟩
    ·have c1 : ¬ (i : Int) < (l.length : Int) := by omega
     simp only [go_sem, ↓reduceIte, c1]
     exact ⟨z', s, _, hz, rfl, S⟩
   ·rintro fr hh ⟨z4, s, tl, hz4, rfl, S4⟩
    simp only [go_sem, ↓reduceIte]
    refine MCall.by (fCopyI S4) ?_
    rintro u h5 ⟨z5, c, le5, rfl, S5⟩
    simp only [go_sem, ↓reduceIte]
    refine MCall.by (fDeadI S5 0 rfl) ?_
    rintro u h5' ⟨rfl, rfl⟩
    simp only [go_sem, ↓reduceIte]
    refine MCall.by (fDeadI S5 1 rfl) ?_
    rintro u h5' ⟨rfl, rfl⟩
    have eD : (s.dead == s.dead) = true := by simp
    simp only [go_sem, ↓reduceIte, eD]
    refine MCall.by (fWaitI S5 1 rfl) ?_
    rintro u h5' ⟨rfl, rfl⟩
    simp only [go_sem, ↓reduceIte]
    refine MCall.by (fDeadI S5 1 rfl) ?_
    rintro u h5' ⟨rfl, rfl⟩
    simp only [go_sem, ↓reduceIte, eW]
    have hz5 := hz4.trans le5
    refine MC.cutb (fun fr hh => ∃ z' gv ps s' tl, z5.le z' ∧ fr = (1, w) :: (5, .pointer (some ⟨q, 0, none⟩)) :: (10, .pointer (some ⟨c, 0, none⟩)) :: (11, .int .i64 ((s.wait.length + s.rd.asm.text.length : Nat) : Int)) :: (12, .bool s.dead) :: (13, gv) :: tl ∧
     Sat z' hh [ownL 8 evp gv ps, inb c s', inb q s] ∧ (∀ p ∈ ps, zPay z' p) ∧ (s', ps.map (·.1)) = bl.foldl stepA (s, []) ∧ ps.length ≤ 2000000) ?_ ?_
    ·refine MC.loop (fun m fr hh => ∃ i z' gv ps s', m = ms.length - i ∧ i ≤ ms.length ∧ z5.le z' ∧ fr = [(1, w), (5, .pointer (some ⟨q, 0, none⟩)), (10, .pointer (some ⟨c, 0, none⟩)), (11, .int .i64 ((s.wait.length + s.rd.asm.text.length : Nat) : Int)), (12, .bool s.dead), (13, gv), (77, w), (78, .int .i64 (ms.length : Nat)), (79, .int .i64 (i : Nat))] ∧
      Sat z' hh [ownL 8 evp gv ps, inb c s', inb q s] ∧ (∀ p ∈ ps, zPay z' p) ∧ (bl.drop i).foldl stepA (s', ps.map (·.1)) = bl.foldl stepA (s, []) ∧ ps.length ≤ i * 2000) ms.length
      ⟨0, z5, .slice none 0 0, [], s, rfl, Nat.zero_le _, Snap.refl _, rfl, Sat.ownL0 S5, by simp, by simp, by simp⟩ ?_
     rintro m fr hh J ⟨i, z', gv, ps, s', rfl, hi, hz, rfl, S, hps, hfold, hcnt⟩ hJ
     by_cases hlt : i < ms.length
     ·obtain ⟨b, t, r, n1, n2, n3, p1, p2, p3, pl, cs, hv, g1, g2, k1, k2, hxb, hxok, hpl, hbi⟩ := frame_at (zw.mono (hz5.trans hz)) S (fun r hr => (zb2 r hr).mono (hz5.trans hz)) hright2 hsum2 hlt
      rw [← hbl] at hbi
      have hdrop : bl.drop i = frBytes ⟨n1, n2, n3, pl⟩ :: bl.drop (i + 1) := by
       rw [List.drop_eq_getElem_cons (by omega)]
       congr 1
       rw [List.getElem?_eq_getElem (by omega)] at hbi
       exact Option.some.inj hbi
      have c0 : (0 : Int) ≤ (i : Int) := by omega
      have c1 : (i : Int) < (ms.length : Int) := by omega
      have hnb : ¬ b = hh.size := by omega
      have w3 : IntKind.i64.wrap ((i : Int) + 1) = ((i + 1 : Nat) : Int) := by rw [IntWalk.i64_in _ (by omega)]; omega
      simp only [go_sem, ↓reduceIte, c0, c1, Int.toNat_natCast, hv, g2, k1, k2, hnb]
      have S6 := (S.push [.int .i64 0, .int .i64 0, .int .i64 0, .slice none 0 0]).set 0 rfl [.int .i64 (n1 : Nat), .int .i64 (n2 : Nat), .int .i64 (n3 : Nat), .slice p1 p2 p3]
      generalize hq : LHeap.set _ hh.size _ = h6 at *
      clear hq
      refine MCall.by (fBytes (f := ⟨n1, n2, n3, pl⟩) S6.drop hxb hxok (by show pl.length ≤ _; omega)) ?_
      rintro u h7 ⟨z7, bv7, le7, rfl, B7, S7⟩
      simp only [go_sem, ↓reduceIte]
      have hc1 := feedS_cnt s' (frBytes ⟨n1, n2, n3, pl⟩)
      have hc2 := S7.bnd 1 rfl
      rw [frBytes_len] at hc1
      refine MCall.by (fFeedI (S7.ordN 3 [1, 0, 2] (by decide)) B7 (by rw [frBytes_len]; show 9 + pl.length < _; omega)) ?_
      rintro u h9 ⟨z9, ov, qs, le9, rfl, E9, S9⟩
      rw [hdrop, List.foldl_cons, stepA] at hfold
      simp only at hfold hc1
      generalize feedS s' (frBytes ⟨n1, n2, n3, pl⟩) = R at *
      obtain ⟨s'', es, fz⟩ := R
      simp only at E9 hfold hc1
      rw [← E9.1, List.length_map] at hc1
      have S10 := (S9.push [.int .i64 0, .bool false]).set 0 rfl [.int .i64 (fz.1 : Nat), .bool fz.2]
      simp only [fltV, go_sem, ↓reduceIte]
      generalize hq : LHeap.set _ h9.size _ = h10 at *
      clear hq
      obtain ⟨gv', h11, eb, S11⟩ := Sat.app evp_cel (q := EC.q) (by' := 112) (S10.ordN 4 [2, 1, 3] (by decide)) (E9.2.1.first evp_cel S10) (by omega) (by omega)
      simp only [go_sem, ↓reduceIte, eb, w3]
      refine hJ _ _ _ (by omega) ⟨i + 1, z9, gv', ps ++ qs, s'', rfl, by omega, hz.trans (le7.trans le9), by rw [hv], S11, ?_, by rw [List.map_append, E9.1]; exact hfold, by rw [List.length_append]; omega⟩
      intro p hp
      rcases List.mem_append.1 hp with hp | hp
      ·exact (hps p hp).mono (le7.trans le9)
      ·exact E9.2.2 p hp
     ·have c1 : ¬ (i : Int) < (ms.length : Int) := by omega
      obtain rfl : i = ms.length := by omega
      simp only [go_sem, ↓reduceIte, c1]
      rw [← hbll, List.drop_length] at hfold
      exact ⟨z', gv, ps, s', _, hz, rfl, S, hps, hfold, by omega⟩
    ·rintro fr hh ⟨z6, gv, ps, s', tl, hz6, rfl, S6, hps, hall, hpn⟩
     obtain ⟨z7, le7, zgv, S7⟩ := S6.freeze
     have eWt : (((s.wait.length + s.rd.asm.text.length : Nat) : Int) != ((s.wait.length + s.rd.asm.text.length : Nat) : Int)) = false := by simp
     simp only [go_sem, ↓reduceIte]
     refine MCall.by (fWaitI S7 1 rfl) ?_
     rintro u h7' ⟨rfl, rfl⟩
     simp only [go_sem, ↓reduceIte, eWt]
     refine MCall.by (fDeadI S7 1 rfl) ?_
     rintro u h7' ⟨rfl, rfl⟩
     simp only [go_sem, ↓reduceIte, eD, eW]
     have hz7 := (hz5.trans hz6).trans le7
     have hsz : ∀ p ∈ ps, zPay z7 p := fun p hp => (hps p hp).mono le7
     have eG := fun h' : LHeap => zgv.len (q := EC.q) (h := h')
     refine MC.cutb (fun fr hh => ∃ z' tl, fr = (5, .pointer (some ⟨q, 0, none⟩)) :: (10, .pointer (some ⟨c, 0, none⟩)) :: (13, gv) :: (20, .int .i64 (ps.length : Nat)) :: tl ∧ Sat z' hh [inb q s', inb c s']) ?_ ?_
     ·refine MC.loop (fun m fr hh => ∃ i z' sr es, m = ms.length - i ∧ i ≤ ms.length ∧ z7.le z' ∧ fr = [(5, .pointer (some ⟨q, 0, none⟩)), (10, .pointer (some ⟨c, 0, none⟩)), (13, gv), (20, .int .i64 ((es : List Ev).length : Nat)), (108, w), (109, .int .i64 (ms.length : Nat)), (110, .int .i64 (i : Nat))] ∧
       Sat z' hh [inb q sr, inb c s'] ∧ (bl.drop i).foldl stepA (sr, es) = (s', ps.map (·.1))) ms.length
       ⟨0, z7, s, [], rfl, Nat.zero_le _, Snap.refl _, rfl, S7.ordN 2 [1, 0] (by decide), by simp [hall]⟩ ?_
      rintro m fr hh J ⟨i, z', sr, es, rfl, hi, hz, rfl, S, hfold⟩ hJ
      by_cases hlt : i < ms.length
      ·obtain ⟨b, t, r, n1, n2, n3, p1, p2, p3, pl, cs, hv, g1, g2, k1, k2, hxb, hxok, hpl, hbi⟩ := frame_at (zw.mono (hz7.trans hz)) S (fun r hr => (zb2 r hr).mono (hz7.trans hz)) hright2 hsum2 hlt
       rw [← hbl] at hbi
       have hdrop : bl.drop i = frBytes ⟨n1, n2, n3, pl⟩ :: bl.drop (i + 1) := by
        rw [List.drop_eq_getElem_cons (by omega)]
        congr 1
        rw [List.getElem?_eq_getElem (by omega)] at hbi
        exact Option.some.inj hbi
       have c0 : (0 : Int) ≤ (i : Int) := by omega
       have c1 : (i : Int) < (ms.length : Int) := by omega
       have hnb : ¬ b = hh.size := by omega
       have w3 : IntKind.i64.wrap ((i : Int) + 1) = ((i + 1 : Nat) : Int) := by rw [IntWalk.i64_in _ (by omega)]; omega
       simp only [go_sem, ↓reduceIte, c0, c1, Int.toNat_natCast, hv, g2, k1, k2, hnb]
       have S8 := (S.push [.int .i64 0, .int .i64 0, .int .i64 0, .slice none 0 0]).set 0 rfl [.int .i64 (n1 : Nat), .int .i64 (n2 : Nat), .int .i64 (n3 : Nat), .slice p1 p2 p3]
       generalize hq : LHeap.set _ hh.size _ = h8 at *
       clear hq
       refine MCall.by (fBytes (f := ⟨n1, n2, n3, pl⟩) S8.drop hxb hxok (by show pl.length ≤ _; omega)) ?_
       rintro u h9 ⟨z9, bv9, le9, rfl, B9, S9⟩
       simp only [go_sem, ↓reduceIte]
       refine MCall.by (fFeedI S9 B9 (by rw [frBytes_len]; show 9 + pl.length < _; omega)) ?_
       rintro u h10 ⟨z10, ov, qs, le10, rfl, E10, S10⟩
       have hev : ∀ e ∈ (feedS sr (frBytes ⟨n1, n2, n3, pl⟩)).2.1, evOk e := feedS_sz
       rw [hdrop, List.foldl_cons, stepA] at hfold
       simp only at hfold
       generalize feedS sr (frBytes ⟨n1, n2, n3, pl⟩) = R at *
       obtain ⟨sr', es', fz⟩ := R
       simp only at hfold
       obtain ⟨t', ht⟩ := stepA_pre (bl.drop (i + 1)) (sr', es ++ es')
       rw [hfold] at ht
       have hE : qs.map (·.1) = es' := E10.1
       have ht' : ps.map (·.1) = es ++ es' ++ t' := ht
       have hcl : es.length + qs.length + t'.length = ps.length := by
        have e1 := congrArg List.length ht
        have e2 := congrArg List.length E10.1
        simp only [List.length_map, List.length_append] at e1 e2
        omega
       have S11 := (S10.push [.int .i64 0, .bool false]).set 0 rfl [.int .i64 (fz.1 : Nat), .bool fz.2]
       have eO := fun h' : LHeap => E10.2.1.len (q := EC.q) (h := h')
       simp only [fltV, go_sem, ↓reduceIte, eO]
       generalize hq : LHeap.set _ h10.size _ = h11 at *
       clear hq
       have hzx := (hz.trans le9).trans le10
       refine MC.cutk (fun fr hh => ∃ z' tl, z10.le z' ∧ fr = (5, .pointer (some ⟨q, 0, none⟩)) :: (10, .pointer (some ⟨c, 0, none⟩)) :: (13, gv) :: (20, .int .i64 ((es.length + qs.length : Nat) : Int)) :: (108, w) :: (109, .int .i64 (ms.length : Nat)) :: (110, .int .i64 (i : Nat)) :: tl ∧ Sat z' hh [inb q sr', inb c s']) ?_ ?_
       ·refine MC.loop (fun m fr hh => ∃ j tl, m = qs.length - j ∧ j ≤ qs.length ∧ fr = (5, .pointer (some ⟨q, 0, none⟩)) :: (10, .pointer (some ⟨c, 0, none⟩)) :: (13, gv) :: (20, .int .i64 ((es.length + j : Nat) : Int)) :: (108, w) :: (109, .int .i64 (ms.length : Nat)) :: (110, .int .i64 (i : Nat)) :: (125, ov) :: (126, .int .i64 (qs.length : Nat)) :: (127, .int .i64 (j : Nat)) :: tl ∧ Sat z10 hh [inb q sr', inb c s']) qs.length
         ⟨0, [], rfl, Nat.zero_le _, by rw [hv]; rfl, S11.drop⟩ ?_
        rintro m fr hh J ⟨j, tl, rfl, hj, rfl, S⟩ hJ
        by_cases hlt' : j < qs.length
        ·obtain ⟨x, hx⟩ : ∃ x, qs[j]? = some x := ⟨qs[j], by simp [hlt']⟩
         obtain ⟨y, hy⟩ : ∃ y, ps[es.length + j]? = some y := ⟨ps[es.length + j]'(by omega), by simp [show es.length + j < ps.length by omega]⟩
         have hxy : x.1 = y.1 := by
          have e1 : (qs.map (·.1))[j]? = some x.1 := by rw [List.getElem?_map, hx]; rfl
          have e2 : (ps.map (·.1))[es.length + j]? = some y.1 := by rw [List.getElem?_map, hy]; rfl
          have e3 : (es ++ es' ++ t')[es.length + j]? = es'[j]? := by
           have : j < es'.length := by rw [← hE, List.length_map]; exact hlt'
           rw [List.append_assoc, List.getElem?_append_right (by omega), Nat.add_sub_cancel_left, List.getElem?_append_left this]
          rw [ht', e3, ← hE, e1] at e2
          exact Option.some.inj e2
         have hevx : evOk x.1 := hev x.1 (by rw [← E10.1]; exact List.mem_map.2 ⟨x, List.mem_of_getElem? hx, rfl⟩)
         have Px := E10.2.2 x (List.mem_of_getElem? hx)
         have Py := (hsz y (List.mem_of_getElem? hy)).mono hzx
         obtain ⟨b1, t1, r1, hv1, g11, g12⟩ := E10.2.1.at S hx
         obtain ⟨b2, t2, r2, hv2, g21, g22⟩ := (zgv.mono hzx).at S hy
         obtain ⟨k11, k12⟩ := evp_cel.get hx
         obtain ⟨k21, k22⟩ := evp_cel.get hy
         obtain ⟨e, ⟨x1, x2, x3⟩, ⟨x4, x5, x6⟩, x7, x8, x9⟩ := x
         obtain ⟨e', ⟨y1, y2, y3⟩, ⟨y4, y5, y6⟩, y7, y8, y9⟩ := y
         simp only at hxy
         subst hxy
         have d0 : (0 : Int) ≤ (j : Int) := by omega
         have d1 : (j : Int) < (qs.length : Int) := by omega
         have d2 : ¬ ((es.length + j : Nat) : Int) ≥ (ps.length : Int) := by omega
         have d2' : ¬ (ps.length : Int) ≤ ((es.length + j : Nat) : Int) := by omega
         have d3 : (0 : Int) ≤ ((es.length + j : Nat) : Int) := by omega
         have d4 : ((es.length + j : Nat) : Int) < (ps.length : Int) := by omega
         have w4 : IntKind.i64.wrap ((j : Int) + 1) = ((j + 1 : Nat) : Int) := by rw [IntWalk.i64_in _ (by omega)]; omega
         have w5 : IntKind.i64.wrap (((es.length + j : Nat) : Int) + 1) = ((es.length + (j + 1) : Nat) : Int) := by rw [IntWalk.i64_in _ (by omega)]; omega
         simp only [evp, slV, evc] at k11 k21
         have hn1 : ¬ b1 = hh.size := by omega
         have hn2 : ¬ b2 = hh.size := by omega
         simp only [go_sem, ↓reduceIte, d0, d1, Int.toNat_natCast, hv1, g12, k11, k12, hn1]
         have T1 := (S.push [.int .i64 0, .int .i64 0, .slice none 0 0, .slice none 0 0, .slice none 0 0, .bool false, .int .i64 0, .int .i64 0]).set 0 rfl [.int .i64 (e.kind : Nat), .int .i64 (e.st : Nat), .slice x1 x2 x3, .slice x4 x5 x6, .slice x7 x8 x9, .bool e.fin, .int .i64 (e.n : Nat), .int .i64 (e.code : Nat)]
         have hgt := T1.gpt 0 rfl
         generalize hfx : hh.size = fx at *
         generalize hq : LHeap.set _ fx _ = h12 at *
         clear hq
         obtain ⟨t3, r3, hb2⟩ : ∃ t3 r3, h12.get b2 = some (.cells (ps.flatMap evp) t3 r3) := by
          obtain ⟨b3, t3, r3, hv3, g31, g32⟩ := (zgv.mono hzx).at T1 hy
          rw [hv2] at hv3
          cases hv3
          exact ⟨t3, r3, g32⟩
         refine MC.dregion ?_
         simp only [go_sem, ↓reduceIte, eG, d2, d2', decide_false, d3, d4, Int.toNat_natCast, hv2, hb2, k21, k22, hgt]
         refine MDCall.by (sEqEv (e := e) hevx (Py.1.sl T1) (Px.1.sl T1) (Py.2.1.at T1) (Px.2.1.at T1) (Py.2.2.sl T1) (Px.2.2.sl T1)) ?_
         rintro u h13 ⟨rfl, X13⟩
         simp only [go_sem, ↓reduceIte, w4, w5]
         exact hJ _ _ _ (by omega) ⟨j + 1, _, rfl, by omega, by rw [hv1, hv2], (T1.ext X13).drop⟩
        ·have d1 : ¬ (j : Int) < (qs.length : Int) := by omega
         obtain rfl : j = qs.length := by omega
         simp only [go_sem, ↓reduceIte, d1]
         exact ⟨z10, _, Snap.refl _, rfl, S⟩
       ·rintro fr hh ⟨z11, tl, le11, rfl, S⟩
        simp only [go_sem, ↓reduceIte, w3]
        exact hJ _ _ _ (by omega) ⟨i + 1, z11, sr', es ++ es', rfl, by omega, hzx.trans le11, by rw [List.length_append, ← hE, List.length_map], S, hfold⟩
      ·have c1 : ¬ (i : Int) < (ms.length : Int) := by omega
       obtain rfl : i = ms.length := by omega
       simp only [go_sem, ↓reduceIte, c1]
       rw [← hbll, List.drop_length, List.foldl_nil] at hfold
       simp only [Prod.mk.injEq] at hfold
       obtain ⟨rfl, rfl⟩ := hfold
       exact ⟨z', _, by rw [List.length_map], S⟩
     ·rintro fr hh ⟨z8, tl, rfl, S⟩
      have eL : (((ps.length : Nat) : Int) == ((ps.length : Nat) : Int)) = true := by simp
      simp only [go_sem, ↓reduceIte, eG, eL]
      refine MCall.by (fDeadI S 0 rfl) ?_
      rintro u h8 ⟨rfl, rfl⟩
      simp only [go_sem, ↓reduceIte]
      refine MCall.by (fDeadI S 1 rfl) ?_
      rintro u h8 ⟨rfl, rfl⟩
      have eD2 : (s'.dead == s'.dead) = true := by simp
      simp only [go_sem, ↓reduceIte, eD2]
      refine MCall.by (fWaitI S 0 rfl) ?_
      rintro u h8 ⟨rfl, rfl⟩
      simp only [go_sem, ↓reduceIte]
      refine MCall.by (fWaitI S 1 rfl) ?_
      rintro u h8 ⟨rfl, rfl⟩
      have eW2 : (((s'.wait.length + s'.rd.asm.text.length : Nat) : Int) == ((s'.wait.length + s'.rd.asm.text.length : Nat) : Int)) = true := by simp
      simp only [go_sem, ↓reduceIte, eW2]
theorem lawCopies23 (h : LHeap) (lvs : List Value) (hl : LArgs Tryz.prog h 6 [77, 77] lvs) : LCalls EC 12 lvs h fun v _ => v = .bool true := by
 obtain ⟨v0, r0, rfl, h0, hr0⟩ := LArgs_cons hl
 obtain ⟨v1, r1, rfl, h1, hr1⟩ := LArgs_cons hr0
 obtain rfl := LArgs_nil hr1
 obtain ⟨l, V, hb, hlen⟩ := larg_frames h0
 obtain ⟨ms, W, hb2, hlen2⟩ := larg_frames h1
 exact sCopies V (fun r hr => ⟨BA.bytes (hb r hr).1, (hb r hr).2⟩) hlen W (fun r hr => ⟨BA.bytes (hb2 r hr).1, (hb2 r hr).2⟩) hlen2
end Go.E1
