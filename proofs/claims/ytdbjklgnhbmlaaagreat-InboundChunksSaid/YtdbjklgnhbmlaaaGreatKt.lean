/-
 Layer 23: InboundChunks.
-/
import Derived.Test.YtdbjklgnhbmlaaaGreatKr
namespace Go.E1
open Go Go.Proofs Go.M
set_option linter.unusedSimpArgs false

theorem sChunks {h : LHeap} {v w : Value} {l : List RF} {cs : List Int} (V : SL 4 rfc h v l) (hb : ∀ r ∈ l, BytesAt h (slV r.2.1) r.2.2 ∧ r.2.2.length ≤ reachBytes) (hl : l.length * 48 ≤ reachBytes) (W : SL 1 ic h w cs) (hcs : cs.length * 8 ≤ reachBytes) :
  LCalls EC 10 [v, w] h fun u _ => u = .bool true := by
 have hrb : reachBytes ≤ 140737488355328 := by decide
 refine LCalls.enter (lf := lf10) rfl rfl (by simp [lf10]) ?_
 have zv0 := V.z0
 have zw0 := W.z0
 have zb0 : ∀ r ∈ l, zB (snap0 h) (slV r.2.1) r.2.2 := fun r hr => (hb r hr).1.z0
 simp only [go_sem, lf10, ↓reduceIte]
 refine MCall.by (fNewI (sat0 h)) ?_
 rintro u h1 ⟨z1, p, le1, rfl, S1⟩
 simp only [go_sem, ↓reduceIte]
 refine MCall.by (fNewI S1) ?_
 rintro u h2 ⟨z2, q, le2, rfl, S2⟩
 have zv := zv0.mono (le1.trans le2)
 have zw := zw0.mono (le1.trans le2)
 have zb := fun r hr => (zb0 r hr).mono (le1.trans le2)
 have eW := fun hh : LHeap => zw.len (q := EC.q) (h := hh)
 simp only [go_sem, ↓reduceIte]
 refine MCall.by (sSmall (zv.sl S2) (fun r hr => ⟨(zb r hr).at S2, (hb r hr).2⟩) hl) ?_
 rintro u h3 ⟨⟨r, rfl, hr⟩, X3⟩
 have S3 := S2.ext X3
 cases r with
 | false => simp only [go_sem, ↓reduceIte]
 | true =>
  obtain ⟨hright, hsum⟩ := hr rfl
  have hlen := sumR_len l
  simp only [go_sem, ↓reduceIte, eW]
  by_cases h50 : 50 < cs.length
  ·have d1 : (50 : Int) < (cs.length : Int) := by omega
   have d2 : (cs.length : Int) > 50 := by omega
   simp only [d1, d2, decide_true, go_sem, ↓reduceIte]
  ·have d1 : ¬ (50 : Int) < (cs.length : Int) := by omega
   have d2 : ¬ (cs.length : Int) > 50 := by omega
   have eV := fun hh : LHeap => zv.len (q := EC.q) (h := hh)
   simp only [d1, d2, decide_false, go_sem, ↓reduceIte, eV]
   have S4 := (S3.push [.int .i64 0, .bool false])
   generalize hfB : h3.size = fB at *
   generalize hq : h3.push _ = h4 at *
   clear hq
   obtain ⟨fs, hfs⟩ : ∃ fs, fs = l.map toF := ⟨_, rfl⟩
   obtain ⟨bl, hbl⟩ : ∃ bl, bl = fs.map frBytes := ⟨_, rfl⟩
   have hbll : bl.length = l.length := by rw [hbl, hfs]; simp
   have hok : ∀ f ∈ fs, frOk f ∧ f.pl.length ≤ 16384 := by
    intro f hf
    rw [hfs] at hf
    obtain ⟨x, hx, rfl⟩ := List.mem_map.1 hf
    refine ⟨(toF_ok (hright x hx)).1, ?_⟩
    have := sumR_mem hx
    show x.2.2.length ≤ _
    omega
   have hN : bl.flatten.length ≤ 600 := by
    have := frames_len l
    have e : (l.map fun r => frBytes (toF r)) = bl := by rw [hbl, hfs, List.map_map]; rfl
    rw [e] at this; omega
   have hfin := fold_frames hok sd0 rfl rfl rfl
   rw [← hbl] at hfin
   have hcnt : (bl.foldl stepS (sd0, [], okF)).2.1.length ≤ 60 := by
    rw [hfin]
    have := procR_len fs sd0.rd
    have e : fs.length = l.length := by rw [hfs]; simp
    omega
   refine MC.cutb (fun fr hh => ∃ z' av wv ps f tl, z2.le z' ∧ fr = (1, w) :: (5, .pointer (some ⟨p, 0, none⟩)) :: (6, .pointer (some ⟨q, 0, none⟩)) :: (7, av) :: (8, wv) :: (9, .pointer (some ⟨fB, 0, none⟩)) :: tl ∧
    Sat z' hh [pt fB [.int .i64 (f.1 : Nat), .bool f.2], ownL 1 bc av bl.flatten, ownL 8 evp wv ps, inb q sd0] ∧ (∀ p ∈ ps, zPay z' p) ∧ (ps.map (·.1), f) = (bl.foldl stepS (sd0, [], okF)).2) ?_ ?_
   ·refine MC.loop (fun m fr hh => ∃ i z' av wv ps sp f, m = l.length - i ∧ i ≤ l.length ∧ z2.le z' ∧ fr = [(1, w), (5, .pointer (some ⟨p, 0, none⟩)), (6, .pointer (some ⟨q, 0, none⟩)), (7, av), (8, wv), (9, .pointer (some ⟨fB, 0, none⟩)), (49, v), (50, .int .i64 (l.length : Nat)), (51, .int .i64 (i : Nat))] ∧
     Sat z' hh [pt fB [.int .i64 (f.1 : Nat), .bool f.2], ownL 1 bc av (bl.take i).flatten, ownL 8 evp wv ps, inb p sp, inb q sd0] ∧ (∀ p ∈ ps, zPay z' p) ∧ (bl.drop i).foldl stepS (sp, ps.map (·.1), f) = bl.foldl stepS (sd0, [], okF)) l.length
     ⟨0, z2, .slice none 0 0, .slice none 0 0, [], sd0, okF, rfl, Nat.zero_le _, Snap.refl _, rfl, ?_, by simp, by simp⟩ ?_
    ·have a1 : Sat z2 h4 (ownL 8 evp (.slice none 0 0) [] :: [pt fB [.int .i64 0, .bool false], inb q sd0, inb p sd0]) := Sat.ownL0 S4
     have a2 : Sat z2 h4 (ownL 1 bc (.slice none 0 0) [] :: [ownL 8 evp (.slice none 0 0) [], pt fB [.int .i64 0, .bool false], inb q sd0, inb p sd0]) := Sat.ownL0 a1
     exact a2.ordN 5 [2, 0, 1, 4, 3] (by decide)
    ·rintro m fr hh J ⟨i, z', av, wv, ps, sp, f, rfl, hi, hz, rfl, S, hps, hfold⟩ hJ
     by_cases hlt : i < l.length
     ·obtain ⟨x, hx⟩ : ∃ x, l[i]? = some x := ⟨l[i], by simp [hlt]⟩
      obtain ⟨b, t, r, hv, g1, g2⟩ := (zv.mono hz).at S hx
      obtain ⟨k1, k2⟩ := rfc_cel.get hx
      have hxm := List.mem_of_getElem? hx
      obtain ⟨hxok, e1, e2, e3⟩ := toF_ok (hright x hxm)
      have hxs := sumR_mem hxm
      have hxb := (zb x hxm).mono hz
      have hbi : bl[i]? = some (frBytes (toF x)) := by rw [hbl, hfs]; simp [hx]
      have hdrop : bl.drop i = frBytes (toF x) :: bl.drop (i + 1) := by
       rw [List.drop_eq_getElem_cons (by omega)]
       congr 1
       rw [List.getElem?_eq_getElem (by omega)] at hbi
       exact Option.some.inj hbi
      obtain ⟨⟨a1, a2, a3⟩, ⟨p1, p2, p3⟩, pl⟩ := x
      simp only at e1 e2 e3 hxs
      obtain ⟨n1, rfl⟩ : ∃ n : Nat, a1 = n := ⟨_, e1⟩
      obtain ⟨n2, rfl⟩ : ∃ n : Nat, a2 = n := ⟨_, e2⟩
      obtain ⟨n3, rfl⟩ : ∃ n : Nat, a3 = n := ⟨_, e3⟩
      clear e1 e2 e3
      have hF : toF (((n1 : Int), (n2 : Int), (n3 : Int)), (p1, p2, p3), pl) = ⟨n1, n2, n3, pl⟩ := by simp [toF]
      rw [hF] at hxok hbi hdrop
      simp only [rfc, slV] at k1 hxb
      have c0 : (0 : Int) ≤ (i : Int) := by omega
      have c1 : (i : Int) < (l.length : Int) := by omega
      have hnb : ¬ b = hh.size := by omega
      have w3 : IntKind.i64.wrap ((i : Int) + 1) = ((i + 1 : Nat) : Int) := by rw [IntWalk.i64_in _ (by omega)]; omega
      simp only [go_sem, ↓reduceIte, c0, c1, Int.toNat_natCast, hv, g2, k1, k2, hnb]
      have S5 := (S.push [.int .i64 0, .int .i64 0, .int .i64 0, .slice none 0 0]).set 0 rfl [.int .i64 (n1 : Nat), .int .i64 (n2 : Nat), .int .i64 (n3 : Nat), .slice p1 p2 p3]
      generalize hq : LHeap.set _ hh.size _ = h5 at *
      clear hq
      refine MCall.by (fBytes (f := ⟨n1, n2, n3, pl⟩) S5.drop hxb hxok (by show pl.length ≤ _; omega)) ?_
      rintro u h6 ⟨z6, bv6, le6, rfl, B6, S6⟩
      obtain ⟨av', h7, ea, S7⟩ := Sat.app bc_cel (q := EC.q) (by' := 1) (S6.pull 1 rfl) (B6.first S6) (by
       have h1 := flat_take_le bl i
       rw [frBytes_len]
       show _ + (9 + pl.length) ≤ _
       omega) (by omega)
      simp only [go_sem, ↓reduceIte, ea]
      have gF := S7.gpt 1 rfl
      simp only [go_sem, ↓reduceIte, gF]
      refine MCall.by (sOKFS S7 f) ?_
      rintro u h8 ⟨rfl, S8⟩
      by_cases hz8 : f = okF
      ·subst hz8
       simp only [decide_true, go_sem, ↓reduceIte]
       refine MCall.by (fFeedI (S8.ordN 5 [3, 0, 1, 2, 4] (by decide)) B6 (by rw [frBytes_len]; show 9 + pl.length < _; omega)) ?_
       rintro u h9 ⟨z9, ov, qs, le9, rfl, E9, S9⟩
       rw [hdrop, List.foldl_cons] at hfold
       simp only [stepS, if_true] at hfold
       generalize feedS sp (frBytes ⟨n1, n2, n3, pl⟩) = R at *
       obtain ⟨sp', es, fz⟩ := R
       simp only at S9 E9 hfold
       have gF9 := S9.gpt 2 rfl
       simp only [fltV, go_sem, ↓reduceIte, gF9]
       have S10 := S9.set 2 rfl [.int .i64 (fz.1 : Nat), .bool fz.2]
       generalize hq : LHeap.set _ fB _ = h10 at *
       clear hq
       have hsz : ps.length + qs.length ≤ 60 := by
        have h1 := foldS_len (bl.drop (i + 1)) (sp', ps.map (·.1) ++ es, fz)
        rw [hfold] at h1
        simp only [List.length_append, List.length_map] at h1
        rw [← E9.1, List.length_map] at h1
        omega
       obtain ⟨wv', h11, eb, S11⟩ := Sat.app evp_cel (q := EC.q) (by' := 112) (S10.pull 3 rfl) (E9.2.1.first evp_cel S10) (by omega) (by omega)
       simp only [go_sem, ↓reduceIte, eb, w3]
       refine hJ _ _ _ (by omega) ⟨i + 1, z9, av', wv', ps ++ qs, sp', fz, rfl, by omega, hz.trans (le6.trans le9), by rw [hv], ?_, ?_, ?_⟩
       ·rw [flat_take bl hbi]
        exact S11.ordN 5 [3, 2, 0, 1, 4] (by decide)
       ·intro p hp
        rcases List.mem_append.1 hp with hp | hp
        ·exact (hps p hp).mono (le6.trans le9)
        ·exact E9.2.2 p hp
       ·rw [List.map_append, E9.1]; exact hfold
      ·simp only [hz8, decide_false, go_sem, ↓reduceIte, w3]
       refine hJ _ _ _ (by omega) ⟨i + 1, z6, av', wv, ps, sp, f, rfl, by omega, hz.trans le6, by rw [hv], ?_, ?_, ?_⟩
       ·rw [flat_take bl hbi]
        exact S8.ordN 5 [1, 0, 2, 3, 4] (by decide)
       ·exact fun p hp => (hps p hp).mono le6
       ·rw [hdrop, List.foldl_cons] at hfold
        rwa [stepS, if_neg hz8] at hfold
     ·have c1 : ¬ (i : Int) < (l.length : Int) := by omega
      obtain rfl : i = l.length := by omega
      simp only [go_sem, ↓reduceIte, c1]
      rw [← hbll, List.drop_length] at hfold
      simp only [List.foldl_nil] at hfold
      rw [← hbll, List.take_length] at S
      exact ⟨z', av, wv, ps, f, _, hz, rfl, S.ordN 5 [0, 1, 2, 4] (by decide), hps, by rw [← hfold]⟩
   ·rintro fr hh ⟨z', av, wv, ps, f, tl, hz, rfl, S, hps, hf1⟩
    rw [hfin] at hf1
    have eA := fun h' : LHeap => (S.gown 1 rfl).len (q := EC.q) (h := h')
    simp only [go_sem, ↓reduceIte]
    have zw5 := zw.mono hz
    have T1 := (S.push [.int .i64 0, .bool false]).push []
    obtain ⟨cv, h5, ea, T2⟩ := Sat.app ic_cel (q := EC.q) (by' := 8) (Sat.ofPt (l := ([] : List Int)) T1) (zw5.first ic_cel T1) (by simp; omega) (by omega)
    simp only [List.length_nil, LHeap.size_push, List.nil_append] at ea T2
    generalize hfC : hh.size = fC at *
    simp only [go_sem, ↓reduceIte, ea, eA]
    have T3 := T2.push [.int .i64 (bl.flatten.length : Nat)]
    obtain ⟨dv, h6, eb, T4⟩ := Sat.app ic_cel (q := EC.q) (by' := 8) (m := [((bl.flatten.length : Nat) : Int)]) (w := .slice (some ⟨h5.size, 0, none⟩) 1 1) (T3.pull 1 rfl)
     (by rw [first_some (T3.gpt 0 rfl) (by simp) (by simp)]; rfl) (by simp; omega) (by omega)
    simp only [go_sem, ↓reduceIte, eb]
    obtain ⟨ds, hds⟩ : ∃ ds, ds = cs ++ [((bl.flatten.length : Nat) : Int)] := ⟨_, rfl⟩
    rw [← hds] at T4
    have hdl : ds.length ≤ 51 := by rw [hds]; simp; omega
    have eD := fun h' : LHeap => (T4.gown 0 rfl).len (q := EC.q) (h := h')
    simp only [go_sem, ↓reduceIte, eD]
    have T5 : Sat z' h6 [ownL 1 bc av bl.flatten, ownL 1 ic dv ds, ownL 8 evp wv ps, pt fB [.int .i64 (f.1 : Nat), .bool f.2], pt fC [.int .i64 0, .bool false], inb q sd0] := T4.ordN 7 [4, 0, 5, 3, 2, 6] (by decide)
    obtain ⟨z6, le6, zav, T6⟩ := T5.freeze
    obtain ⟨z7, le7, zdv, T7⟩ := T6.freeze
    obtain ⟨z8, le8, zwv, T8⟩ := T7.freeze
    have hcuts := fold_cuts hok sd0 rfl rfl rfl (cutsOf ds bl.flatten) (by rw [hds, cutsOf_all _ _ _ (Int.le_refl _), hbl])
    have hcnt2 : ((cutsOf ds bl.flatten).foldl stepS (sd0, [], okF)).2.1.length ≤ 60 := by
     rw [hcuts, ← hfin]; exact hcnt
    have zdv8 := zdv.mono le8
    have zav8 := zav.bytes.mono (le7.trans le8)
    have T9 : Sat z8 h6 [pt fB [.int .i64 (f.1 : Nat), .bool f.2], pt fC [.int .i64 (okF.1 : Nat), .bool okF.2], ownL 8 evp (.slice none 0 0) [], inb q sd0] := (Sat.ownL0 (k := 8) (c := evp) T8).ordN 4 [1, 2, 0, 3] (by decide)
    refine MC.cutb (fun fr hh => ∃ z' av gv qs g tl, z8.le z' ∧ fr = (6, .pointer (some ⟨q, 0, none⟩)) :: (7, av) :: (8, wv) :: (9, .pointer (some ⟨fB, 0, none⟩)) :: (15, gv) :: (16, .pointer (some ⟨fC, 0, none⟩)) :: tl ∧
     Sat z' hh [pt fB [.int .i64 (f.1 : Nat), .bool f.2], pt fC [.int .i64 (g.1 : Nat), .bool g.2], ownL 8 evp gv qs] ∧ (∀ p ∈ qs, zPay z' p) ∧ (qs.map (·.1), g) = (procR sd0.rd fs).2) ?_ ?_
    ·refine MC.loop (fun m fr hh => ∃ j z' av gv qs sq g rest, m = ds.length - j ∧ j ≤ ds.length ∧ z8.le z' ∧ fr = [(6, .pointer (some ⟨q, 0, none⟩)), (7, av), (8, wv), (9, .pointer (some ⟨fB, 0, none⟩)), (15, gv), (16, .pointer (some ⟨fC, 0, none⟩)), (81, dv), (82, .int .i64 (ds.length : Nat)), (83, .int .i64 (j : Nat))] ∧
      Sat z' hh [pt fB [.int .i64 (f.1 : Nat), .bool f.2], pt fC [.int .i64 (g.1 : Nat), .bool g.2], ownL 8 evp gv qs, inb q sq] ∧ zB z' av rest ∧ rest.length ≤ 600 ∧ (∀ p ∈ qs, zPay z' p) ∧ (cutsOf (ds.drop j) rest).foldl stepS (sq, qs.map (·.1), g) = (cutsOf ds bl.flatten).foldl stepS (sd0, [], okF)) ds.length
      ⟨0, z8, av, .slice none 0 0, [], sd0, okF, bl.flatten, rfl, Nat.zero_le _, Snap.refl _, rfl, T9, zav8, hN, by simp, by simp⟩ ?_
     rintro m fr hh J ⟨j, z', av, gv, qs, sq, g, rest, rfl, hj, hz', rfl, S, zr, hrl, hqs, hfold⟩ hJ
     by_cases hlt : j < ds.length
     ·obtain ⟨d, hd⟩ : ∃ d, ds[j]? = some d := ⟨ds[j], by simp [hlt]⟩
      obtain ⟨b, t, r, hv, g1, g2⟩ := (zdv8.mono hz').at S hd
      obtain ⟨k1, k2⟩ := ic_cel.get hd
      have k3 := ic_cel.cell (j := 0) hd (by omega)
      simp only [Nat.mul_one, Nat.add_zero, ic, List.getElem?_cons_zero] at k3
      have hdrop : ds.drop j = d :: ds.drop (j + 1) := by
       rw [List.drop_eq_getElem_cons (by omega)]
       congr 1
       rw [List.getElem?_eq_getElem (by omega)] at hd
       exact Option.some.inj hd
      have c0 : (0 : Int) ≤ (j : Int) := by omega
      have c1 : (j : Int) < (ds.length : Int) := by omega
      have w3 : IntKind.i64.wrap ((j : Int) + 1) = ((j + 1 : Nat) : Int) := by rw [IntWalk.i64_in _ (by omega)]; omega
      obtain ⟨n, hn⟩ : ∃ n, n = min (max d 0).toNat rest.length := ⟨_, rfl⟩
      have hnle : n ≤ rest.length := by omega
      have hnz : min (max d 0) (rest.length : Int) = (n : Int) := by omega
      have eR := fun h' : LHeap => zr.len (q := EC.q) (h := h')
      obtain ⟨hw, ehi, zhi⟩ := zr.hi (q := EC.q) (k := .i64) hnle
      obtain ⟨lw, elo, zlo⟩ := zr.lo (q := EC.q) (k := .i64) hnle
      have gC := S.gpt 1 rfl
      rw [hdrop, cutsOf, List.foldl_cons, ← hn] at hfold
      simp only [go_sem, ↓reduceIte, c0, c1, Int.toNat_natCast, hv, g2, k3, x_max, x_min, eR, hnz, gC, Nat.mul_one]
      refine MCall.by (sOKFS S g) ?_
      rintro u h7 ⟨rfl, S7⟩
      by_cases hg : g = okF
      ·subst hg
       simp only [decide_true, go_sem, ↓reduceIte, ehi]
       refine MCall.by (fFeedI (S7.ordN 4 [3, 0, 1, 2] (by decide)) zhi (by rw [List.length_take]; omega)) ?_
       rintro u h9 ⟨z9, ov, rs, le9, rfl, E9, S9⟩
       simp only [stepS, if_true] at hfold
       generalize feedS sq (rest.take n) = R at *
       obtain ⟨sq', es, fz⟩ := R
       simp only at S9 E9 hfold
       have gC9 := S9.gpt 2 rfl
       simp only [fltV, go_sem, ↓reduceIte, gC9]
       have S10 := S9.set 2 rfl [.int .i64 (fz.1 : Nat), .bool fz.2]
       generalize hq : LHeap.set _ fC _ = h10 at *
       clear hq
       have hsz : qs.length + rs.length ≤ 60 := by
        have h1 := foldS_len (cutsOf (ds.drop (j + 1)) (rest.drop n)) (sq', qs.map (·.1) ++ es, fz)
        rw [hfold] at h1
        simp only [List.length_append, List.length_map] at h1
        rw [← E9.1, List.length_map] at h1
        omega
       obtain ⟨gv', h11, ed, S11⟩ := Sat.app evp_cel (q := EC.q) (by' := 112) (S10.pull 3 rfl) (E9.2.1.first evp_cel S10) (by omega) (by omega)
       simp only [go_sem, ↓reduceIte, ed, elo, w3]
       refine hJ _ _ _ (by omega) ⟨j + 1, z9, lw, gv', qs ++ rs, sq', fz, rest.drop n, rfl, by omega, hz'.trans le9, by rw [hv], S11.ordN 4 [2, 3, 0, 1] (by decide), zlo.mono le9, by rw [List.length_drop]; omega, ?_, ?_⟩
       ·intro p hp
        rcases List.mem_append.1 hp with hp | hp
        ·exact (hqs p hp).mono le9
        ·exact E9.2.2 p hp
       ·rw [List.map_append, E9.1]; exact hfold
      ·simp only [hg, decide_false, go_sem, ↓reduceIte, elo, w3]
       refine hJ _ _ _ (by omega) ⟨j + 1, z', lw, gv, qs, sq, g, rest.drop n, rfl, by omega, hz', by rw [hv], S7, zlo, by rw [List.length_drop]; omega, hqs, ?_⟩
       rwa [stepS, if_neg hg] at hfold
     ·have c1 : ¬ (j : Int) < (ds.length : Int) := by omega
      obtain rfl : j = ds.length := by omega
      simp only [go_sem, ↓reduceIte, c1]
      rw [List.drop_length] at hfold
      simp only [cutsOf, List.foldl_nil] at hfold
      exact ⟨z', av, gv, qs, g, _, hz', rfl, S.ordN 4 [0, 1, 2] (by decide), hqs, by rw [← hcuts, ← hfold]⟩
    ·rintro fr hh ⟨z', av, gv, qs, g, tl, hz', rfl, S, hqs, hg1⟩
     rw [← hg1] at hf1
     simp only [Prod.mk.injEq] at hf1
     obtain ⟨hpq, rfl⟩ := hf1
     have hq60 : qs.length ≤ 60 := by
      have e := congrArg (fun x => x.1.length) hg1
      simp only [List.length_map] at e
      rw [hfin] at hcnt
      omega
     have hlq : ps.length = qs.length := by
      have := congrArg List.length hpq
      simpa using this
     have gB := S.gpt 0 rfl
     have gC := S.gpt 1 rfl
     have q1 := q_flt2 (f.1 : Nat) f.2
     have eW := fun h' : LHeap => (zwv.mono hz').len (q := EC.q) (h := h')
     have eG := fun h' : LHeap => (S.gown 2 rfl).len (q := EC.q) (h := h')
     have q2 : (((qs.length : Nat) : Int) != ((ps.length : Nat) : Int)) = false := by rw [hlq]; simp
     simp only [go_sem, ↓reduceIte, gB, gC, q1, eW, eG, q2]
     obtain ⟨z9, le9, zgv, S9⟩ := (S.ordN 3 [2] (by decide) : Sat z' hh [ownL 8 evp gv qs]).freeze
     have zwv9 := zwv.mono (hz'.trans le9)
     refine MC.cutb (fun fr hh => True) ?_ ?_
     ·refine MC.loop (fun m fr hh => ∃ i tl, m = qs.length - i ∧ i ≤ qs.length ∧ fr = (8, wv) :: (15, gv) :: (120, .int .i64 (qs.length : Nat)) :: (121, .int .i64 (i : Nat)) :: tl ∧ Sat z9 hh []) qs.length
       ⟨0, [], rfl, Nat.zero_le _, rfl, S9⟩ ?_
      rintro m fr hh J ⟨i, tl, rfl, hi, rfl, S⟩ hJ
      by_cases hlt : i < qs.length
      ·obtain ⟨x, hx⟩ : ∃ x, qs[i]? = some x := ⟨qs[i], by simp [hlt]⟩
       obtain ⟨y, hy⟩ : ∃ y, ps[i]? = some y := ⟨ps[i]'(by omega), by simp [show i < ps.length by omega]⟩
       have hxy : x.1 = y.1 := by
        have e1 : (qs.map (·.1))[i]? = some x.1 := by rw [List.getElem?_map, hx]; rfl
        have e2 : (ps.map (·.1))[i]? = some y.1 := by rw [List.getElem?_map, hy]; rfl
        rw [← hpq, e2] at e1
        exact (Option.some.inj e1).symm
       have hev : evOk x.1 := procR_sz fs sd0.rd (fun f hf => (hok f hf).2) x.1 (by
        rw [← hg1]; exact List.mem_map.2 ⟨x, List.mem_of_getElem? hx, rfl⟩)
       have Px := (hqs x (List.mem_of_getElem? hx)).mono le9
       have Py := (hps y (List.mem_of_getElem? hy)).mono ((le6.trans (le7.trans le8)).trans (hz'.trans le9))
       obtain ⟨b1, t1, r1, hv1, g11, g12⟩ := zgv.at S hx
       obtain ⟨b2, t2, r2, hv2, g21, g22⟩ := zwv9.at S hy
       obtain ⟨k11, k12⟩ := evp_cel.get hx
       obtain ⟨k21, k22⟩ := evp_cel.get hy
       obtain ⟨e, ⟨x1, x2, x3⟩, ⟨x4, x5, x6⟩, x7, x8, x9⟩ := x
       obtain ⟨e', ⟨y1, y2, y3⟩, ⟨y4, y5, y6⟩, y7, y8, y9⟩ := y
       simp only at hxy
       subst hxy
       have c0 : (0 : Int) ≤ (i : Int) := by omega
       have c1 : (i : Int) < (qs.length : Int) := by omega
       have c2 : (i : Int) < (ps.length : Int) := by omega
       have w3 : IntKind.i64.wrap ((i : Int) + 1) = ((i + 1 : Nat) : Int) := by rw [IntWalk.i64_in _ (by omega)]; omega
       simp only [evp, slV, evc] at k11 k21
       simp only [go_sem, ↓reduceIte, c1]
       refine MC.dregion ?_
       simp only [go_sem, ↓reduceIte, c0, c1, c2, Int.toNat_natCast, hv1, hv2, g12, g22, k11, k12, k21, k22]
       refine MDCall.by (sEqEv (e := e) hev (Px.1.sl S) (Py.1.sl S) (Px.2.1.at S) (Py.2.1.at S) (Px.2.2.sl S) (Py.2.2.sl S)) ?_
       rintro u h7 ⟨rfl, X7⟩
       simp only [go_sem, ↓reduceIte, w3]
       exact hJ _ _ _ (by omega) ⟨i + 1, _, rfl, by omega, by rw [hv1, hv2], S.ext X7⟩
      ·have c1 : ¬ (i : Int) < (qs.length : Int) := by omega
       simp only [go_sem, ↓reduceIte, c1]
     ·rintro fr hh -
      simp only [go_sem, ↓reduceIte]
theorem lawChunks (h : LHeap) (lvs : List Value) (hl : LArgs Tryz.prog h 6 [77, 78] lvs) : LCalls EC 10 lvs h fun v _ => v = .bool true := by
 obtain ⟨v0, r0, rfl, h0, hr0⟩ := LArgs_cons hl
 obtain ⟨v1, r1, rfl, h1, hr1⟩ := LArgs_cons hr0
 obtain rfl := LArgs_nil hr1
 obtain ⟨l, V, hb, hlen⟩ := larg_frames h0
 obtain ⟨cs, W, _, hcs⟩ := larg_ints h1
 exact sChunks V (fun r hr => ⟨BA.bytes (hb r hr).1, (hb r hr).2⟩) hlen W hcs
end Go.E1
