/-
  DecodeCopies: the walk.
-/
import Derived.Test.YtdbjklgnhbmlaaaKo
namespace Go.E1
open Go Go.Proofs Go.M
set_option linter.unusedSimpArgs false

theorem LS.set {h : LHeap} {lo B : Nat} {v : Value} {l : List Ln} (S : LS h lo v l) (hB : B < lo) (o : LObj) : LS (h.set B o) lo v l :=
  S.keep (keep_set h B o) fun _ _ _ hx h9 => by have := (S.lt hx).1; omega

theorem sCopies {h : LHeap} {most bound : Int} {v w : Value} {ls ms : List Bytes} (B : BL h v ls) (hr : ∀ l ∈ ls, l.length ≤ reachBytes) (C : BL h w ms) (hrm : ∀ l ∈ ms, l.length ≤ reachBytes) :
    LCalls EC 6 [.agg #[.int .i64 most, .int .i64 bound, v], w] h fun u _ => u = .bool true := by
  refine LCalls.enter (lf := lf6) rfl rfl (by simp [lf6]) ?_
  simp only [go_sem, lf6, ↓reduceIte]
  by_cases hin : 0 ≤ most ∧ most ≤ 65536 ∧ 0 ≤ bound ∧ bound ≤ 16384
  · obtain ⟨m, rfl⟩ : ∃ m : Nat, most = m := ⟨most.toNat, by omega⟩
    obtain ⟨b, rfl⟩ : ∃ b : Nat, bound = b := ⟨bound.toNat, by omega⟩
    have hm : m ≤ 65536 := by omega
    have hb : b ≤ 16384 := by omega
    refine MCall.by (wNew hm hb) ?_
    rintro u h2 ⟨d, F, rfl, D, X2, hF⟩
    have X02 := (Ext.push h (.cells [.int .i64 m, .int .i64 b, v] true true)).trans X2
    have hgc : h2.get h.size = some (.cells [.int .i64 m, .int .i64 b, v] true true) := by rw [X2.get _ (by simp)]; simp
    have hc2 : h.size < h2.size := by have := X2.size; simp at this; omega
    have a1 : ¬ (m : Int) < 0 := by omega
    have a2 : ¬ (65536 : Int) < (m : Int) := by omega
    have a3 : ¬ (b : Int) < 0 := by omega
    have a4 : ¬ (16384 : Int) < (b : Int) := by omega
    have B2 := B.ext X02
    have C2 := C.ext X02
    have e1 := fun h => B2.len (q := EC.q) (h := h)
    have e2 := fun h => C2.len (q := EC.q) (h := h)
    obtain ⟨wo, wn, wE, rfl⟩ : ∃ o n E, w = .slice o n E := by rcases C with ⟨_, rfl⟩ | ⟨_, _, _, _, rfl, _⟩ <;> exact ⟨_, _, _, rfl⟩
    simp only [go_sem, ↓reduceIte, hgc, a1, a2, a3, a4]
    refine MCall.by (sRight B2 hr) ?_
    rintro u h3 ⟨rfl, X3⟩
    have hgc3 : h3.get h.size = some (.cells [.int .i64 m, .int .i64 b, v] true true) := by rw [X3.get _ hc2]; exact hgc
    cases hR : rightB m b ls with
    | false => simp only [go_sem, ↓reduceIte]
    | true =>
      obtain ⟨_, _, _, _, _, _, hsum⟩ := rightB_nat hR
      simp only [go_sem, ↓reduceIte, hgc3]
      refine MCall.by (sRight (C2.ext X3) hrm) ?_
      rintro u h4 ⟨rfl, X4⟩
      cases hR2 : rightB m b ms with
      | false => simp only [go_sem, ↓reduceIte]
      | true =>
        obtain ⟨_, _, _, _, _, _, hsum2⟩ := rightB_nat hR2
        have X34 := X3.trans X4
        have hgc4 : h4.get h.size = some (.cells [.int .i64 m, .int .i64 b, v] true true) := by rw [X34.get _ hc2]; exact hgc
        have hns : h.size ≠ h4.size := by have := X34.size; omega
        have hc4 : h.size < h4.size := by have := X34.size; omega
        have hX : ∀ {c c'}, Ext h4 ((h4.push c).set h4.size c') := (Ext.push _ _).set (Nat.le_refl _) _
        simp only [go_sem, ↓reduceIte, hgc4, e1, hns]
        have hF1 : ∀ c, F c → h.size + 1 ≤ c := fun c hc => by have := hF c hc; simpa using this
        have B1 := B.ext (Ext.push h (.cells [.int .i64 m, .int .i64 b, v] true true))
        refine MC.cutb (fun fr hh => ∃ s F rv tl, fr = (1, .slice wo wn wE) :: (5, .pointer (some ⟨d, 0, none⟩)) :: (7, .pointer (some ⟨h4.size, 0, none⟩)) :: tl ∧ Both hh d s m b F h4.size rv ∧ Ext (h.push (.cells [.int .i64 m, .int .i64 b, v] true true)) hh) ?_ ?_
        · refine MC.loop (fun k fr hh => ∃ i s F rv, k = ls.length - i ∧ i ≤ ls.length ∧ fr = [(1, .slice wo wn wE), (5, .pointer (some ⟨d, 0, none⟩)), (7, .pointer (some ⟨h4.size, 0, none⟩)), (81, v), (82, .int .i64 (ls.length : Int)), (83, .int .i64 (i : Int))] ∧ Both hh d s m b F h4.size rv ∧ Ext (h.push (.cells [.int .i64 m, .int .i64 b, v] true true)) hh ∧ ∀ c, F c → h.size + 1 ≤ c) ls.length ⟨0, ⟨⟨[], m⟩, false⟩, F, .slice none 0 0, rfl, Nat.zero_le _, rfl, ⟨D.ext (X34.trans hX), by simp, by simp, .inl ⟨rfl, rfl⟩, fun h9 => by have := D.lt h9; have := X34.size; omega, fun x hx => by cases hx⟩, (X2.trans X34).trans hX, hF1⟩ ?_
          clear D F hF hF1
          rintro k fr hh J ⟨i, s, F, rv, rfl, hi, rfl, D, X, hF⟩ hJ
          by_cases hlt : i < ls.length
          · obtain ⟨bb, vs, tt, rr, u, l, rfl, g1, g2, g3, g4, A⟩ := B1.at hlt
            have c0 : (0 : Int) ≤ (i : Int) := by omega
            have c1 : (i : Int) < (ls.length : Int) := by omega
            have hg : hh.get bb = some (.cells vs tt rr) := by rw [X.get _ g1]; exact g2
            have hmem : l ∈ ls := List.mem_of_getElem? g4
            have hll := sumB_mem hmem
            have hln := sumB_len ls
            have w3 : IntKind.i64.wrap ((i : Int) + 1) = ((i + 1 : Nat) : Int) := by rw [IntWalk.i64_in _ (by omega)]; omega
            simp only [go_sem, ↓reduceIte, c0, c1, hg, g3]
            refine MCall.by (wDecode D.dw (A.blks X (fun c hc => by have := hF c hc; simpa using this)) (by omega) (by omega)) ?_
            rintro uu h4' ⟨F', D4, hF4, K4, O⟩
            have X4' : Ext (h.push (.cells [.int .i64 m, .int .i64 b, .slice (some ⟨bb, 0, none⟩) ls.length 1] true true)) h4' := Ext.of_keep X K4 (fun c hc => by have := hF c hc; simpa using this)
            have hF4' : ∀ c, F' c → h.size + 1 ≤ c := fun c hc => (hF4 c hc).elim (hF c) fun h => by have := X.size; simp at this; omega
            have st4 : h4'.get h4.size = some (.cells [rv, .int .i64 s.st.limit, .int .i64 m, .int .i64 b, .bool s.dead] true true) := by rw [K4.get _ D.lt D.nf]; exact D.st
            have rl4 : RL h4' rv s.st.L.reverse := D.rl.move K4.size fun x hx => K4.get x (D.rl.blk hx).1 (D.rn x hx).1
            have lt4 : h4.size < h4'.size := Nat.lt_of_lt_of_le D.lt K4.size
            have hs7 := D.dw.sz
            have esb := (A.ext X4').str (q := EC.q)
            obtain ⟨ro, rn, rE, hrv⟩ := rl4.slc
            simp only [go_sem, ↓reduceIte, st4, esb]
            refine MCall.by (sRef07 (v0 := rv) (L := s.st.L) (limit := s.st.limit) (most := m) (bound := b) (dead := s.dead) (l := l) rl4 hs7.1 (by omega) hm (by omega) (by omega)) ?_
            rintro u5 h5 ⟨v', ov', ls', e', rfl, rl5, G5, X5, k5, hz1, hz2, hv5, hov5⟩
            generalize hres : M.decode m b s l = res at *
            obtain ⟨vo, vn, vE, rfl⟩ := rl5.slc
            have st5 : h5.get h4.size = some (.cells [rv, .int .i64 s.st.limit, .int .i64 m, .int .i64 b, .bool s.dead] true true) := by rw [X5.get _ lt4]; exact st4
            have D6 := D.step D4 hF4 K4 rl5 X5 hv5
            simp only [go_sem, ↓reduceIte, stV, st5, w3]
            exact hJ (ls.length - (i + 1)) _ _ (by omega) ⟨i + 1, res.1, F', _, rfl, by omega, rfl, D6, (X4'.trans X5).set (by simp; omega) _, hF4'⟩
          · have c1 : ¬ (i : Int) < (ls.length : Int) := by omega
            simp only [go_sem, ↓reduceIte, c1]
            exact ⟨s, F, rv, _, rfl, D, X⟩
        · clear D F hF hF1
          rintro fr hn ⟨s, F, rv, tl, rfl, D, X⟩
          simp only [go_sem, ↓reduceIte]
          refine MCall.by (wCopy D.dw) ?_
          rintro u h5 ⟨c, Fc, rfl, Dc, X5, hFc⟩
          have D5 := D.ext X5
          obtain ⟨ro, rn, rE, hrv⟩ := D.rl.slc
          have hX5 : ∀ {c c'}, Ext h5 ((h5.push c).set h5.size c') := (Ext.push _ _).set (Nat.le_refl _) _
          have hns5 : h4.size ≠ h5.size := by have := D5.lt; omega
          have C1 := (C.ext (Ext.push h (.cells [.int .i64 m, .int .i64 b, v] true true))).ext X
          have sz5 := X5.size
          subst hrv
          simp only [go_sem, ↓reduceIte, D5.st, e2, hns5]
          refine MC.cutb (fun fr hh => ∃ x F' rv' tl, fr = (5, .pointer (some ⟨d, 0, none⟩)) :: (7, .pointer (some ⟨h4.size, 0, none⟩)) :: (10, .pointer (some ⟨c, 0, none⟩)) :: (11, .pointer (some ⟨h5.size, 0, none⟩)) :: tl ∧ Both hh c x m b F' h5.size rv' ∧ Ext hn hh) ?_ ?_
          · refine MC.loop (fun k fr hh => ∃ i x F' rv', k = ms.length - i ∧ i ≤ ms.length ∧ fr = [(5, .pointer (some ⟨d, 0, none⟩)), (7, .pointer (some ⟨h4.size, 0, none⟩)), (10, .pointer (some ⟨c, 0, none⟩)), (11, .pointer (some ⟨h5.size, 0, none⟩)), (104, .slice wo wn wE), (105, .int .i64 (ms.length : Int)), (106, .int .i64 (i : Int))] ∧ Both hh c x m b F' h5.size rv' ∧ Ext hn hh ∧ ∀ c, F' c → hn.size ≤ c) ms.length ⟨0, s, Fc, _, rfl, Nat.zero_le _, rfl, ⟨Dc.ext hX5, by simp, by simp, D5.rl.ext hX5, fun h9 => by have := Dc.lt h9; omega, fun x hx => ⟨fun h9 => by have := hFc x h9; have := (D.rl.blk hx).1; omega, by have := (D.rl.blk hx).1; omega⟩⟩, X5.trans hX5, hFc⟩ ?_
            clear Dc hFc
            rintro k fr hh J ⟨i, x, F', rv', rfl, hi, rfl, Dc, XX, hFc⟩ hJ
            by_cases hlt : i < ms.length
            · obtain ⟨bb, vs, tt, rr, u, l, hv, g1, g2, g3, g4, A⟩ := C1.at hlt
              simp only [Value.slice.injEq] at hv
              obtain ⟨rfl, rfl, rfl⟩ := hv
              have c0 : (0 : Int) ≤ (i : Int) := by omega
              have c1 : (i : Int) < (ms.length : Int) := by omega
              have hg : hh.get bb = some (.cells vs tt rr) := by rw [XX.get _ g1]; exact g2
              have hmem : l ∈ ms := List.mem_of_getElem? g4
              have hll := sumB_mem hmem
              have hln := sumB_len ms
              have w3 : IntKind.i64.wrap ((i : Int) + 1) = ((i + 1 : Nat) : Int) := by rw [IntWalk.i64_in _ (by omega)]; omega
              simp only [go_sem, ↓reduceIte, c0, c1, hg, g3]
              refine MCall.by (wDecode Dc.dw (A.blks XX hFc) (by omega) (by omega)) ?_
              rintro uu h6 ⟨F6, D6, hF6, K6, O⟩
              have X6 : Ext hn h6 := Ext.of_keep XX K6 hFc
              have hF6' : ∀ c, F6 c → hn.size ≤ c := fun c hc => (hF6 c hc).elim (hFc c) fun h => Nat.le_trans XX.size h
              have st6 : h6.get h5.size = some (.cells [rv', .int .i64 x.st.limit, .int .i64 m, .int .i64 b, .bool x.dead] true true) := by rw [K6.get _ Dc.lt Dc.nf]; exact Dc.st
              have rl6 : RL h6 rv' x.st.L.reverse := Dc.rl.move K6.size fun y hy => K6.get y (Dc.rl.blk hy).1 (Dc.rn y hy).1
              have lt6 : h5.size < h6.size := Nat.lt_of_lt_of_le Dc.lt K6.size
              have hs7 := Dc.dw.sz
              have esb := (A.ext X6).str (q := EC.q)
              obtain ⟨ro', rn', rE', hrv'⟩ := rl6.slc
              obtain ⟨ov, e, lns, rfl, _⟩ := id O
              simp only [go_sem, ↓reduceIte, st6, esb]
              refine MCall.by (sRef07 (v0 := rv') (L := x.st.L) (limit := x.st.limit) (most := m) (bound := b) (dead := x.dead) (l := l) rl6 hs7.1 (by omega) hm (by omega) (by omega)) ?_
              rintro u5 h7 ⟨v', ov', ls', e', rfl, rl7, G7, X7, k7, hz1, hz2, hv7, hov7⟩
              obtain ⟨ov2, hu, S6⟩ := both_same O k7
              simp only [Value.tuple.injEq, Array.mk.injEq, List.cons.injEq, Value.int.injEq, true_and, and_true] at hu
              obtain ⟨rfl, he⟩ := hu
              obtain rfl : e = e' := by omega
              generalize hres : M.decode m b x l = res at *
              obtain ⟨vo, vn, vE, rfl⟩ := rl7.slc
              have st7 : h7.get h5.size = some (.cells [rv', .int .i64 x.st.limit, .int .i64 m, .int .i64 b, .bool x.dead] true true) := by rw [X7.get _ lt6]; exact st6
              have n1 : ((e : Int) != (e : Int)) = false := by simp
              have hszls : ls'.length < 1000000 := by
                rcases k7 with ⟨_, h6⟩ | ⟨_, rfl, _⟩
                · have h7 := decode_bound (most := m) (bound := b) (d := x) (b := l) (d' := res.1) (ls := ls') (by rw [hres]; exact Prod.ext rfl h6)
                  have := lsz_len ls'
                  omega
                · simp
              have D8 := Dc.step D6 hF6 K6 rl7 X7 hv7
              have S8 := ((S6.ext X7).set Dc.lt (.cells [.slice vo vn vE, .int .i64 res.1.st.limit, .int .i64 m, .int .i64 b, .bool res.1.dead] true true)).zero
              have G8 := G7.move (h' := h7.set h5.size (.cells [.slice vo vn vE, .int .i64 res.1.st.limit, .int .i64 m, .int .i64 b, .bool res.1.dead] true true)) (by simp) fun x hx => by have := hov7 x hx; simp [show x ≠ h5.size by omega]
              simp only [go_sem, ↓reduceIte, stV, st7, n1]
              refine MCall.by (sLines S8 G8 hszls) ?_
              rintro u9 h9 ⟨rfl, rfl⟩
              simp only [go_sem, ↓reduceIte, w3]
              exact hJ (ms.length - (i + 1)) _ _ (by omega) ⟨i + 1, res.1, F6, _, rfl, by omega, rfl, D8, (X6.trans X7).set sz5 _, hF6'⟩
            · have c1 : ¬ (i : Int) < (ms.length : Int) := by omega
              simp only [go_sem, ↓reduceIte, c1]
              exact ⟨x, F', rv', _, rfl, Dc, XX⟩
          · clear Dc hFc
            rintro fr hh ⟨x, F', rv', tl, rfl, Dc, XX⟩
            have DD := D.ext XX
            obtain ⟨ro', rn', rE', hrv'⟩ := Dc.rl.slc
            subst hrv'
            simp only [go_sem, ↓reduceIte, DD.st]
            refine MCall.by (sTable7 DD.dw DD.rl) ?_
            rintro u9 h9 ⟨rfl, X9⟩
            have DE := Dc.ext X9
            simp only [go_sem, ↓reduceIte, DE.st]
            refine MCall.by (sTable7 DE.dw DE.rl) ?_
            rintro u10 h10 ⟨rfl, X10⟩
            simp only [go_sem, ↓reduceIte]
  · refine MCall.by (sNewBad hin) ?_
    rintro u h2 ⟨rfl, X2⟩
    have hgc : h2.get h.size = some (.cells [.int .i64 most, .int .i64 bound, v] true true) := by rw [X2.get _ (by simp)]; simp
    by_cases a1 : most < 0
    · simp only [go_sem, ↓reduceIte, hgc, a1]
    · by_cases a2 : 65536 < most
      · simp only [go_sem, ↓reduceIte, hgc, a1, a2]
      · by_cases a3 : bound < 0
        · simp only [go_sem, ↓reduceIte, hgc, a1, a2, a3]
        · have a4 : 16384 < bound := by omega
          simp only [go_sem, ↓reduceIte, hgc, a1, a2, a3, a4]

theorem lawCopies (h : LHeap) (lvs : List Value) (hl : LArgs Try.prog h 6 [35, 31] lvs) : LCalls EC 6 lvs h fun v _ => v = .bool true := by
  obtain ⟨lv, r, rfl, hl1, hr⟩ := LArgs_cons hl
  obtain ⟨lv2, r2, rfl, hl2, hr2⟩ := LArgs_cons hr
  obtain rfl := LArgs_nil hr2
  obtain ⟨most, bound, v, ls, rfl, _, _, hb, hr⟩ := larg_case hl1
  obtain ⟨ms, hb2, hr2⟩ := larg_blocks hl2
  exact sCopies hb hr hb2 hr2
end Go.E1
