/-
  Texts joined: Lw7G, Lw7H.
-/
import Derived.Test.YtdbjklgnhbmlaaaKl
import Derived.Test.YtdbjklgnhbmlaaaKn
/-
  DecodePlays: the decoder's lines and table are the document's.
-/
namespace Go.E1
open Go Go.Proofs Go.M
set_option linter.unusedSimpArgs false

def lc (x : Ln) : List Value := [.string x.f.1, .string x.f.2, .bool x.never]
theorem lc_cel : Cel 3 lc := ⟨fun _ => rfl, fun _ => rfl, by omega⟩
theorem lcells_eq (l : List Ln) : lcells l = l.flatMap lc := rfl
theorem LS0.slc {h : LHeap} {v : Value} {l : List Ln} (S : LS0 h v l) : ∃ o n E, v = .slice o n E := by
  rcases S with ⟨_, rfl⟩ | ⟨b, _, _, _, rfl, _⟩ <;> exact ⟨_, _, _, rfl⟩

theorem sLines {h : LHeap} {v w : Value} {l : List Ln} (S : LS0 h v l) (G : GL 3 rlc h w l) (hl : l.length < 1000000) :
    LCalls EC 25 [v, w] h fun u h' => u = .bool true ∧ h' = h := by
  refine LCalls.enter (lf := lf25) rfl rfl (by simp [lf25]) ?_
  have e1 := fun h => S.len (q := EC.q) (h := h)
  have e2 := fun h => G.len (q := EC.q) (h := h)
  have nn : ((l.length : Int) != (l.length : Int)) = false := by simp
  simp only [go_sem, lf25, ↓reduceIte, e1, e2, nn]
  refine MC.cutb (fun fr hh => hh = h) ?_ ?_
  · refine MC.loop (fun k fr hh => ∃ i, k = l.length - i ∧ i ≤ l.length ∧ fr = [(0, v), (1, w), (12, .int .i64 (l.length : Int)), (13, .int .i64 (i : Int))] ∧ hh = h) l.length ⟨0, rfl, Nat.zero_le _, rfl, rfl⟩ ?_
    rintro k fr hh J ⟨i, rfl, hi, rfl, rfl⟩ hJ
    by_cases hlt : i < l.length
    · obtain ⟨b, x, t, r, rfl, h1, h2, h3, _⟩ := S.at hlt
      obtain ⟨b', rfl, g1, g2⟩ := G.at h3
      have c0 : (0 : Int) ≤ (i : Int) := by omega
      have c1 : (i : Int) < (l.length : Int) := by omega
      rw [lcells_eq] at h2
      have p0 := lc_cel.cell h3 (j := 0) (by omega)
      have p1 := lc_cel.cell h3 (j := 1) (by omega)
      have p2 := lc_cel.cell h3 (j := 2) (by omega)
      have q0 := rlc_cel.cell h3 (j := 0) (by omega)
      have q1 := rlc_cel.cell h3 (j := 1) (by omega)
      have q2 := rlc_cel.cell h3 (j := 2) (by omega)
      simp only [lc, rlc, List.getElem?_cons_zero, List.getElem?_cons_succ, Nat.add_zero] at p0 p1 p2 q0 q1 q2
      have b1 : (!(x.f.1.data.toList == x.f.1.data.toList)) = false := by simp
      have b2 : (!(x.f.2.data.toList == x.f.2.data.toList)) = false := by simp
      have b3 : (!(x.never == ((if x.never = true then (1 : Int) else 0) == 1))) = false := by cases x.never <;> rfl
      have w3 : IntKind.i64.wrap ((i : Int) + 1) = ((i + 1 : Nat) : Int) := by rw [IntWalk.i64_in _ (by omega)]; omega
      simp only [go_sem, ↓reduceIte, c0, c1]
      refine MC.dregion ?_
      simp only [go_sem, ↓reduceIte, c0, c1, h2, g2, p0, p1, p2, q0, q1, q2, b1, b2, b3, w3]
      exact hJ (l.length - (i + 1)) _ _ (by omega) ⟨i + 1, rfl, by omega, rfl, rfl⟩
    · have c1 : ¬ (i : Int) < (l.length : Int) := by omega
      simp only [go_sem, ↓reduceIte, c1]
  · rintro fr hh rfl
    simp only [go_sem, ↓reduceIte]

theorem q_pair (a b : ByteArray) : EC.q 28 (.agg #[.string a, .string b]) (.agg #[.string a, .string b]) = some true := by
  have e : qAll.lookup 28 = some [.str, .str] := rfl
  rw [EC_q]
  simp only [qOf, e, cellsEq, leafEq, decide_true, beq_self_eq_true, Bool.and_self]

theorem sTable7 {h : LHeap} {d : Nat} {s : Dec} {most bound : Nat} {F : Nat → Prop} (D : DW h d s most bound F) {v : Value} (a : RL h v s.st.L.reverse) :
    LCalls EC 26 [.pointer (some ⟨d, 0, none⟩), stV v s.st.limit most bound s.dead] h fun u h' => u = .bool true ∧ Ext h h' := by
  refine LCalls.enter (lf := lf26) rfl rfl (by simp [lf26]) ?_
  obtain ⟨vo, vn, vE, rfl⟩ := a.slc
  have hsz := D.sz
  have hlen := len_tsz s.st.L
  simp only [go_sem, lf26, ↓reduceIte, stV]
  refine MCall.by (wTable (D.ext (Ext.push _ _))) ?_
  rintro u h2 ⟨t, lv, rfl, T, X2⟩
  have X12 := (Ext.push h (.cells [.slice vo vn vE, .int .i64 s.st.limit, .int .i64 most, .int .i64 bound, .bool s.dead] true true)).trans X2
  have gs : ∀ {hh}, Ext h2 hh → hh.get h.size = some (.cells [.slice vo vn vE, .int .i64 s.st.limit, .int .i64 most, .int .i64 bound, .bool s.dead] true true) := fun X => by
    rw [(X2.trans X).get _ (by simp)]; simp
  have a2 := a.ext X12
  have el := fun h => a.len (q := EC.q) (h := h)
  simp only [List.length_reverse] at el
  have n1 : ((s.st.L.length : Int) != (s.st.L.length : Int)) = false := by simp
  have n2 : ((s.st.limit : Int) != (s.st.limit : Int)) = false := by simp
  have n3 : (!(s.dead == s.dead)) = false := by simp
  simp only [go_sem, ↓reduceIte]
  refine MC.dregion ?_
  simp only [go_sem, ↓reduceIte]
  refine MDCall.by (sLen T (by simp; omega)) ?_
  rintro u h3 ⟨rfl, rfl⟩
  simp only [go_sem, ↓reduceIte, gs (Ext.refl _), el, n1]
  refine MDCall.by (sLimit T) ?_
  rintro u h4 ⟨rfl, rfl⟩
  simp only [go_sem, ↓reduceIte, gs (Ext.refl _), el, n1, n2]
  refine MDCall.by (wDead (D.ext X12)) ?_
  rintro u h5 ⟨rfl, rfl⟩
  simp only [go_sem, ↓reduceIte, gs (Ext.refl _), el, n1, n2, n3]
  refine MC.cutb (fun fr hh => Ext h hh) ?_ ?_
  · refine MC.loop (fun k fr hh => ∃ i, k = s.st.L.length - i ∧ i ≤ s.st.L.length ∧ fr = [(3, .pointer (some ⟨h.size, 0, none⟩)), (5, .pointer (some ⟨t, 0, none⟩)), (37, .int .i64 (s.st.L.length : Int)), (38, .int .i64 (i : Int))] ∧ Ext h5 hh) s.st.L.length ⟨0, rfl, Nat.zero_le _, rfl, Ext.refl _⟩ ?_
    rintro k fr hh J ⟨i, rfl, hi, rfl, X⟩ hJ
    by_cases hlt : i < s.st.L.length
    · have a3 := a2.ext X
      obtain ⟨b, cs, t', r, e, hv, q1, q2, q3, q4, q5, q6, q7⟩ := a3.at (i := i) (by rw [List.length_reverse]; exact hlt)
      simp only [Value.slice.injEq, List.length_reverse] at hv
      obtain ⟨rfl, rfl, rfl⟩ := hv
      have c0 : (0 : Int) ≤ (i : Int) := by omega
      have c1 : (i : Int) < (s.st.L.length : Int) := by omega
      have w3 : IntKind.i64.wrap ((i : Int) + 1) = ((i + 1 : Nat) : Int) := by rw [IntWalk.i64_in _ (by omega)]; omega
      simp only [go_sem, ↓reduceIte, c0, c1, w3]
      refine MCall.by (sGetT (T.ext X) (by simp; omega) (i := i + 1) (by omega) (by omega)) ?_
      rintro u h6 ⟨rfl, X6⟩
      have hbs := q1
      have q2' : h6.get b = some (.cells cs t' r) := by rw [X6.get _ q1]; exact q2
      have hlt6 : h.size < h6.size := by have := X12.size; have := X.size; have := X6.size; have hp : (h.push (.cells [.slice (some ⟨b, 0, none⟩) s.st.L.length 2, .int .i64 s.st.limit, .int .i64 most, .int .i64 bound, .bool s.dead] true true)).size ≤ h5.size := X2.size; simp at hp; omega
      have hne : h.size ≠ h6.size := by omega
      have hnb : b ≠ h6.size := by have := X6.size; omega
      have g6 := gs (X.trans X6)
      simp only [Nat.add_sub_cancel, q3, oF, oE, Option.getD_some, pairV]
      simp only [go_sem, ↓reduceIte]
      refine MC.dregion ?_
      have n0 : (((0 : Int)) != 0) = false := rfl
      simp only [go_sem, ↓reduceIte, n0, hne, hnb, g6, c0, c1, q2', q6, q7, q_pair, w3]
      exact hJ (s.st.L.length - (i + 1)) _ _ (by omega) ⟨i + 1, rfl, by omega, rfl, (X.trans X6).trans ((Ext.push _ _).set (Nat.le_refl _) _)⟩
    · have c1 : ¬ (i : Int) < (s.st.L.length : Int) := by omega
      simp only [go_sem, ↓reduceIte, c1]
      exact X12.trans X
  · rintro fr hh X
    simp only [go_sem, ↓reduceIte]
    exact X
end Go.E1

/-
  DecodePlays: the walk.
-/
namespace Go.E1
open Go Go.Proofs Go.M
set_option linter.unusedSimpArgs false

theorem BA.str {q : EqF} {h : LHeap} {v : Value} {l : Bytes} (a : BA h v l) : lexec q (.bytesStr v) h = some (.string (toBA l), h) := by
  rcases a with ⟨rfl, rfl⟩ | ⟨b, o, rfl, B⟩
  · rfl
  · obtain ⟨cs, t, r, h1, h2, h3⟩ := B.cells
    have e : (if l.length = 0 then some [] else h.loadCells b o l.length) = some (bv l) := by
      by_cases h0 : l.length = 0
      · rw [if_pos h0, List.length_eq_zero_iff.1 h0]; rfl
      · rw [if_neg h0]
        simp only [LHeap.loadCells, h1, h2, if_true, h3]
    simp only [lexec, e, bytesOf_bv, Option.map_some, toBA]

theorem keep_set (h : LHeap) (B : Nat) (o : LObj) : Keep (fun c => c = B) h (h.set B o) := ⟨by simp, fun b _ hn => by simp [show b ≠ B from hn]⟩

/-- A decoder, and the document's one, that is its state, in a block. -/
structure Both (h : LHeap) (d : Nat) (s : Dec) (most bound : Nat) (F : Nat → Prop) (B : Nat) (rv : Value) : Prop where
  dw : DW h d s most bound F
  st : h.get B = some (.cells [rv, .int .i64 s.st.limit, .int .i64 most, .int .i64 bound, .bool s.dead] true true)
  lt : B < h.size
  rl : RL h rv s.st.L.reverse
  nf : ¬ F B
  rn : ∀ x, blkOf rv = some x → ¬ F x ∧ x ≠ B

theorem Both.ext {h h' : LHeap} {d : Nat} {s : Dec} {most bound : Nat} {F : Nat → Prop} {B : Nat} {rv : Value} (b : Both h d s most bound F B rv) (X : Ext h h') : Both h' d s most bound F B rv :=
  ⟨b.dw.ext X, by rw [X.get _ b.lt]; exact b.st, Nat.lt_of_lt_of_le b.lt X.size, b.rl.ext X, b.nf, b.rn⟩

theorem Both.step {hh h4 h5 : LHeap} {d : Nat} {s s' : Dec} {most bound : Nat} {F F' : Nat → Prop} {B : Nat} {rv v' : Value} (D : Both hh d s most bound F B rv) (D4 : DW h4 d s' most bound F') (hF4 : ∀ c, F' c → F c ∨ hh.size ≤ c) (K4 : Keep F hh h4) (rl5 : RL h5 v' s'.st.L.reverse) (X5 : Ext h4 h5) (hv5 : ∀ x, blkOf v' = some x → blkOf rv = some x ∨ h4.size ≤ x) :
    Both (h5.set B (.cells [v', .int .i64 s'.st.limit, .int .i64 most, .int .i64 bound, .bool s'.dead] true true)) d s' most bound F' B v' := by
  have lt4 : B < h4.size := Nat.lt_of_lt_of_le D.lt K4.size
  have nf4 : ¬ F' B := fun h9 => (hF4 _ h9).elim D.nf fun h => absurd D.lt (Nat.not_lt.2 h)
  have rn4 : ∀ x, blkOf v' = some x → ¬ F' x ∧ x ≠ B := by
    intro x hx
    rcases hv5 x hx with h1 | h1
    · refine ⟨fun h9 => (hF4 _ h9).elim (D.rn x h1).1 fun h => absurd (D.rl.blk h1).1 (Nat.not_lt.2 h), (D.rn x h1).2⟩
    · exact ⟨fun h9 => absurd (D4.lt h9) (Nat.not_lt.2 h1), by omega⟩
  have K : Keep (fun c => c = B) h5 (h5.set B (.cells [v', .int .i64 s'.st.limit, .int .i64 most, .int .i64 bound, .bool s'.dead] true true)) := keep_set h5 B _
  exact ⟨(D4.ext X5).keep K fun c hc h => nf4 (h ▸ hc), by simp, by have := X5.size; simp; omega, rl5.move (by simp) (fun x hx => by simp [(rn4 x hx).2]), nf4, rn4⟩

/-- What the decoder's answer and the document's are: one. -/
theorem both_same {lo : Nat} {h : LHeap} {F : Nat → Prop} {res : Dec × Except Nat (List Ln)} {u : Value} {ls : List Ln} {e : Nat} (O : Out7 lo h F res.2 u) (k : (e = 0 ∧ res.2 = .ok ls) ∨ (e ≠ 0 ∧ ls = [] ∧ res.2 = .error e)) : ∃ ov, u = .tuple #[ov, .int .i64 ((e : Nat) : Int)] ∧ LS h lo ov ls := by
  obtain ⟨ov, e', ls', rfl, S, _, k'⟩ := O
  rcases k with ⟨rfl, h5⟩ | ⟨h5, rfl, h6⟩
  · rcases k' with ⟨rfl, h5'⟩ | ⟨h5', rfl, h6'⟩
    · rw [h5] at h5'; cases h5'; exact ⟨ov, rfl, S⟩
    · rw [h5] at h6'; cases h6'
  · rcases k' with ⟨rfl, h5'⟩ | ⟨h5', rfl, h6'⟩
    · rw [h6] at h5'; cases h5'
    · rw [h6] at h6'; cases h6'; exact ⟨ov, rfl, S⟩

theorem sPlays {h : LHeap} {most bound : Int} {v : Value} {ls : List Bytes} (B : BL h v ls) (hr : ∀ l ∈ ls, l.length ≤ reachBytes) :
    LCalls EC 5 [.agg #[.int .i64 most, .int .i64 bound, v]] h fun u _ => u = .bool true := by
  refine LCalls.enter (lf := lf5) rfl rfl (by simp [lf5]) ?_
  simp only [go_sem, lf5, ↓reduceIte]
  refine MCall.by (sRight (B.ext (Ext.push _ _)) hr) ?_
  rintro u h2 ⟨rfl, X2⟩
  have hgc : h2.get h.size = some (.cells [.int .i64 most, .int .i64 bound, v] true true) := by rw [X2.get _ (by simp)]; simp
  have hc2 : h.size < h2.size := by have := X2.size; simp at this; omega
  cases hR : rightB most bound ls with
  | false => simp only [go_sem, ↓reduceIte]
  | true =>
    obtain ⟨m, b, rfl, rfl, hm, hb, hsum⟩ := rightB_nat hR
    have B2 := (B.ext (Ext.push _ _)).ext X2
    have e1 := fun h => B2.len (q := EC.q) (h := h)
    simp only [go_sem, ↓reduceIte, hgc]
    refine MCall.by (wNew hm hb) ?_
    rintro u h3 ⟨d, F, rfl, D, X3, hF⟩
    have hgc3 : h3.get h.size = some (.cells [.int .i64 m, .int .i64 b, v] true true) := by rw [X3.get _ hc2]; exact hgc
    have hns : h.size ≠ h3.size := by have := X3.size; omega
    simp only [go_sem, ↓reduceIte, hgc3, e1, hns]
    refine MC.cutb (fun fr hh => True) ?_ ?_
    · have hX : ∀ {c c'}, Ext h3 ((h3.push c).set h3.size c') := (Ext.push _ _).set (Nat.le_refl _) _
      refine MC.loop (fun k fr hh => ∃ i s F rv, k = ls.length - i ∧ i ≤ ls.length ∧ fr = [(3, .pointer (some ⟨d, 0, none⟩)), (5, .pointer (some ⟨h3.size, 0, none⟩)), (38, v), (39, .int .i64 (ls.length : Int)), (40, .int .i64 (i : Int))] ∧ Both hh d s m b F h3.size rv ∧ Ext h2 hh ∧ ∀ c, F c → h2.size ≤ c) ls.length ⟨0, ⟨⟨[], m⟩, false⟩, F, .slice none 0 0, rfl, Nat.zero_le _, rfl, ⟨D.ext hX, by simp, by simp, .inl ⟨rfl, rfl⟩, fun h9 => by have := D.lt h9; omega, fun x hx => by cases hx⟩, X3.trans hX, hF⟩ ?_
      clear D F hF
      rintro k fr hh J ⟨i, s, F, rv, rfl, hi, rfl, D, X, hF⟩ hJ
      by_cases hlt : i < ls.length
      · obtain ⟨bb, vs, tt, rr, u, l, rfl, g1, g2, g3, g4, A⟩ := B2.at hlt
        have c0 : (0 : Int) ≤ (i : Int) := by omega
        have c1 : (i : Int) < (ls.length : Int) := by omega
        have hg : hh.get bb = some (.cells vs tt rr) := by rw [X.get _ g1]; exact g2
        have hmem : l ∈ ls := List.mem_of_getElem? g4
        have hll := sumB_mem hmem
        have hln := sumB_len ls
        have w3 : IntKind.i64.wrap ((i : Int) + 1) = ((i + 1 : Nat) : Int) := by rw [IntWalk.i64_in _ (by omega)]; omega
        simp only [go_sem, ↓reduceIte, c0, c1, hg, g3]
        refine MCall.by (wDecode D.dw (A.blks X hF) (by omega) (by omega)) ?_
        rintro uu h4 ⟨F', D4, hF4, K4, O⟩
        have X4 : Ext h2 h4 := Ext.of_keep X K4 hF
        have hF4' : ∀ c, F' c → h2.size ≤ c := fun c hc => (hF4 c hc).elim (hF c) fun h => Nat.le_trans X.size h
        have st4 : h4.get h3.size = some (.cells [rv, .int .i64 s.st.limit, .int .i64 m, .int .i64 b, .bool s.dead] true true) := by rw [K4.get _ D.lt D.nf]; exact D.st
        have rl4 : RL h4 rv s.st.L.reverse := D.rl.move K4.size fun x hx => K4.get x (D.rl.blk hx).1 (D.rn x hx).1
        have lt4 : h3.size < h4.size := Nat.lt_of_lt_of_le D.lt K4.size
        have hs7 := D.dw.sz
        have esb := (A.ext X4).str (q := EC.q)
        obtain ⟨ro, rn, rE, hrv⟩ := rl4.slc
        obtain ⟨ov, e, lns, rfl, _⟩ := id O
        simp only [go_sem, ↓reduceIte, st4, esb]
        refine MCall.by (sRef07 (v0 := rv) (L := s.st.L) (limit := s.st.limit) (most := m) (bound := b) (dead := s.dead) (l := l) rl4 hs7.1 (by omega) hm (by omega) (by omega)) ?_
        rintro u5 h5 ⟨v', ov', ls', e', rfl, rl5, G5, X5, k5, hz1, hz2, hv5, hov5⟩
        obtain ⟨ov2, hu, S4⟩ := both_same O k5
        simp only [Value.tuple.injEq, Array.mk.injEq, List.cons.injEq, Value.int.injEq, true_and, and_true] at hu
        obtain ⟨rfl, he⟩ := hu
        obtain rfl : e = e' := by omega
        generalize hres : M.decode m b s l = res at *
        obtain ⟨vo, vn, vE, rfl⟩ := rl5.slc
        have st5 : h5.get h3.size = some (.cells [rv, .int .i64 s.st.limit, .int .i64 m, .int .i64 b, .bool s.dead] true true) := by rw [X5.get _ lt4]; exact st4
        have n1 : ((e : Int) != (e : Int)) = false := by simp
        simp only [go_sem, ↓reduceIte, stV, st5, n1]
        have hszls : ls'.length < 1000000 := by
          rcases k5 with ⟨_, h6⟩ | ⟨_, rfl, _⟩
          · have h7 := decode_bound (most := m) (bound := b) (d := s) (b := l) (d' := res.1) (ls := ls') (by rw [hres]; exact Prod.ext rfl h6)
            have := lsz_len ls'
            omega
          · simp
        have D6 := D.step D4 hF4 K4 rl5 X5 hv5
        have S5 := S4.ext X5
        have S6 := (S5.keep (S := fun c => c = h3.size) (keep_set h5 _ (.cells [.slice vo vn vE, .int .i64 res.1.st.limit, .int .i64 m, .int .i64 b, .bool res.1.dead] true true)) fun x n E hx h9 => by have := (S5.lt hx).1; have := D.lt; omega).zero
        have G6 := G5.move (h' := h5.set h3.size (.cells [.slice vo vn vE, .int .i64 res.1.st.limit, .int .i64 m, .int .i64 b, .bool res.1.dead] true true)) (by simp) fun x hx => by have := hov5 x hx; simp [show x ≠ h3.size by omega]
        have X6 : Ext h2 (h5.set h3.size (.cells [.slice vo vn vE, .int .i64 res.1.st.limit, .int .i64 m, .int .i64 b, .bool res.1.dead] true true)) := (X4.trans X5).set X3.size _
        refine MCall.by (sLines S6 G6 hszls) ?_
        rintro u7 h7 ⟨rfl, rfl⟩
        simp only [go_sem, ↓reduceIte, D6.st]
        refine MCall.by (sTable7 D6.dw D6.rl) ?_
        rintro u8 h8 ⟨rfl, X8⟩
        simp only [go_sem, ↓reduceIte, w3]
        exact hJ (ls.length - (i + 1)) _ _ (by omega) ⟨i + 1, res.1, F', _, rfl, by omega, rfl, D6.ext X8, X6.trans X8, hF4'⟩
      · have c1 : ¬ (i : Int) < (ls.length : Int) := by omega
        simp only [go_sem, ↓reduceIte, c1]
    · rintro fr hh _
      simp only [go_sem, ↓reduceIte]

theorem lawPlays (h : LHeap) (lvs : List Value) (hl : LArgs Try.prog h 6 [35] lvs) : LCalls EC 5 lvs h fun v _ => v = .bool true := by
  obtain ⟨lv, r, rfl, hl1, hr⟩ := LArgs_cons hl
  obtain rfl := LArgs_nil hr
  obtain ⟨most, bound, v, ls, rfl, _, _, hb, hr⟩ := larg_case hl1
  exact sPlays hb hr
end Go.E1
