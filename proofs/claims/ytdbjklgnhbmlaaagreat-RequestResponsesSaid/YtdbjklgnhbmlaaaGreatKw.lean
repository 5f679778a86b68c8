/-
  RequestResponses: the law.
-/
import Derived.Test.YtdbjklgnhbmlaaaGreatKv
namespace Go.M
open Go.E1
def ordI (o : Bool) (l : List Ln) (i : Nat) : Bool := o && !((l.take i).tail.any ownB)
theorem ordI_zero (o : Bool) (l : List Ln) : ordI o l 0 = o := by simp [ordI]
theorem ordI_one (o : Bool) (x : Ln) (t : List Ln) : ordI o (x :: t) 1 = o := by simp [ordI]
theorem ordI_step (o : Bool) {l : List Ln} {i : Nat} {x : Ln} (hx : l[i]? = some x) (hi : 0 < i) : ordI o l (i + 1) = (ordI o l i && !ownB x) := by
  unfold ordI
  have hlt : i < l.length := by
    rcases Nat.lt_or_ge i l.length with q | q
    · exact q
    · simp [List.getElem?_eq_none q] at hx
  have e : (l.take (i + 1)).tail = (l.take i).tail ++ [x] := by
    rw [List.take_add_one, hx]
    cases h : l.take i with
    | nil =>
      have h2 : min i l.length = 0 := by rw [← List.length_take, h]; rfl
      omega
    | cons y r => rfl
  rw [e, List.any_append]
  simp only [List.any_cons, List.any_nil, Bool.or_false, Bool.not_or, Bool.and_assoc]
theorem ordI_all (x : Ln) (t : List Ln) : ordI (x.f.1.data.toList == [58, 115, 116, 97, 116, 117, 115]) (x :: t) (x :: t).length = ordB (x :: t) := by
  unfold ordI ordB
  rw [List.take_length]; rfl
end Go.M
namespace Go.E1
open Go Go.Proofs Go.M
set_option linter.unusedSimpArgs false

theorem MO.cutr {E : Env} {ops : List LOper} {ks : List Nat} {b : LCode} {k : Cont} {fr : Fr} {h : LHeap} {Q : Value → LHeap → Prop} (J : Fr → LHeap → Prop) (w : MO E ops ks (.inv J k) fr h Q) (hb : ∀ fr h, J fr h → MC E b k fr h Q) : MO E ops ks (.code b k) fr h Q :=
  w.cont (kont_cut hb)
def ord0 : List Ln → Bool
  | [] => false
  | x :: _ => x.f.1.data.toList == [58, 115, 116, 97, 116, 117, 115]
theorem ord_all (l : List Ln) : ordI (ord0 l) l l.length = ordB l := by
  cases l with
  | nil => rfl
  | cons x t => exact ordI_all x t
theorem sReqResponses {v : Value} {l : List Ln} {h : LHeap} (F : SL 3 lc h v l) (hl : RchL l) : LCalls EC 6 [v] h fun u _ => u = .bool true := by
  have hrb : reachBytes ≤ 140737488355328 := by decide
  have hl1 := hl.1
  refine LCalls.enter (lf := lf6) rfl rfl (by simp [lf6]) ?_
  have eL := fun hh => F.len (q := EC.q) (h := hh)
  simp only [go_sem, lf6, ↓reduceIte]
  refine MCall.by (sDecFields (F.sa lc_cel) hl.1) ?_
  rintro fv h1 ⟨G, _, X1⟩
  have eG := fun hh => G.len (q := EC.q) (h := hh)
  have q0 : (((fldsL l).length : Int) != (l.length : Int)) = false := by rw [fldsL_len]; simp
  simp only [go_sem, ↓reduceIte, eG, eL, q0]
  refine MCall.by (sSmallF G.sl ⟨by rw [fldsL_len]; omega, fun x hx => ?_⟩) ?_
  · obtain ⟨y, hy, rfl⟩ := List.mem_map.1 hx
    exact hl.2 y hy
  rintro u h2 ⟨rfl, X2⟩
  cases hsm : smallF (fldsL l) with
  | false => simp only [go_sem, ↓reduceIte]
  | true =>
    have h5 : s5 (fldsL l) ≤ 1000 := of_decide_eq_true hsm
    have hn := s5_len (fldsL l)
    rw [fldsL_len] at hn
    have hs : ∀ x ∈ l, x.f.1.size < 100000 ∧ x.f.2.size < 100000 := fun x hx => by
      have := s5_mem (l := fldsL l) (List.mem_map.2 ⟨x, hx, rfl⟩)
      omega
    have X12 := X1.trans X2
    simp only [go_sem, ↓reduceIte]
    refine MCall.by (sResponse (F.ext X12) hl.1 hs) ?_
    rintro u h3 ⟨fv2, rfl, ho, X3⟩
    have X13 := X12.trans X3
    have Y4 : ∀ {a c}, Ext h3 ((h3.push a).set h3.size c) := (Ext.push _ _).set (Nat.le_refl _) _
    generalize hn2 : (if respE l = 0 then statOf l else 0) = n at *
    have hsh : ∃ a n e, fv2 = .slice a n e := by
      split at ho
      · exact ho.shape
      · exact ⟨_, _, _, ho⟩
    obtain ⟨a0, n0, e0, rfl⟩ := hsh
    refine MO.cutr (fun fr hh => ∃ tl, fr = (0, v) :: (3, fv) :: (4, .pointer (some ⟨h3.size, 0, none⟩)) :: (5, .int .i64 (respE l : Nat)) :: tl ∧ Ext h3 hh ∧ h3.size < hh.size ∧ hh.get h3.size = some (.cells [.int .i64 (n : Nat), .slice a0 n0 e0] true true)) ?_ ?_
    · simp only [go_sem, ↓reduceIte]
      exact ⟨_, rfl, Y4, by simp⟩
    rintro fr h4 ⟨tl, rfl, X4, s4, g4⟩
    rw [MC_seq]
    refine MC.cut (fun fr hh => ∃ tl, fr = (0, v) :: (3, fv) :: (4, .pointer (some ⟨h3.size, 0, none⟩)) :: (5, .int .i64 (respE l : Nat)) :: (6, .bool (ord0 l)) :: tl ∧ hh = h4) ?_ ?_
    · cases l with
      | nil =>
        have k0 : ¬ (((0 : Nat) : Int) > 0) := by decide
        have k0' : ¬ ((0 : Int) < ((0 : Nat) : Int)) := by decide
        have k1 : ¬ ((0 : Int) > 0) := by decide
        simp only [go_sem, ↓reduceIte, eL, k0, k0', k1, ord0, List.length_nil]
        exact ⟨_, rfl⟩
      | cons x t =>
        rcases F with ⟨h0, _⟩ | ⟨b, t1, r1, rfl, hb, hg⟩
        · cases h0
        generalize hcs : (x :: t).flatMap lc = cs at hg
        have hc0 : cs[0]? = some (.string x.f.1) := by rw [← hcs]; rfl
        have d0 : (0 : Int) ≤ 0 := by decide
        have d1 : (0 : Int) < ((t.length + 1 : Nat) : Int) := by omega
        have d1' : ((t.length + 1 : Nat) : Int) > 0 := by omega
        have gb : h4.get b = some (.cells cs t1 r1) := by rw [(X13.trans X4).get b hb, hg]
        simp only [go_sem, ↓reduceIte, eL, d0, d1, d1', gb, hc0, ord0]
        exact ⟨_, rfl⟩
    · rintro fr hc ⟨tl, rfl, e4⟩
      rw [e4]
      clear e4 hc
      have X14 := X13.trans X4
      simp only [go_sem, ↓reduceIte, eL]
      refine MC.cutb (fun fr hh => ∃ tl, fr = (0, v) :: (3, fv) :: (4, .pointer (some ⟨h3.size, 0, none⟩)) :: (5, .int .i64 (respE l : Nat)) :: (6, .bool (ordB l)) :: tl ∧ Ext h4 hh) ?_ ?_
      · refine MC.loop (fun m fr hh => ∃ i tl, m = l.length - i ∧ fr = (0, v) :: (3, fv) :: (4, .pointer (some ⟨h3.size, 0, none⟩)) :: (5, .int .i64 (respE l : Nat)) :: (6, .bool (ordI (ord0 l) l i)) :: (38, v) :: (39, .int .i64 l.length) :: (40, .int .i64 (i : Nat)) :: tl ∧ i ≤ l.length ∧ Ext h4 hh) l.length
          ⟨0, [], rfl, by rw [ordI_zero]; rfl, Nat.zero_le _, Ext.refl _⟩ ?_
        rintro m fr hh J ⟨i, tl, rfl, rfl, hi, X⟩ hJ
        by_cases hlt : i < l.length
        · have d1 : (i : Int) < (l.length : Int) := by omega
          have d0 : (0 : Int) ≤ (i : Int) := by omega
          obtain ⟨x, hx⟩ : ∃ x, l[i]? = some x := ⟨l[i], by simp [hlt]⟩
          obtain ⟨b, t, r, rfl, hb, hg⟩ := F.at hx
          obtain ⟨k1, k2⟩ := lc_cel.get hx
          have hg' : hh.get b = some (.cells (l.flatMap lc) t r) := by rw [(X14.trans X).get b hb, hg]
          have w1 : IntKind.i64.wrap ((i : Int) + 1) = ((i + 1 : Nat) : Int) := by rw [IntWalk.i64_in _ (by omega)]; omega
          simp only [lc] at k1
          have hX : ∀ {c c'}, Ext hh ((hh.push c).set hh.size c') := (Ext.push _ _).set (Nat.le_refl _) _
          cases hO : ordI (ord0 l) l i with
          | false =>
            have hO' : ordI (ord0 l) l (i + 1) = false := by
              rcases Nat.eq_zero_or_pos i with rfl | hp
              · rw [ordI_zero] at hO
                simp [ordI, hO]
              · rw [ordI_step _ hx hp, hO]; rfl
            simp only [go_sem, ↓reduceIte, d1, d0, Int.toNat_natCast, hg', k1, k2, w1]
            exact hJ _ _ _ (by omega) ⟨i + 1, _, rfl, by rw [hO'], by omega, X.trans hX⟩
          | true =>
            rcases Nat.eq_zero_or_pos i with hp | hp
            · have hO' : ordI (ord0 l) l (i + 1) = true := by
                rw [hp] at hO ⊢
                cases l with
                | nil => simp at hx
                | cons y t2 => rw [Nat.zero_add, ordI_one, ← hO, ordI_zero]
              have i0 : ((i : Int) == 0) = true := by simp; omega
              simp only [go_sem, ↓reduceIte, d1, d0, Int.toNat_natCast, hg', k1, k2, w1, i0]
              exact hJ _ _ _ (by omega) ⟨i + 1, _, rfl, by rw [hO'], by omega, X.trans hX⟩
            · have hO' : ordI (ord0 l) l (i + 1) = !ownB x := by rw [ordI_step _ hx hp, hO, Bool.true_and]
              have i1 : ((i : Int) == 0) = false := by simp; omega
              simp only [go_sem, ↓reduceIte, d1, d0, Int.toNat_natCast, hg', k1, k2, i1]
              refine MCall.by (sOwnL x _) ?_
              rintro u h' ⟨rfl, X'⟩
              simp only [go_sem, ↓reduceIte, w1]
              exact hJ _ _ _ (by omega) ⟨i + 1, _, rfl, by rw [hO'], by omega, X.trans (hX.trans X')⟩
        · have d1 : ¬ (i : Int) < (l.length : Int) := by omega
          obtain rfl : i = l.length := by omega
          simp only [go_sem, ↓reduceIte, d1]
          exact ⟨_, by rw [ord_all], X⟩
      · rintro fr hc5 ⟨tl, rfl, X5⟩
        have X15 := X14.trans X5
        have s5' := X5.size
        have g5 := (X5.get h3.size s4).trans g4
        cases hO : ordB l with
        | false =>
          have e : respE l = 32 := by simp [respE, hO]
          rw [e, if_neg (by decide)] at ho hn2
          cases ho
          subst hn2
          have q1 : (((32 : Nat) : Int) == 32) = true := rfl
          simp only [go_sem, ↓reduceIte, e, q1, g5]
          refine MCall.by (sHeadEq (l := []) 0 (.inl ⟨rfl, rfl⟩) (.inl ⟨rfl, rfl⟩) (by simp)) ?_
          rintro u h6 ⟨rfl, X6⟩
          simp only [go_sem, ↓reduceIte]
        | true =>
          cases l with
          | nil => cases hO
          | cons x t =>
            rcases F with ⟨h0, _⟩ | ⟨b, t1, r1, rfl, hb, hg⟩
            · cases h0
            generalize hcs : (x :: t).flatMap lc = cs at hg
            have hc1 : cs[1]? = some (.string x.f.2) := by rw [← hcs]; rfl
            have d0 : (0 : Int) ≤ 0 := by decide
            have d1 : (0 : Int) < ((t.length + 1 : Nat) : Int) := by omega
            have gb : hc5.get b = some (.cells cs t1 r1) := by rw [X15.get b hb, hg]
            have F' : SA 3 lc h (.slice (some ⟨b, 3, none⟩) t.length 3) t := by
              have := SA.tail (c := lc) lc_cel (b := b) (o := 0) (n := 1) (cs := cs) (t := t1) (r := r1) (h := h) (l := x :: t) (by simp) hb hg (by rw [← hcs, List.drop_zero, ← lc_cel.flat_len, List.take_length]) (by rw [← hcs, lc_cel.flat_len]; omega)
              simpa using this
            have hsl : ∀ hh : LHeap, lexec EC.q (.slice 3 (.slice (some ⟨b, 0, none⟩) (t.length + 1) 3) (some (.int .i64 1)) none none) hh = some (.slice (some ⟨b, 3, none⟩) t.length 3, hh) := fun hh => by
              have := x_slice_lo (q := EC.q) (h := hh) (e := 3) (b := b) (o := 0) (n := t.length + 1) (i := 1) (k := .i64) (by omega)
              simpa using this
            have hst : ∀ y ∈ t, y.f.1.size < 4611686018427387904 := fun y hy => by have := (hs y (List.mem_cons_of_mem _ hy)).1; omega
            simp only [List.length_cons] at hn hl1
            simp only [go_sem, ↓reduceIte, d0, d1, gb, hc1, List.length_cons]
            refine MCall.by (sRefStatus x.f.2 hc5) ?_
            rintro u h6 ⟨rfl, e6⟩
            rw [e6]
            clear e6 h6
            simp only [go_sem, ↓reduceIte, hsl]
            refine MCall.by (sCheck (F'.ext X15) (by omega) hst) ?_
            rintro u h7 ⟨rfl, X7⟩
            have g7 := (X7.get h3.size (by omega)).trans g5
            have s7 := X7.size
            by_cases hz : statN x.f.2.data.toList = 0
            · have e : respE (x :: t) = 31 := by simp [respE, hO, statOf, hz]
              rw [e, if_neg (by decide)] at ho hn2
              cases ho
              subst hn2
              have q1 : (((31 : Nat) : Int) == 31) = true := rfl
              have q2 : (((0 : Nat) : Int) == 0) = true := rfl
              simp only [go_sem, ↓reduceIte, e, hz, q1, q2, g7]
              refine MCall.by (sHeadEq (l := []) 0 (.inl ⟨rfl, rfl⟩) (.inl ⟨rfl, rfl⟩) (by simp)) ?_
              rintro u h6 ⟨rfl, X6⟩
              simp only [go_sem, ↓reduceIte]
            · have e : respE (x :: t) = firstN wLn t := by simp [respE, hO, statOf, hz]
              have q1 : ((statN x.f.2.data.toList : Int) == 0) = false := by simp; omega
              by_cases h0 : firstN wLn t = 0
              · rw [h0] at e
                rw [e, if_pos rfl] at ho hn2
                simp only [statOf] at hn2
                subst hn2
                have q2 : (((0 : Nat) : Int) != 0) = false := rfl
                have q3 : (((0 : Nat) : Int) == 0) = true := rfl
                rcases G with ⟨h0, _⟩ | ⟨bf, rfl, hbf, hgf⟩
                · cases h0
                have hfl : (fldsL (x :: t)).length = t.length + 1 := by rw [fldsL_len]; rfl
                have hsl2 : ∀ hh : LHeap, lexec EC.q (.slice 2 (.slice (some ⟨bf, 0, none⟩) (fldsL (x :: t)).length 2) (some (.int .i64 1)) none none) hh = some (.slice (some ⟨bf, 2, none⟩) t.length 2, hh) := fun hh => by
                  have := x_slice_lo (q := EC.q) (h := hh) (e := 2) (b := bf) (o := 0) (n := t.length + 1) (i := 1) (k := .i64) (by omega)
                  rw [hfl]
                  simpa using this
                have G' : SA 2 fc h1 (.slice (some ⟨bf, 2, none⟩) t.length 2) (fldsL t) := by
                  have := SA.tail (c := fc) fc_cel (b := bf) (o := 0) (n := 1) (l := fldsL (x :: t)) (by omega) hbf hgf (by rw [List.drop_zero, ← fc_cel.flat_len, List.take_length]) (by rw [fc_cel.flat_len]; omega)
                  rw [hfl] at this
                  simpa [fldsL] using this
                have Y7 : Ext h3 h7 := X4.trans (X5.trans X7)
                have Z7 : Ext h1 h7 := X2.trans (X3.trans Y7)
                simp only [List.tail_cons] at ho
                simp only [go_sem, ↓reduceIte, q1, q2, h0]
                refine MC.dregion ?_
                simp only [go_sem, ↓reduceIte, e, q3, g7, hsl2]
                refine MDCall.by (sHeadEq _ ((ho.ext Y7).sl.sa fc_cel) (G'.ext Z7) (by rw [fldsL_len]; omega)) ?_
                rintro u h8 ⟨rfl, X8⟩
                have g8 := (X8.get h3.size (by omega)).trans g7
                simp only [go_sem, ↓reduceIte, g8]
                refine MDCall.by (sInterim _ _ _) ?_
                rintro u h9 ⟨rfl, X9⟩
                have q5 : (decide ((statN x.f.2.data.toList : Int) < 200) == decide ((statN x.f.2.data.toList : Int) < 200)) = true := by simp
                simp only [go_sem, ↓reduceIte, q5]
              · rw [e, if_neg h0] at ho hn2
                cases ho
                subst hn2
                have q2 : ((firstN wLn t : Int) != 0) = true := by simp; omega
                have q3 : ((firstN wLn t : Int) == (firstN wLn t : Int)) = true := by simp
                simp only [go_sem, ↓reduceIte, e, q1, q2, q3, g7]
                refine MCall.by (sHeadEq (l := []) 0 (.inl ⟨rfl, rfl⟩) (.inl ⟨rfl, rfl⟩) (by simp)) ?_
                rintro u h6 ⟨rfl, X6⟩
                simp only [go_sem, ↓reduceIte]

theorem lawResponses (h : LHeap) (lvs : List Value) (hl : LArgs Tryz.prog h 6 [28] lvs) : LCalls EC 6 lvs h fun v _ => v = .bool true := by
  obtain ⟨v0, r0, rfl, h0, hr0⟩ := LArgs_cons hl
  obtain rfl := LArgs_nil hr0
  obtain ⟨l, F, R⟩ := larg_lines h0
  exact sReqResponses F R
end Go.E1
