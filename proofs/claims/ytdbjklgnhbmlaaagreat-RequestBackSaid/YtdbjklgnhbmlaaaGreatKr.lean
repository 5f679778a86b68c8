/-
  RequestLines: the walk.
-/
import Derived.Test.YtdbjklgnhbmlaaaGreatKq
namespace Go.M
open Go.E1
def hd3 (m s p : ByteArray) : List Ln := [⟨(⟨#[58, 109, 101, 116, 104, 111, 100]⟩, m), false⟩, ⟨(⟨#[58, 115, 99, 104, 101, 109, 101]⟩, s), false⟩, ⟨(⟨#[58, 112, 97, 116, 104]⟩, p), false⟩]
theorem headsL_t {m s p a : ByteArray} (h : (a.data.toList == []) = true) : headsL m s p a = hd3 m s p := by
  unfold headsL hd3; rw [if_pos h, List.append_nil]
theorem headsL_f {m s p a : ByteArray} (h : (a.data.toList == []) = false) : headsL m s p a = hd3 m s p ++ [⟨(⟨#[58, 97, 117, 116, 104, 111, 114, 105, 116, 121]⟩, a), false⟩] := by
  unfold headsL hd3; rw [if_neg (by rw [h]; decide)]
end Go.M
namespace Go.E1
open Go Go.Proofs Go.M
set_option linter.unusedSimpArgs false

theorem sReqLines (m s p a : ByteArray) {fv bv : Value} {l : List Fld} {k : Nat} {h : LHeap} (F : SL 2 fc h fv l) (hl : RchF l) (hb : ∀ q h', lexec q (.lenS bv) h' = some (.int .i64 (k : Nat), h')) :
    LCalls EC 4 [reqV m s p a fv bv] h fun u _ => u = .bool true := by
  refine LCalls.enter (lf := lf4) rfl rfl (by simp [lf4]) ?_
  simp only [reqV, go_sem, lf4, ↓reduceIte]
  generalize hq : h.push (LObj.cells [Value.string m, Value.string s, Value.string p, Value.string a, fv, bv] true true) = h1
  have X1 : Ext h h1 := by rw [← hq]; exact Ext.push _ _
  have g1 : h1.get h.size = some (.cells [.string m, .string s, .string p, .string a, fv, bv] true true) := by rw [← hq]; simp
  have s1 : h1.size = h.size + 1 := by rw [← hq]; simp
  refine MCall.by (sWords m s p a (F.ext X1) hl hb) ?_
  rintro u h2 ⟨rfl, X2⟩
  have g2 := (X2.get h.size (by omega)).trans g1
  have s2 := X2.size
  cases hw : wordsB m s p a l k with
  | false => simp only [go_sem, ↓reduceIte]
  | true =>
    obtain ⟨hm, hs, hp, ha, h5, hk⟩ := words_in hw
    have hlen := s5_len l
    have hsf := sF_s5 l
    have eF := fun hh => F.len (q := EC.q) (h := hh)
    have w1 : IntKind.i64.wrap ((m.size : Int) + s.size) = ((m.size + s.size : Nat) : Int) := by rw [IntWalk.i64_in _ (by omega)]; omega
    have w2 : IntKind.i64.wrap (((m.size + s.size : Nat) : Int) + p.size) = ((m.size + s.size + p.size : Nat) : Int) := by rw [IntWalk.i64_in _ (by omega)]; omega
    have w3 : IntKind.i64.wrap (((m.size + s.size + p.size : Nat) : Int) + a.size) = ((m.size + s.size + p.size + a.size : Nat) : Int) := by rw [IntWalk.i64_in _ (by omega)]; omega
    have w4 : IntKind.i64.wrap (((m.size + s.size + p.size + a.size : Nat) : Int) + k) = ((m.size + s.size + p.size + a.size + k : Nat) : Int) := by rw [IntWalk.i64_in _ (by omega)]; omega
    simp only [go_sem, ↓reduceIte, g2, hb, eF, w1, w2, w3, w4]
    generalize hT : m.size + s.size + p.size + a.size + k = T
    have hT' : T < 25000 := by omega
    clear w1 w2 w3 w4
    refine MC.cutb (fun fr hh => ∃ tl, fr = (1, .pointer (some ⟨h.size, 0, none⟩)) :: (3, .int .i64 ((T + sF l : Nat) : Int)) :: tl ∧ Ext h2 hh) ?_ ?_
    · refine MC.loop (fun n fr hh => ∃ i tl, n = l.length - i ∧ fr = (1, .pointer (some ⟨h.size, 0, none⟩)) :: (3, .int .i64 ((T + sF (l.take i) : Nat) : Int)) :: (35, fv) :: (36, .int .i64 l.length) :: (37, .int .i64 (i : Nat)) :: tl ∧ i ≤ l.length ∧ Ext h2 hh) l.length ⟨0, [], rfl, by simp [sF], Nat.zero_le _, Ext.refl _⟩ ?_
      rintro n fr hh J ⟨i, tl, rfl, rfl, hi, X⟩ hJ
      by_cases hlt : i < l.length
      · have d3 : (i : Int) < (l.length : Int) := by omega
        have d4 : (0 : Int) ≤ (i : Int) := by omega
        obtain ⟨x, hx⟩ : ∃ x, l[i]? = some x := ⟨l[i], by simp [hlt]⟩
        obtain ⟨b, t, r, rfl, hbl, hg⟩ := F.at hx
        obtain ⟨k1, k2⟩ := fc_cel.get hx
        simp only [fc] at k1
        have hg' : hh.get b = some (.cells (l.flatMap fc) t r) := by rw [X.get b (by omega), X2.get b (by omega), X1.get b hbl]; exact hg
        have htk : sF (l.take (i + 1)) = sF (l.take i) + (x.1.size + x.2.size) := by rw [List.take_add_one, hx, sF_append]; simp [sF]
        have hxx := s5_mem (List.mem_of_getElem? hx)
        have htt := sF_take l i
        have u1 : IntKind.i64.wrap ((x.1.size : Int) + (x.2.size : Int)) = ((x.1.size + x.2.size : Nat) : Int) := by rw [IntWalk.i64_in _ (by omega)]; omega
        have u2 : IntKind.i64.wrap (((T + sF (l.take i) : Nat) : Int) + ((x.1.size + x.2.size : Nat) : Int)) = ((T + sF (l.take (i + 1)) : Nat) : Int) := by rw [IntWalk.i64_in _ (by omega)]; omega
        have w1 : IntKind.i64.wrap ((i : Int) + 1) = ((i + 1 : Nat) : Int) := by rw [IntWalk.i64_in _ (by omega)]; omega
        have hX : ∀ {c c'}, Ext hh ((hh.push c).set hh.size c') := (Ext.push _ _).set (Nat.le_refl _) _
        simp only [go_sem, ↓reduceIte, d3, d4, Int.toNat_natCast, hg', k1, k2, u1, u2, w1]
        exact hJ _ _ _ (by omega) ⟨i + 1, _, rfl, rfl, by omega, X.trans hX⟩
      · have d3 : ¬ (i : Int) < (l.length : Int) := by omega
        obtain rfl : i = l.length := by omega
        simp only [go_sem, ↓reduceIte, d3, List.take_length]
        exact ⟨_, rfl, X⟩
    · rintro fr h3 ⟨tl, rfl, X3⟩
      have g3 := (X3.get h.size (by omega)).trans g2
      have X13 := X1.trans (X2.trans X3)
      have s3 := X3.size
      have hfs : ∀ f ∈ l, f.1.size < 4611686018427387904 := fun f hf => by have := s5_mem hf; omega
      simp only [go_sem, ↓reduceIte, g3]
      refine MCall.by (sLines m s p a bv (F.ext X13) (by omega) hfs) ?_
      rintro u h4 ⟨ov, rfl, ho, X4⟩
      have g4 := (X4.get h.size (by omega)).trans g3
      have X14 := X13.trans X4
      have s4 := X4.size
      simp only [go_sem, ↓reduceIte, g4]
      refine MCall.by (sSize m s p a (F.ext X14) hb hm hs hp ha hk h5) ?_
      rintro u h5 ⟨rfl, X5⟩
      have g5 := (X5.get h.size (by omega)).trans g4
      have X15 := X14.trans X5
      have s5 := X5.size
      have q0 : (((T + sF l : Nat) : Int) != ((T + sF l : Nat) : Int)) = false := by simp
      rw [hT]
      simp only [go_sem, ↓reduceIte, q0, g5]
      refine MCall.by (sRefRight m s p a h5) ?_
      rintro u h6 ⟨rfl, e6⟩
      subst e6
      cases hr : rightB m s p a with
      | false =>
        have he : reqErr m s p a l = 31 := by simp [reqErr, hr]
        rw [he, if_neg (by decide)] at ho
        subst ho
        simp only [go_sem, ↓reduceIte, he]
        try rfl
      | true =>
        have he' : reqErr m s p a l = errF l := by simp [reqErr, hr]
        rw [he'] at ho ⊢
        simp only [go_sem, ↓reduceIte, g5]
        refine MCall.by (sFields (F.ext X15) (by omega) hfs) ?_
        rintro u h7 ⟨ov2, rfl, ho2, X7⟩
        have g7 := (X7.get h.size (by omega)).trans g5
        have s7 := X7.size
        by_cases he : errF l = 0
        · rw [if_pos he] at ho ho2
          obtain ⟨G1, f1⟩ := ho
          obtain ⟨G2, f2⟩ := ho2
          have G1' := G1.ext (X5.trans X7)
          have q1 : (((0 : Nat) : Int) != 0) = false := rfl
          have q2 : (((0 : Nat) : Int) == 0) = true := rfl
          have hll := linesF_len l
          have n1 : (h.size = h7.size) = False := by simp; omega
          simp only [go_sem, ↓reduceIte, he, q1, q2, g7, n1]
          generalize hq7 : h7.push (LObj.cells _ true true) = h8
          have X8 : Ext h7 h8 := by rw [← hq7]; exact Ext.push _ _
          have g8 := (X8.get h.size (by omega)).trans g7
          have s8 : h8.size = h7.size + 1 := by rw [← hq7]; simp
          have G : GL 3 lc h8 (.slice (some ⟨h7.size, 0, none⟩) 3 3) (hd3 m s p) := by
            refine .inr ⟨h7.size, rfl, by omega, ?_⟩
            rw [← hq7]
            simp [lc, hd3]
          have hall : (headsL m s p a ++ linesF l).length < 1000000 := by
            have := headsL_len m s p a
            rw [List.length_append]; omega
          cases hA : (a.data.toList == []) with
          | true =>
            rw [headsL_t hA] at hall G1'
            obtain ⟨v9, h9, ha9, G9, sz9, x9, n9⟩ := gl_cat lc_cel (q := EC.q) (by' := 40) G ((G2.ext X8).fst lc_cel) (by simp [hd3]; omega) (by omega)
            simp only [go_sem, ↓reduceIte, hA, ha9, q2]
            have A : GL 3 lc h9 ov (hd3 m s p ++ linesF l) := by
              refine (G1'.ext X8).move (by omega) fun b hbb => x9 b ?_ ?_
              · have := (G1'.blk hbb).1; omega
              · have := (G1'.blk hbb).1
                simp; omega
            refine MCall.by (sLinesSame A.sl G9.sl hall) ?_
            rintro u h10 ⟨rfl, X10⟩
            simp only [go_sem, ↓reduceIte]
          | false =>
            rw [headsL_f hA] at hall G1'
            obtain ⟨v9, h9, ha9, G9, sz9, x9, n9⟩ := gl_append lc_cel (q := EC.q) (by' := 40) G ⟨(⟨#[58, 97, 117, 116, 104, 111, 114, 105, 116, 121]⟩, a), false⟩ (by simp [hd3]) (by omega)
            simp only [lc] at ha9
            simp only [go_sem, ↓reduceIte, hA, g8, ha9]
            have G2' : GL 3 lc h9 ov2 (linesF l) := by
              refine (G2.ext X8).move (by omega) fun b hbb => x9 b ?_ ?_
              · have := (G2.blk hbb).1; omega
              · have := (G2.blk hbb).1
                simp; omega
            obtain ⟨v10, h10, ha10, G10, sz10, x10, n10⟩ := gl_cat lc_cel (q := EC.q) (by' := 40) G9 (G2'.fst lc_cel) (by simp [hd3]; omega) (by omega)
            simp only [go_sem, ↓reduceIte, ha10, q2]
            have A : GL 3 lc h10 ov ((hd3 m s p ++ [⟨(⟨#[58, 97, 117, 116, 104, 111, 114, 105, 116, 121]⟩, a), false⟩]) ++ linesF l) := by
              refine (G1'.ext X8).move (by omega) fun b hbb => ?_
              have := (G1'.blk hbb).1
              rw [x10 b (by omega) (fun hc => by have := n9 b hc; omega), x9 b (by omega) (by simp; omega)]
            refine MCall.by (sLinesSame A.sl G10.sl hall) ?_
            rintro u h11 ⟨rfl, X11⟩
            simp only [go_sem, ↓reduceIte]
        · rw [if_neg he] at ho ho2
          subst ho
          have q1 : ((errF l : Int) != 0) = true := by simp; omega
          have q2 : ((errF l : Int) == (errF l : Int)) = true := by simp
          simp only [go_sem, ↓reduceIte, q1, q2]
          try rfl

theorem lawLines (h : LHeap) (lvs : List Value) (hl : LArgs Tryz.prog h 6 [25] lvs) : LCalls EC 4 lvs h fun v _ => v = .bool true := by
  obtain ⟨v0, r0, rfl, h0, hr0⟩ := LArgs_cons hl
  obtain rfl := LArgs_nil hr0
  obtain ⟨m, s, p, a, fv, bv, l, k, rfl, F, R, B, _⟩ := larg_req h0
  exact sReqLines m s p a F R B
end Go.E1
