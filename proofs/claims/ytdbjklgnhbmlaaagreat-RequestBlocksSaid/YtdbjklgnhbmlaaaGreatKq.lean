/-
  Layer 22: the document's answers for a request's words; lines that are one; a request's size.
-/
import Derived.Test.YtdbjklgnhbmlaaaGreatKj
namespace Go.E1
open Go Go.Proofs Go.M
set_option linter.unusedSimpArgs false

theorem sRefMethod (a : ByteArray) (h : LHeap) : LCalls EC 50 [.string a] h fun v h' => v = .bool (!(a.data.toList == []) && allB methB a) ∧ h' = h := by
  refine LCalls.enter (lf := lf50) rfl rfl (by simp [lf50]) ?_
  have hsz : a.data.toList.length = a.size := Array.length_toList
  unfold allB
  by_cases e0 : a.size = 0
  · have hn : a.data.toList = [] := List.length_eq_zero_iff.1 (by omega)
    have d0 : (a.size : Int) < 1 := by omega
    have hb : (a.data.toList == []) = true := by rw [hn]; rfl
    simp only [go_sem, lf50, ↓reduceIte, d0, hb, Bool.not_true, Bool.false_and]
  · have hb : (a.data.toList == []) = false := by
      cases hl : a.data.toList with
      | nil => rw [hl] at hsz; exact absurd hsz.symm e0
      | cons c l => rfl
    have d0 : ¬ (a.size : Int) < 1 := by omega
    by_cases e1 : a.size ≤ 4096
    · have d1 : ¬ (a.size : Int) > 4096 := by omega
      have d1' : ¬ (4096 : Int) < (a.size : Int) := by omega
      simp only [go_sem, lf50, ↓reduceIte, d0, d1, d1', hb, e1, Bool.not_false, Bool.true_and, decide_true]
      refine MC.cutb (fun fr hh => hh = h ∧ a.data.toList.all methB = true) ?_ ?_
      · refine MC.loop (fun m fr hh => ∃ i tl, m = a.size - i ∧ fr = (0, .string a) :: (3, .int .i64 (i : Nat)) :: tl ∧ i ≤ a.size ∧ hh = h ∧ ∀ c ∈ a.data.toList.take i, methB c = true) a.size ⟨0, [], rfl, rfl, Nat.zero_le _, rfl, by simp⟩ ?_
        rintro m fr hh J ⟨i, tl, rfl, rfl, hi, rfl, hno⟩ hJ
        by_cases hlt : i < a.size
        · have d3 : (i : Int) < (a.size : Int) := by omega
          have d4 : (0 : Int) ≤ (i : Int) := by omega
          obtain ⟨c, hc⟩ : ∃ c, a.data.toList[i]? = some c := ⟨a.data.toList[i]'(by omega), by simp⟩
          have w1 : IntKind.i64.wrap ((i : Int) + 1) = ((i + 1 : Nat) : Int) := by rw [IntWalk.i64_in _ (by omega)]; omega
          have good : methB c = true → ∀ x ∈ a.data.toList.take (i + 1), methB x = true := fun hn x hx => by
            rw [List.take_add_one, List.mem_append] at hx
            rcases hx with hx | hx
            · exact hno x hx
            · rw [hc] at hx
              simp only [Option.toList_some, List.mem_singleton] at hx
              rw [hx]; exact hn
          have bad : methB c = false → a.data.toList.all methB = false := fun hn => by
            rw [List.all_eq_false]
            exact ⟨c, List.mem_of_getElem? hc, by rw [hn]; decide⟩
          by_cases c1 : c.toNat < 65
          · have k1 : (c.toNat : Int) < 65 := by omega
            by_cases c3 : c.toNat = 45
            · have k3 : ((c.toNat : Int) != 45) = false := by simp; omega
              have hn : methB c = true := by unfold methB; simp; omega
              simp only [go_sem, ↓reduceIte, d3, d4, Int.toNat_natCast, hc, k1, k3, w1]
              exact hJ _ _ _ (by omega) ⟨i + 1, _, rfl, rfl, by omega, rfl, good hn⟩
            · have k3 : ((c.toNat : Int) != 45) = true := by simp; omega
              have hn : methB c = false := by unfold methB; simp; omega
              simp only [go_sem, ↓reduceIte, d3, d4, Int.toNat_natCast, hc, k1, k3, bad hn]
          · have k1 : ¬ (c.toNat : Int) < 65 := by omega
            by_cases c2 : c.toNat ≤ 90
            · have k2 : ¬ (c.toNat : Int) > 90 := by omega
              have k2' : ¬ (90 : Int) < (c.toNat : Int) := by omega
              have hn : methB c = true := by unfold methB; simp; omega
              simp only [go_sem, ↓reduceIte, d3, d4, Int.toNat_natCast, hc, k1, k2, k2', w1]
              exact hJ _ _ _ (by omega) ⟨i + 1, _, rfl, rfl, by omega, rfl, good hn⟩
            · have k2 : (c.toNat : Int) > 90 := by omega
              have k2' : (90 : Int) < (c.toNat : Int) := by omega
              have k3 : ((c.toNat : Int) != 45) = true := by simp; omega
              have hn : methB c = false := by unfold methB; simp; omega
              simp only [go_sem, ↓reduceIte, d3, d4, Int.toNat_natCast, hc, k1, k2, k2', k3, bad hn]
        · have d3 : ¬ (i : Int) < (a.size : Int) := by omega
          simp only [go_sem, ↓reduceIte, d3]
          refine List.all_eq_true.2 ?_
          rwa [List.take_of_length_le (by omega)] at hno
      · rintro fr hh ⟨rfl, hall⟩
        rw [hall]
        simp only [go_sem, ↓reduceIte]
    · have d1 : (a.size : Int) > 4096 := by omega
      have d1' : (4096 : Int) < (a.size : Int) := by omega
      simp only [go_sem, lf50, ↓reduceIte, d0, d1, d1', hb, e1, Bool.not_false, Bool.true_and, decide_false, Bool.false_and]

theorem sRefPlain (a : ByteArray) (h : LHeap) : LCalls EC 51 [.string a] h fun v h' => v = .bool (allB plainC a) ∧ h' = h := by
  refine LCalls.enter (lf := lf51) rfl rfl (by simp [lf51]) ?_
  have hsz : a.data.toList.length = a.size := Array.length_toList
  unfold allB
  by_cases e1 : a.size ≤ 4096
  · have d1 : ¬ (a.size : Int) > 4096 := by omega
    have d1' : ¬ (4096 : Int) < (a.size : Int) := by omega
    simp only [go_sem, lf51, ↓reduceIte, d1, d1', e1, Bool.true_and, decide_true]
    refine MC.cutb (fun fr hh => hh = h ∧ a.data.toList.all plainC = true) ?_ ?_
    · refine MC.loop (fun m fr hh => ∃ i tl, m = a.size - i ∧ fr = (0, .string a) :: (3, .int .i64 (i : Nat)) :: tl ∧ i ≤ a.size ∧ hh = h ∧ ∀ c ∈ a.data.toList.take i, plainC c = true) a.size ⟨0, [], rfl, rfl, Nat.zero_le _, rfl, by simp⟩ ?_
      rintro m fr hh J ⟨i, tl, rfl, rfl, hi, rfl, hno⟩ hJ
      by_cases hlt : i < a.size
      · have d3 : (i : Int) < (a.size : Int) := by omega
        have d4 : (0 : Int) ≤ (i : Int) := by omega
        obtain ⟨c, hc⟩ : ∃ c, a.data.toList[i]? = some c := ⟨a.data.toList[i]'(by omega), by simp⟩
        have w1 : IntKind.i64.wrap ((i : Int) + 1) = ((i + 1 : Nat) : Int) := by rw [IntWalk.i64_in _ (by omega)]; omega
        have bad : plainC c = false → a.data.toList.all plainC = false := fun hn => by
          rw [List.all_eq_false]
          exact ⟨c, List.mem_of_getElem? hc, by rw [hn]; decide⟩
        by_cases c1 : c.toNat < 33
        · have k1 : (c.toNat : Int) < 33 := by omega
          have hn : plainC c = false := by unfold plainC; simp; omega
          simp only [go_sem, ↓reduceIte, d3, d4, Int.toNat_natCast, hc, k1, bad hn]
        · have k1 : ¬ (c.toNat : Int) < 33 := by omega
          by_cases c2 : c.toNat = 127
          · have k2 : ((c.toNat : Int) == 127) = true := by simp; omega
            have hn : plainC c = false := by unfold plainC; simp; omega
            simp only [go_sem, ↓reduceIte, d3, d4, Int.toNat_natCast, hc, k1, k2, bad hn]
          · have k2 : ((c.toNat : Int) == 127) = false := by simp; omega
            have hn : plainC c = true := by unfold plainC; simp; omega
            simp only [go_sem, ↓reduceIte, d3, d4, Int.toNat_natCast, hc, k1, k2, w1]
            refine hJ _ _ _ (by omega) ⟨i + 1, _, rfl, rfl, by omega, rfl, fun x hx => ?_⟩
            rw [List.take_add_one, List.mem_append] at hx
            rcases hx with hx | hx
            · exact hno x hx
            · rw [hc] at hx
              simp only [Option.toList_some, List.mem_singleton] at hx
              rw [hx]; exact hn
      · have d3 : ¬ (i : Int) < (a.size : Int) := by omega
        simp only [go_sem, ↓reduceIte, d3]
        refine List.all_eq_true.2 ?_
        rwa [List.take_of_length_le (by omega)] at hno
    · rintro fr hh ⟨rfl, hall⟩
      rw [hall]
      simp only [go_sem, ↓reduceIte]
  · have d1 : (a.size : Int) > 4096 := by omega
    have d1' : (4096 : Int) < (a.size : Int) := by omega
    simp only [go_sem, lf51, ↓reduceIte, d1, d1', e1, decide_false, Bool.false_and]

theorem EC_q : EC.q = qOf qAll := by kernel_rfl
theorem q_line (a b : ByteArray) (n : Bool) : EC.q 35 (.agg #[.string a, .string b, .bool n]) (.agg #[.string a, .string b, .bool n]) = some true := by
  have e : qAll.lookup 35 = some [.str, .str, .bool] := rfl
  rw [EC_q]
  simp only [qOf, e, cellsEq, leafEq, decide_true, beq_self_eq_true, Bool.and_self]

/-- Lines that are one. -/
theorem sLinesSame {h : LHeap} {v w : Value} {l : List Ln} (A : SL 3 lc h v l) (B : SL 3 lc h w l) (hl : l.length < 1000000) :
    LCalls EC 21 [v, w] h fun u h' => u = .bool true ∧ Ext h h' := by
  refine LCalls.enter (lf := lf21) rfl rfl (by simp [lf21]) ?_
  have eA := fun hh => A.len (q := EC.q) (h := hh)
  have eB := fun hh => B.len (q := EC.q) (h := hh)
  have q0 : ((l.length : Int) != (l.length : Int)) = false := by simp
  simp only [go_sem, lf21, ↓reduceIte, eA, eB, q0]
  refine MC.cutb (fun fr hh => Ext h hh) ?_ ?_
  · refine MC.loop (fun m fr hh => ∃ i tl, m = l.length - i ∧ fr = (0, v) :: (1, w) :: (12, .int .i64 l.length) :: (13, .int .i64 (i : Nat)) :: tl ∧ i ≤ l.length ∧ Ext h hh) l.length ⟨0, [], rfl, rfl, Nat.zero_le _, Ext.refl _⟩ ?_
    rintro m fr hh J ⟨i, tl, rfl, rfl, hi, X⟩ hJ
    by_cases hlt : i < l.length
    · have d3 : (i : Int) < (l.length : Int) := by omega
      have d4 : (0 : Int) ≤ (i : Int) := by omega
      have w1 : IntKind.i64.wrap ((i : Int) + 1) = ((i + 1 : Nat) : Int) := by rw [IntWalk.i64_in _ (by omega)]; omega
      obtain ⟨x, hx⟩ : ∃ x, l[i]? = some x := ⟨l[i], by simp [hlt]⟩
      obtain ⟨b1, t1, r1, rfl, hb1, hg1⟩ := A.at hx
      obtain ⟨b2, t2, r2, rfl, hb2, hg2⟩ := B.at hx
      obtain ⟨k1, k2⟩ := lc_cel.get hx
      have g1 : hh.get b1 = some (.cells (l.flatMap lc) t1 r1) := by rw [X.get b1 hb1, hg1]
      have g2 : hh.get b2 = some (.cells (l.flatMap lc) t2 r2) := by rw [X.get b2 hb2, hg2]
      simp only [lc] at k1
      have hq := q_line x.f.1 x.f.2 x.never
      simp only [go_sem, ↓reduceIte, d3]
      refine MC.dregion ?_
      simp only [go_sem, ↓reduceIte, d3, d4, Int.toNat_natCast, g1, g2, k1, k2, hq, w1]
      exact hJ _ _ _ (by omega) ⟨i + 1, _, rfl, rfl, by omega, X⟩
    · have d3 : ¬ (i : Int) < (l.length : Int) := by omega
      simp only [go_sem, ↓reduceIte, d3]
      exact X
  · rintro fr hh X
    simp only [go_sem, ↓reduceIte]
    exact X

theorem sRefRight (m s p a : ByteArray) (h : LHeap) : LCalls EC 19 [.string m, .string s, .string p, .string a] h fun v h' => v = .bool (rightB m s p a) ∧ h' = h := by
  refine LCalls.enter (lf := lf19) rfl rfl (by simp [lf19]) ?_
  have hsz : p.data.toList.length = p.size := Array.length_toList
  unfold rightB schemeB
  simp only [go_sem, lf19, ↓reduceIte]
  refine MCall.by (sRefMethod m h) ?_
  rintro v h1 ⟨rfl, rfl⟩
  cases hm : (!(m.data.toList == []) && allB methB m) with
  | false => simp only [go_sem, ↓reduceIte, hm, Bool.false_and]
  | true =>
    simp only [go_sem, ↓reduceIte, hm, Bool.true_and]
    cases hP : p.data.toList with
    | nil =>
      rw [hP] at hsz
      have d1 : ¬ (p.size : Int) > 0 := by rw [← hsz]; decide
      have d1' : ¬ (0 : Int) < (p.size : Int) := by rw [← hsz]; decide
      have e47 : (([] : List UInt8).head? == some 47) = false := rfl
      cases hS1 : (s.data.toList == [104, 116, 116, 112]) with
      | true => simp only [go_sem, ↓reduceIte, hS1, d1, d1', e47, Bool.true_or, Bool.true_and, Bool.false_and]
      | false =>
        cases hS2 : (s.data.toList == [104, 116, 116, 112, 115]) with
        | false => simp only [go_sem, ↓reduceIte, hS1, hS2, Bool.false_or, Bool.false_and]
        | true => simp only [go_sem, ↓reduceIte, hS1, hS2, d1, d1', e47, Bool.false_or, Bool.true_and, Bool.false_and]
    | cons c l =>
      rw [hP] at hsz
      have hs1 : p.size = l.length + 1 := hsz.symm
      have d1 : (p.size : Int) > 0 := by omega
      have d1' : (0 : Int) < (p.size : Int) := by omega
      have hc : p.data.toList[0]? = some c := by rw [hP]; rfl
      have hc' : p.data.toList[(0 : Int).toNat]? = some c := hc
      have d0 : (0 : Int) ≤ 0 := Int.le_refl _
      by_cases h47 : c.toNat = 47
      · have k1 : ((c.toNat : Int) == 47) = true := by simp; omega
        have e47 : ((c :: l).head? == some (47 : UInt8)) = true := by
          have : c = 47 := UInt8.toNat_inj.1 h47
          subst this; rfl
        have rest : ∀ (fr : Fr), True := fun _ => trivial
        cases hS1 : (s.data.toList == [104, 116, 116, 112]) with
        | true =>
          simp only [go_sem, ↓reduceIte, hS1, d0, d1, d1', hc, hc', k1, e47, Bool.true_or, Bool.true_and]
          refine MCall.by (sRefPlain p h1) ?_
          rintro v h2 ⟨rfl, rfl⟩
          cases hp : allB plainC p with
          | false => simp only [go_sem, ↓reduceIte, Bool.false_and]
          | true =>
            simp only [go_sem, ↓reduceIte, Bool.true_and]
            refine MCall.by (sRefPlain a h2) ?_
            rintro v h3 ⟨rfl, rfl⟩
            simp only [go_sem, ↓reduceIte]
        | false =>
          cases hS2 : (s.data.toList == [104, 116, 116, 112, 115]) with
          | false => simp only [go_sem, ↓reduceIte, hS1, hS2, Bool.false_or, Bool.false_and]
          | true =>
            simp only [go_sem, ↓reduceIte, hS1, hS2, d0, d1, d1', hc, hc', k1, e47, Bool.false_or, Bool.true_and]
            refine MCall.by (sRefPlain p h1) ?_
            rintro v h2 ⟨rfl, rfl⟩
            cases hp : allB plainC p with
            | false => simp only [go_sem, ↓reduceIte, Bool.false_and]
            | true =>
              simp only [go_sem, ↓reduceIte, Bool.true_and]
              refine MCall.by (sRefPlain a h2) ?_
              rintro v h3 ⟨rfl, rfl⟩
              simp only [go_sem, ↓reduceIte]
      · have k1 : ((c.toNat : Int) == 47) = false := by simp; omega
        have e47 : ((c :: l).head? == some (47 : UInt8)) = false := by
          simp only [List.head?_cons, Option.some_beq_some, beq_eq_false_iff_ne]
          intro e; rw [e] at h47; exact h47 rfl
        cases hS1 : (s.data.toList == [104, 116, 116, 112]) with
        | true => simp only [go_sem, ↓reduceIte, hS1, d0, d1, d1', hc, hc', k1, e47, Bool.true_or, Bool.true_and, Bool.false_and]
        | false =>
          cases hS2 : (s.data.toList == [104, 116, 116, 112, 115]) with
          | false => simp only [go_sem, ↓reduceIte, hS1, hS2, Bool.false_or, Bool.false_and]
          | true => simp only [go_sem, ↓reduceIte, hS1, hS2, d0, d1, d1', hc, hc', k1, e47, Bool.false_or, Bool.true_and, Bool.false_and]

/-! ### size -/
def sF (l : List Fld) : Nat := (l.map fun x => x.1.size + x.2.size).sum
theorem sF_append (a b : List Fld) : sF (a ++ b) = sF a + sF b := by simp [sF]
theorem sF_take (l : List Fld) (i : Nat) : sF (l.take i) ≤ sF l := by
  conv => rhs; rw [← List.take_append_drop i l]
  rw [sF_append]; omega
theorem sF_s5 : ∀ l : List Fld, sF l ≤ s5 l
  | [] => by simp [sF, s5]
  | y :: l => by
    have := sF_s5 l
    have e : sF (y :: l) = (y.1.size + y.2.size) + sF l := by simp [sF]
    rw [e, s5_cons]; omega

/-- The loop that adds up the fields' bytes, wherever it stands. -/
theorem sSize (m s p a : ByteArray) {fv bv : Value} {l : List Fld} {k : Nat} {h : LHeap} (F : SL 2 fc h fv l) (hb : ∀ q h', lexec q (.lenS bv) h' = some (.int .i64 (k : Nat), h')) (hm : m.size < 5000) (hs : s.size < 5000) (hp : p.size < 5000) (ha : a.size < 5000) (hk : k < 5000) (h5 : s5 l ≤ 1000) :
    LCalls EC 18 [reqV m s p a fv bv] h fun v h' => v = .int .i64 ((m.size + s.size + p.size + a.size + k + sF l : Nat) : Int) ∧ Ext h h' := by
  refine LCalls.enter (lf := lf18) rfl rfl (by simp [lf18]) ?_
  have eF := fun hh => F.len (q := EC.q) (h := hh)
  have hlen := s5_len l
  have hsf := sF_s5 l
  have w1 : IntKind.i64.wrap ((m.size : Int) + s.size) = ((m.size + s.size : Nat) : Int) := by rw [IntWalk.i64_in _ (by omega)]; omega
  have w2 : IntKind.i64.wrap (((m.size + s.size : Nat) : Int) + p.size) = ((m.size + s.size + p.size : Nat) : Int) := by rw [IntWalk.i64_in _ (by omega)]; omega
  have w3 : IntKind.i64.wrap (((m.size + s.size + p.size : Nat) : Int) + a.size) = ((m.size + s.size + p.size + a.size : Nat) : Int) := by rw [IntWalk.i64_in _ (by omega)]; omega
  have w4 : IntKind.i64.wrap (((m.size + s.size + p.size + a.size : Nat) : Int) + k) = ((m.size + s.size + p.size + a.size + k : Nat) : Int) := by rw [IntWalk.i64_in _ (by omega)]; omega
  have er : reqV m s p a fv bv = .agg #[.string m, .string s, .string p, .string a, fv, bv] := rfl
  simp only [er, go_sem, lf18, ↓reduceIte, hb, eF, w1, w2, w3, w4]
  generalize hT : m.size + s.size + p.size + a.size + k = T
  have hT' : T < 25000 := by omega
  clear w1 w2 w3 w4
  generalize hq : h.push (LObj.cells [Value.string m, Value.string s, Value.string p, Value.string a, fv, bv] true true) = h1
  have X1 : Ext h h1 := by rw [← hq]; exact Ext.push _ _
  refine MC.cutb (fun fr hh => ∃ tl, fr = (3, .int .i64 ((T + sF l : Nat) : Int)) :: tl ∧ Ext h hh) ?_ ?_
  · refine MC.loop (fun n fr hh => ∃ i tl, n = l.length - i ∧ fr = (3, .int .i64 ((T + sF (l.take i) : Nat) : Int)) :: (26, fv) :: (27, .int .i64 l.length) :: (28, .int .i64 (i : Nat)) :: tl ∧ i ≤ l.length ∧ Ext h hh) l.length ⟨0, [], rfl, by simp [sF], Nat.zero_le _, X1⟩ ?_
    rintro n fr hh J ⟨i, tl, rfl, rfl, hi, X⟩ hJ
    by_cases hlt : i < l.length
    · have d3 : (i : Int) < (l.length : Int) := by omega
      have d4 : (0 : Int) ≤ (i : Int) := by omega
      obtain ⟨x, hx⟩ : ∃ x, l[i]? = some x := ⟨l[i], by simp [hlt]⟩
      obtain ⟨b, t, r, rfl, hbl, hg⟩ := F.at hx
      obtain ⟨k1, k2⟩ := fc_cel.get hx
      simp only [fc] at k1
      have hg' : hh.get b = some (.cells (l.flatMap fc) t r) := by rw [X.get b hbl]; exact hg
      have htk : sF (l.take (i + 1)) = sF (l.take i) + (x.1.size + x.2.size) := by rw [List.take_add_one, hx, sF_append]; simp [sF]
      have hxx := s5_mem (List.mem_of_getElem? hx)
      have htt := sF_take l i
      have u1 : IntKind.i64.wrap ((x.1.size : Int) + (x.2.size : Int)) = ((x.1.size + x.2.size : Nat) : Int) := by rw [IntWalk.i64_in _ (by omega)]; omega
      have u2 : IntKind.i64.wrap (((T + sF (l.take i) : Nat) : Int) + ((x.1.size + x.2.size : Nat) : Int)) = ((T + sF (l.take (i + 1)) : Nat) : Int) := by rw [IntWalk.i64_in _ (by omega)]; omega
      have w1 : IntKind.i64.wrap ((i : Int) + 1) = ((i + 1 : Nat) : Int) := by rw [IntWalk.i64_in _ (by omega)]; omega
      have hX : ∀ {c c'}, Ext hh ((hh.push c).set hh.size c') := (Ext.push _ _).set (Nat.le_refl _) _
      simp only [go_sem, ↓reduceIte, d3, d4, Int.toNat_natCast, hg', k1, k2, u1, u2, w1]
      exact hJ _ _ _ (by omega) ⟨i + 1, _, rfl, rfl, by omega, X.trans hX⟩
    · have d3 : ¬ (i : Int) < (l.length : Int) := by omega
      obtain rfl : i = l.length := by omega
      simp only [go_sem, ↓reduceIte, d3, List.take_length]
      exact ⟨_, rfl, X⟩
  · rintro fr hh ⟨tl, rfl, X⟩
    simp only [go_sem, ↓reduceIte]
    exact X
end Go.E1
