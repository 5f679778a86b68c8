/-
  Texts joined: RqR, RqU.
-/
import Derived.Test.YtdbjklgnhbmlaaaGreatKu
/-
  Layer 22: the number of three digits.
-/
namespace Go.M
open Go.E1
def digB (c : UInt8) : Bool := decide (48 ≤ c.toNat) && decide (c.toNat ≤ 57)
def numOf (l : List UInt8) : Nat := l.foldl (fun n c => n * 10 + (c.toNat - 48)) 0
theorem numOf_snoc (l : List UInt8) (c : UInt8) : numOf (l ++ [c]) = numOf l * 10 + (c.toNat - 48) := by simp [numOf]
theorem numOf_lt : ∀ (n : Nat) (l : List UInt8), l.length = n → (∀ c ∈ l, digB c = true) → numOf l < 10 ^ n
  | 0, l, h, _ => by rw [List.length_eq_zero_iff.1 h]; decide
  | n + 1, l, h, hd => by
    have hne : l ≠ [] := fun e => by rw [e] at h; simp at h
    rw [← List.dropLast_concat_getLast hne, numOf_snoc]
    have := numOf_lt n l.dropLast (by simp [h]) fun c hc => hd c ((List.dropLast_sublist l).subset hc)
    have hl := hd _ (List.getLast_mem hne)
    simp only [digB, Bool.and_eq_true, decide_eq_true_eq] at hl
    rw [Nat.pow_succ]; omega
def statN (l : List UInt8) : Nat := if l.length = 3 ∧ l.all digB = true ∧ 100 ≤ numOf l ∧ numOf l ≤ 599 then numOf l else 0
theorem statN_bad {l : List UInt8} (h : l.all digB = false) : statN l = 0 := by unfold statN; rw [if_neg]; rintro ⟨_, h2, _⟩; rw [h] at h2; cases h2
theorem statN_len {l : List UInt8} (h : l.length ≠ 3) : statN l = 0 := by unfold statN; rw [if_neg]; rintro ⟨h2, _⟩; exact h h2
end Go.M
namespace Go.E1
open Go Go.Proofs Go.M
set_option linter.unusedSimpArgs false

theorem wrap_u8_sub {c : UInt8} (h : digB c = true) : IntKind.u8.wrap ((c.toNat : Int) - 48) = ((c.toNat - 48 : Nat) : Int) := by
  simp only [digB, Bool.and_eq_true, decide_eq_true_eq] at h
  have e : ((c.toNat : Int) - 48) = ((c.toNat - 48 : Nat) : Int) := by omega
  rw [e]
  simp only [IntKind.wrap, IntKind.signed, IntKind.bits]
  simp
  omega

theorem sStatus (a : ByteArray) (hsz : a.size < 100000) (h : LHeap) : LCalls EC 56 [.string a] h fun v h' => v = .int .i64 (statN a.data.toList : Nat) ∧ h' = h := by
  refine LCalls.enter (lf := lf56) rfl rfl (by simp [lf56]) ?_
  have hln : a.data.toList.length = a.size := Array.length_toList
  simp only [go_sem, lf56, ↓reduceIte]
  refine MC.cutb (fun fr hh => ∃ n tl, fr = (0, .string a) :: (3, .int .i64 n) :: tl ∧ hh = h ∧ (∀ c ∈ a.data.toList, digB c = true) ∧ (a.size = 3 → n = (numOf a.data.toList : Nat))) ?_ ?_
  · refine MC.loop (fun m fr hh => ∃ i n tl, m = a.size - i ∧ fr = (0, .string a) :: (3, .int .i64 n) :: (6, .int .i64 a.size) :: (7, .int .i64 (i : Nat)) :: tl ∧ i ≤ a.size ∧ hh = h ∧ (∀ c ∈ a.data.toList.take i, digB c = true) ∧ (a.size = 3 → n = (numOf (a.data.toList.take i) : Nat))) a.size
      ⟨0, 0, [], rfl, rfl, Nat.zero_le _, rfl, by simp, fun _ => rfl⟩ ?_
    rintro m fr hh J ⟨i, n, tl, rfl, rfl, hi, rfl, hno, hnum⟩ hJ
    by_cases hlt : i < a.size
    · have d1 : (i : Int) < (a.size : Int) := by omega
      have d0 : (0 : Int) ≤ (i : Int) := by omega
      obtain ⟨c, hc⟩ : ∃ c, a.data.toList[i]? = some c := ⟨a.data.toList[i]'(by omega), by simp⟩
      have w1 : IntKind.i64.wrap ((i : Int) + 1) = ((i + 1 : Nat) : Int) := by rw [IntWalk.i64_in _ (by omega)]; omega
      have tk : a.data.toList.take (i + 1) = a.data.toList.take i ++ [c] := by rw [List.take_add_one, hc]; rfl
      have bad : digB c = false → statN a.data.toList = 0 := fun hn => statN_bad (List.all_eq_false.2 ⟨c, List.mem_of_getElem? hc, by rw [hn]; decide⟩)
      by_cases c1 : c.toNat < 48
      · have k1 : (c.toNat : Int) < 48 := by omega
        have hn : digB c = false := by unfold digB; simp; omega
        simp only [go_sem, ↓reduceIte, d0, d1, Int.toNat_natCast, hc, k1, bad hn]
        try rfl
      · have k1 : ¬ (c.toNat : Int) < 48 := by omega
        by_cases c2 : c.toNat ≤ 57
        · have k2 : ¬ (57 : Int) < (c.toNat : Int) := by omega
          have k2' : ¬ (c.toNat : Int) > 57 := by omega
          have hn : digB c = true := by unfold digB; simp; omega
          have u1 := wrap_u8_sub hn
          have u2 : IntKind.i64.wrap ((c.toNat - 48 : Nat) : Int) = ((c.toNat - 48 : Nat) : Int) := IntWalk.i64_in _ (by omega)
          simp only [go_sem, ↓reduceIte, d0, d1, Int.toNat_natCast, hc, k1, k2, k2', u1, u2, w1]
          refine hJ _ _ _ (by omega) ⟨i + 1, _, _, rfl, rfl, by omega, rfl, ?_, fun h3 => ?_⟩
          · intro x hx
            rw [tk, List.mem_append] at hx
            rcases hx with hx | hx
            · exact hno x hx
            · rw [List.mem_singleton.1 hx]; exact hn
          · have hp := numOf_lt i _ (by rw [List.length_take]; omega) hno
            have h10 : 10 ^ i ≤ 10 ^ 3 := Nat.pow_le_pow_right (by decide) (by omega)
            rw [hnum h3, tk, numOf_snoc]
            rw [IntWalk.i64_in (((numOf (a.data.toList.take i) : Nat) : Int) * 10) (by omega), IntWalk.i64_in _ (by omega)]
            omega
        · have k2 : (57 : Int) < (c.toNat : Int) := by omega
          have k2' : (c.toNat : Int) > 57 := by omega
          have hn : digB c = false := by unfold digB; simp; omega
          simp only [go_sem, ↓reduceIte, d0, d1, Int.toNat_natCast, hc, k1, k2, k2', bad hn]
          try rfl
    · have d1 : ¬ (i : Int) < (a.size : Int) := by omega
      rw [List.take_of_length_le (by omega)] at hno hnum
      simp only [go_sem, ↓reduceIte, d1]
      exact ⟨_, _, rfl, hno, hnum⟩
  · rintro fr hh ⟨n, tl, rfl, rfl, hall, hnum⟩
    by_cases h3 : a.size = 3
    · have q0 : ((a.size : Int) != 3) = false := by rw [h3]; rfl
      have hn := hnum h3
      subst hn
      have hA : a.data.toList.all digB = true := List.all_eq_true.2 hall
      by_cases c1 : numOf a.data.toList < 100
      · have k1 : ((numOf a.data.toList : Nat) : Int) < 100 := by omega
        have e : statN a.data.toList = 0 := by unfold statN; rw [if_neg]; rintro ⟨_, _, h2, _⟩; omega
        simp only [go_sem, ↓reduceIte, q0, k1, e]
        try rfl
      · have k1 : ¬ ((numOf a.data.toList : Nat) : Int) < 100 := by omega
        by_cases c2 : numOf a.data.toList ≤ 599
        · have k2 : ¬ ((numOf a.data.toList : Nat) : Int) > 599 := by omega
          have k2' : ¬ (599 : Int) < ((numOf a.data.toList : Nat) : Int) := by omega
          have e : statN a.data.toList = numOf a.data.toList := by unfold statN; rw [if_pos ⟨by omega, hA, by omega, c2⟩]
          simp only [go_sem, ↓reduceIte, q0, k1, k2, k2', e]
        · have k2 : ((numOf a.data.toList : Nat) : Int) > 599 := by omega
          have k2' : (599 : Int) < ((numOf a.data.toList : Nat) : Int) := by omega
          have e : statN a.data.toList = 0 := by unfold statN; rw [if_neg]; rintro ⟨_, _, _, h2⟩; omega
          simp only [go_sem, ↓reduceIte, q0, k1, k2, k2', e]
          try rfl
    · have q1 : ((a.size : Int) != 3) = true := by simp; omega
      have e : statN a.data.toList = 0 := statN_len (by omega)
      simp only [go_sem, ↓reduceIte, q1, e]
      try rfl

theorem sRefStatus (a : ByteArray) (h : LHeap) : LCalls EC 29 [.string a] h fun v h' => v = .int .i64 (statN a.data.toList : Nat) ∧ h' = h := by
  refine LCalls.enter (lf := lf29) rfl rfl (by simp [lf29]) ?_
  have hln : a.data.toList.length = a.size := Array.length_toList
  by_cases h3 : a.size = 3
  · have q0 : ((a.size : Int) != 3) = false := by rw [h3]; rfl
    obtain ⟨x, y, z, hl⟩ : ∃ x y z, a.data.toList = [x, y, z] := by
      rw [h3] at hln
      match a.data.toList, hln with
      | [x, y, z], _ => exact ⟨x, y, z, rfl⟩
    have i0 : a.data.toList[(0 : Int).toNat]? = some x := by rw [hl]; rfl
    have i1 : a.data.toList[(1 : Int).toNat]? = some y := by rw [hl]; rfl
    have i2 : a.data.toList[(2 : Int).toNat]? = some z := by rw [hl]; rfl
    have j0 : a.data.toList[0]? = some x := i0
    have j1 : a.data.toList[1]? = some y := i1
    have j2 : a.data.toList[2]? = some z := i2
    have z0 : (0 : Int) ≤ 0 := by decide
    have z1 : (0 : Int) ≤ 1 := by decide
    have z2 : (0 : Int) ≤ 2 := by decide
    have hS : statN a.data.toList = if (digB x = true ∧ digB y = true ∧ digB z = true) ∧ 49 ≤ x.toNat ∧ x.toNat ≤ 53 then (x.toNat - 48) * 100 + (y.toNat - 48) * 10 + (z.toNat - 48) else 0 := by
      rw [hl]
      unfold statN numOf
      simp only [List.length_cons, List.length_nil, List.all_cons, List.all_nil, Bool.and_true, Bool.and_eq_true, List.foldl_cons, List.foldl_nil]
      by_cases hd : digB x = true ∧ digB y = true ∧ digB z = true
      · obtain ⟨hx, hy, hz⟩ := hd
        simp only [hx, hy, hz, true_and, and_self]
        simp only [digB, Bool.and_eq_true, decide_eq_true_eq] at hx hy hz
        by_cases hr : 49 ≤ x.toNat ∧ x.toNat ≤ 53
        · rw [if_pos (by omega), if_pos hr]; omega
        · rw [if_neg (by omega), if_neg hr]
      · rw [if_neg (fun h => hd h.2.1), if_neg (fun h => hd h.1)]
    have bad : ¬ ((digB x = true ∧ digB y = true ∧ digB z = true) ∧ 49 ≤ x.toNat ∧ x.toNat ≤ 53) → statN a.data.toList = 0 := fun hn => by rw [hS, if_neg hn]
    have dg : ∀ c : UInt8, digB c = true ↔ 48 ≤ c.toNat ∧ c.toNat ≤ 57 := fun c => by simp [digB]
    simp only [dg] at bad hS
    by_cases x1 : x.toNat < 49
    · have k1 : (x.toNat : Int) < 49 := by omega
      simp only [go_sem, lf29, ↓reduceIte, q0, z0, z1, z2, i0, i1, i2, j0, j1, j2, k1, bad (by omega)]
      try rfl
    have k1 : ¬ (x.toNat : Int) < 49 := by omega
    by_cases x2 : 53 < x.toNat
    · have k2 : (53 : Int) < (x.toNat : Int) := by omega
      have k2' : (x.toNat : Int) > 53 := by omega
      simp only [go_sem, lf29, ↓reduceIte, q0, z0, z1, z2, i0, i1, i2, j0, j1, j2, k1, k2, k2', bad (by omega)]
      try rfl
    have k2 : ¬ (53 : Int) < (x.toNat : Int) := by omega
    have k2' : ¬ (x.toNat : Int) > 53 := by omega
    by_cases y1 : y.toNat < 48
    · have m1 : (y.toNat : Int) < 48 := by omega
      simp only [go_sem, lf29, ↓reduceIte, q0, z0, z1, z2, i0, i1, i2, j0, j1, j2, k1, k2, k2', m1, bad (by omega)]
      try rfl
    have m1 : ¬ (y.toNat : Int) < 48 := by omega
    by_cases y2 : 57 < y.toNat
    · have m2 : (57 : Int) < (y.toNat : Int) := by omega
      have m2' : (y.toNat : Int) > 57 := by omega
      simp only [go_sem, lf29, ↓reduceIte, q0, z0, z1, z2, i0, i1, i2, j0, j1, j2, k1, k2, k2', m1, m2, m2', bad (by omega)]
      try rfl
    have m2 : ¬ (57 : Int) < (y.toNat : Int) := by omega
    have m2' : ¬ (y.toNat : Int) > 57 := by omega
    by_cases t1 : z.toNat < 48
    · have n1 : (z.toNat : Int) < 48 := by omega
      simp only [go_sem, lf29, ↓reduceIte, q0, z0, z1, z2, i0, i1, i2, j0, j1, j2, k1, k2, k2', m1, m2, m2', n1, bad (by omega)]
      try rfl
    have n1 : ¬ (z.toNat : Int) < 48 := by omega
    by_cases t2 : 57 < z.toNat
    · have n2 : (57 : Int) < (z.toNat : Int) := by omega
      have n2' : (z.toNat : Int) > 57 := by omega
      simp only [go_sem, lf29, ↓reduceIte, q0, z0, z1, z2, i0, i1, i2, j0, j1, j2, k1, k2, k2', m1, m2, m2', n1, n2, n2', bad (by omega)]
      try rfl
    have n2 : ¬ (57 : Int) < (z.toNat : Int) := by omega
    have n2' : ¬ (z.toNat : Int) > 57 := by omega
    have ux := wrap_u8_sub (c := x) ((dg x).2 (by omega))
    have uy := wrap_u8_sub (c := y) ((dg y).2 (by omega))
    have uz := wrap_u8_sub (c := z) ((dg z).2 (by omega))
    have vx : IntKind.i64.wrap ((x.toNat - 48 : Nat) : Int) = ((x.toNat - 48 : Nat) : Int) := IntWalk.i64_in _ (by omega)
    have vy : IntKind.i64.wrap ((y.toNat - 48 : Nat) : Int) = ((y.toNat - 48 : Nat) : Int) := IntWalk.i64_in _ (by omega)
    have vz : IntKind.i64.wrap ((z.toNat - 48 : Nat) : Int) = ((z.toNat - 48 : Nat) : Int) := IntWalk.i64_in _ (by omega)
    have p1 : IntKind.i64.wrap (((x.toNat - 48 : Nat) : Int) * 100) = ((x.toNat - 48 : Nat) : Int) * 100 := IntWalk.i64_in _ (by omega)
    have p2 : IntKind.i64.wrap (((y.toNat - 48 : Nat) : Int) * 10) = ((y.toNat - 48 : Nat) : Int) * 10 := IntWalk.i64_in _ (by omega)
    have p3 : IntKind.i64.wrap (((x.toNat - 48 : Nat) : Int) * 100 + ((y.toNat - 48 : Nat) : Int) * 10) = ((x.toNat - 48 : Nat) : Int) * 100 + ((y.toNat - 48 : Nat) : Int) * 10 := IntWalk.i64_in _ (by omega)
    have p4 : IntKind.i64.wrap (((x.toNat - 48 : Nat) : Int) * 100 + ((y.toNat - 48 : Nat) : Int) * 10 + ((z.toNat - 48 : Nat) : Int)) = ((statN a.data.toList : Nat) : Int) := by
      rw [IntWalk.i64_in _ (by omega), hS, if_pos (by omega)]; omega
    simp only [go_sem, lf29, ↓reduceIte, q0, z0, z1, z2, i0, i1, i2, j0, j1, j2, k1, k2, k2', m1, m2, m2', n1, n2, n2']
    refine MC.dregion ?_
    simp only [go_sem, ↓reduceIte, z0, z1, z2, i0, i1, i2, j0, j1, j2, ux, uy, uz, vx, vy, vz, p1, p2, p3, p4]
  · have q1 : ((a.size : Int) != 3) = true := by simp; omega
    have e : statN a.data.toList = 0 := statN_len (by omega)
    simp only [go_sem, lf29, ↓reduceIte, q1, e]
    try rfl
end Go.E1

/-
  RequestResponses: the walk.
-/
namespace Go.M
open Go.E1
def ordB : List Ln → Bool
  | [] => false
  | x :: t => (x.f.1.data.toList == [58, 115, 116, 97, 116, 117, 115]) && !(t.any ownB)
def statOf : List Ln → Nat
  | [] => 0
  | x :: _ => statN x.f.2.data.toList
def respE (l : List Ln) : Nat := if ordB l = false then 32 else if statOf l = 0 then 31 else firstN wLn l.tail
theorem statN_lt (l : List UInt8) : statN l ≤ 599 := by
  unfold statN
  split
  · rename_i h; exact h.2.2.2
  · omega
end Go.M
namespace Go.E1
open Go Go.Proofs Go.M
set_option linter.unusedSimpArgs false

theorem GL.shape {α : Type} {k : Nat} {c : α → List Value} {h : LHeap} {v : Value} {l : List α} (g : GL k c h v l) : ∃ a n e, v = .slice a n e := by
  rcases g with ⟨_, rfl⟩ | ⟨b, rfl, _⟩ <;> exact ⟨_, _, _, rfl⟩
theorem sEqFlds {h : LHeap} {v w : Value} {l : List Fld} (A : SA 2 fc h v l) (B : SA 2 fc h w l) (hl : l.length < 1000000000000000) :
    LCalls EC 57 [v, w] h fun u h' => u = .bool true ∧ Ext h h' := by
  refine LCalls.enter (lf := lf57) rfl rfl (by simp [lf57]) ?_
  have eA := fun hh => A.len (q := EC.q) (h := hh)
  have eB := fun hh => B.len (q := EC.q) (h := hh)
  have q0 : ((l.length : Int) != (l.length : Int)) = false := by simp
  simp only [go_sem, lf57, ↓reduceIte, eA, eB, q0]
  refine MC.cutb (fun fr hh => Ext h hh) ?_ ?_
  · refine MC.loop (fun m fr hh => ∃ i tl, m = l.length - i ∧ fr = (0, v) :: (1, w) :: (12, .int .i64 l.length) :: (13, .int .i64 (i : Nat)) :: tl ∧ i ≤ l.length ∧ Ext h hh) l.length ⟨0, [], rfl, rfl, Nat.zero_le _, Ext.refl _⟩ ?_
    rintro m fr hh J ⟨i, tl, rfl, rfl, hi, X⟩ hJ
    by_cases hlt : i < l.length
    · have d3 : (i : Int) < (l.length : Int) := by omega
      have d4 : (0 : Int) ≤ (i : Int) := by omega
      have w1 : IntKind.i64.wrap ((i : Int) + 1) = ((i + 1 : Nat) : Int) := by rw [IntWalk.i64_in _ (by omega)]; omega
      obtain ⟨x, hx⟩ : ∃ x, l[i]? = some x := ⟨l[i], by simp [hlt]⟩
      obtain ⟨b1, o1, c1, t1, r1, rfl, hb1, hg1, k1, k2⟩ := A.at fc_cel hx
      obtain ⟨b2, o2, c2, t2, r2, rfl, hb2, hg2, m1, m2⟩ := B.at fc_cel hx
      have g1 : hh.get b1 = some (.cells c1 t1 r1) := by rw [X.get b1 hb1, hg1]
      have g2 : hh.get b2 = some (.cells c2 t2 r2) := by rw [X.get b2 hb2, hg2]
      simp only [fc] at k1 m1
      have hq := q_fld x.1 x.2
      simp only [go_sem, ↓reduceIte, d3]
      refine MC.dregion ?_
      simp only [go_sem, ↓reduceIte, d3, d4, Int.toNat_natCast, g1, g2, k1, k2, m1, m2, hq, w1]
      exact hJ _ _ _ (by omega) ⟨i + 1, _, rfl, rfl, by omega, X⟩
    · have d3 : ¬ (i : Int) < (l.length : Int) := by omega
      simp only [go_sem, ↓reduceIte, d3]
      exact X
  · rintro fr hh X
    simp only [go_sem, ↓reduceIte]
    exact X

theorem sHeadEq {h : LHeap} {v w : Value} {l : List Fld} (n : Nat) (A : SA 2 fc h v l) (B : SA 2 fc h w l) (hl : l.length < 1000000000000000) :
    LCalls EC 28 [.agg #[.int .i64 (n : Nat), v], .agg #[.int .i64 (n : Nat), w]] h fun u h' => u = .bool true ∧ Ext h h' := by
  refine LCalls.enter (lf := lf28) rfl rfl (by simp [lf28]) ?_
  have n1 : (h.size = h.size + 1) = False := by simp
  have q0 : ((n : Int) == (n : Int)) = true := by simp
  simp only [go_sem, lf28, ↓reduceIte, n1, q0]
  have X : ∀ {a b}, Ext h ((h.push a).push b) := (Ext.push _ _).trans (Ext.push _ _)
  refine MCall.by (sEqFlds (A.ext X) (B.ext X) hl) ?_
  rintro u h2 ⟨rfl, X2⟩
  simp only [go_sem, ↓reduceIte]
  exact X.trans X2
theorem sInterim (n : Nat) (v : Value) (h : LHeap) : LCalls EC 30 [.agg #[.int .i64 (n : Nat), v]] h fun u h' => u = .bool (decide ((n : Int) < 200)) ∧ Ext h h' := by
  refine LCalls.enter (lf := lf30) rfl rfl (by simp [lf30]) ?_
  simp only [go_sem, lf30, ↓reduceIte]
  exact Ext.push _ _

theorem sResponse {h : LHeap} {v : Value} {l : List Ln} (F : SL 3 lc h v l) (hl : l.length * 40 ≤ reachBytes) (hs : ∀ x ∈ l, x.f.1.size < 100000 ∧ x.f.2.size < 100000) :
    LCalls EC 27 [v] h fun u h' => ∃ fv, u = .tuple #[.agg #[.int .i64 ((if respE l = 0 then statOf l else 0 : Nat) : Int), fv], .int .i64 (respE l : Nat)] ∧ (if respE l = 0 then GL 2 fc h' fv (fldsL l.tail) else fv = .slice none 0 0) ∧ Ext h h' := by
  have hrb : reachBytes ≤ 140737488355328 := by decide
  refine LCalls.enter (lf := lf27) rfl rfl (by simp [lf27]) ?_
  have eL := fun hh => F.len (q := EC.q) (h := hh)
  cases l with
  | nil =>
    have q0 : ((([] : List Ln).length : Int) == 0) = true := rfl
    simp only [go_sem, lf27, ↓reduceIte, eL, q0]
    exact ⟨.slice none 0 0, rfl, rfl, (Ext.push _ _).set (Nat.le_refl _) _⟩
  | cons x t =>
    have q0 : (((t.length + 1 : Nat) : Int) == 0) = false := by simp; omega
    rcases F with ⟨h0, _⟩ | ⟨b, t1, r1, rfl, hb, hg⟩
    · cases h0
    generalize hcs : (x :: t).flatMap lc = cs at hg
    have hc0 : cs[0]? = some (.string x.f.1) := by rw [← hcs]; rfl
    have hc1 : cs[1]? = some (.string x.f.2) := by rw [← hcs]; rfl
    have d0 : (0 : Int) ≤ 0 := by decide
    have d1 : (0 : Int) < ((t.length + 1 : Nat) : Int) := by omega
    have d2 : (1 : Int) ≤ ((t.length + 1 : Nat) : Int) := by omega
    have d3 : 1 ≤ t.length + 1 := by omega
    have nb : (b = h.size) = False := by simp; omega
    simp only [go_sem, lf27, ↓reduceIte, eL, q0, d0, d1, d2, d3, hg, hc0, hc1, nb]
    have F' : SA 3 lc h (.slice (some ⟨b, 3, none⟩) t.length 3) t := by
      have := SA.tail (c := lc) lc_cel (b := b) (o := 0) (n := 1) (cs := cs) (t := t1) (r := r1) (h := h) (l := x :: t) (by simp) hb hg (by rw [← hcs, List.drop_zero, ← lc_cel.flat_len, List.take_length]) (by rw [← hcs, lc_cel.flat_len]; omega)
      simpa using this
    have hsl : ∀ hh : LHeap, lexec EC.q (.slice 3 (.slice (some ⟨b, 0, none⟩) (t.length + 1) 3) (some (.int .i64 1)) none none) hh = some (.slice (some ⟨b, 3, none⟩) t.length 3, hh) := fun hh => by
      have := x_slice_lo (q := EC.q) (h := hh) (e := 3) (b := b) (o := 0) (n := t.length + 1) (i := 1) (k := .i64) (by omega)
      simpa using this
    obtain ⟨hs1, hs2⟩ := hs x (List.mem_cons_self ..)
    have hst : ∀ y ∈ t, y.f.1.size < 4611686018427387904 := fun y hy => by have := (hs y (List.mem_cons_of_mem _ hy)).1; omega
    have htl : t.length * 40 ≤ reachBytes := by simp at hl; omega
    have X1 : ∀ {a b}, Ext h ((h.push a).set h.size b) := (Ext.push _ _).set (Nat.le_refl _) _
    cases hN : (x.f.1.data.toList == [58, 115, 116, 97, 116, 117, 115]) with
    | false =>
      have hO : ordB (x :: t) = false := by simp only [ordB, hN, Bool.false_and]
      have e : respE (x :: t) = 32 := by simp [respE, hO]
      simp only [go_sem, ↓reduceIte, hN]
      exact ⟨.slice none 0 0, by rw [e]; rfl, by rw [e]; rfl, X1⟩
    | true =>
      simp only [go_sem, ↓reduceIte, hN, hsl]
      generalize hq : h.push (LObj.cells [Value.int IntKind.i64 0, Value.slice none 0 0] true true) = h1
      have Xa : Ext h h1 := by rw [← hq]; exact Ext.push _ _
      have ga : h1.get h.size = some (.cells [.int .i64 0, .slice none 0 0] true true) := by rw [← hq]; simp
      have sa : h1.size = h.size + 1 := by rw [← hq]; simp
      refine MCall.by (sAnyOwn (F'.ext Xa) (by omega)) ?_
      rintro u h2 ⟨rfl, X2⟩
      have g2 := (X2.get h.size (by omega)).trans ga
      have s2 := X2.size
      have X12 := Xa.trans X2
      cases hO2 : t.any ownB with
      | true =>
        have hO : ordB (x :: t) = false := by simp only [ordB, hN, hO2]; rfl
        have e : respE (x :: t) = 32 := by simp [respE, hO]
        simp only [go_sem, ↓reduceIte, g2]
        exact ⟨.slice none 0 0, by rw [e]; rfl, by rw [e]; rfl, X12.set (Nat.le_refl _) _⟩
      | false =>
        have hO : ordB (x :: t) = true := by simp only [ordB, hN, hO2]; rfl
        have gb : h2.get b = some (.cells cs t1 r1) := by rw [X12.get b hb, hg]
        simp only [go_sem, ↓reduceIte, d0, d1, gb, hc1]
        refine MCall.by (sStatus x.f.2 hs2 h2) ?_
        rintro u h3 ⟨rfl, e3⟩
        subst e3
        by_cases hz : statN x.f.2.data.toList = 0
        · have q1 : (((0 : Nat) : Int) == 0) = true := rfl
          have e : respE (x :: t) = 31 := by simp [respE, hO, statOf, hz]
          simp only [go_sem, ↓reduceIte, hz, q1, g2]
          exact ⟨.slice none 0 0, by rw [e]; rfl, by rw [e]; rfl, X12.set (Nat.le_refl _) _⟩
        · have q1 : ((statN x.f.2.data.toList : Int) == 0) = false := by simp; omega
          have e : respE (x :: t) = firstN wLn t := by simp [respE, hO, statOf, hz]
          simp only [go_sem, ↓reduceIte, q1, hsl]
          refine MCall.by (sCheck (F'.ext X12) (by omega) hst) ?_
          rintro u h4 ⟨rfl, X4⟩
          have g4 := (X4.get h.size (by omega)).trans g2
          have s4 := X4.size
          have X14 := X12.trans X4
          by_cases h0 : firstN wLn t = 0
          · have q2 : (((0 : Nat) : Int) != 0) = false := rfl
            simp only [go_sem, ↓reduceIte, h0, q2, hsl]
            refine MCall.by (sDecFields (F'.ext X14) htl) ?_
            rintro fv h5 ⟨G, hf, X5⟩
            have g5 := (X5.get h.size (by omega)).trans g4
            have s5 := X5.size
            have X15 := X14.trans X5
            obtain ⟨a0, n0, e0, rfl⟩ := G.shape
            rw [h0] at e
            simp only [go_sem, ↓reduceIte, g5]
            refine ⟨_, by rw [e]; rfl, ?_, X15.set (Nat.le_refl _) _⟩
            rw [e, if_pos rfl]
            exact G.move (by simp) fun c hc => by
              have := hf c hc
              simp [show c ≠ h.size by omega]
          · have q2 : ((firstN wLn t : Int) != 0) = true := by simp; omega
            simp only [go_sem, ↓reduceIte, q2, g4]
            exact ⟨.slice none 0 0, by rw [e, if_neg h0]; rfl, by rw [e, if_neg h0], X14.set (Nat.le_refl _) _⟩
end Go.E1
