/-
  Texts joined: LwArg, Lw8E.
-/
import Derived.Test.YtdbjklgnhbmlaaaKl
import Derived.Test.YtdbjklgnhbmlaaaKr
import Derived.Test.YtdbjklgnhbmlaaaKp
import Derived.Test.YtdbjklgnhbmlaaaKo
/-
  A law's arguments: numbers, bytes, blocks; a line is itself.
-/
namespace Go.E1
open Go Go.Proofs Go.M
set_option linter.unusedSimpArgs false

theorem larg_int {h : LHeap} {n : Nat} {lv : Value} (hl : LArg Try.prog h n 3 lv) : ∃ i, lv = .int .i64 i ∧ (Lit.int .i64 i).wf = true := by
  rcases hl with ⟨g1, _⟩ | ⟨_, hl⟩
  · simp [isAggP, Try.underlying3] at g1
  · obtain ⟨i, h1, h2⟩ := LRd_int Try.underlying3 hl
    exact ⟨i, by simpa using h1, h2⟩
theorem larg_bytes {h : LHeap} {n : Nat} {lv : Value} (hl : LArg Try.prog h n 32 lv) : ∃ l, BA h lv l ∧ l.length ≤ reachBytes := by
  rcases hl with ⟨g1, _⟩ | ⟨_, hl⟩
  · simp [isAggP, Try.underlying32] at g1
  · obtain ⟨v, l, h1, h2, h3⟩ := LRd_bytes hl
    simp only [List.cons.injEq, and_true] at h1
    subst h1
    exact ⟨l, h2, h3⟩
theorem larg_blocks {h : LHeap} {n : Nat} {lv : Value} (hl : LArg Try.prog h n 31 lv) : ∃ ls, BL h lv ls ∧ ∀ l ∈ ls, l.length ≤ reachBytes := by
  rcases hl with ⟨g1, _⟩ | ⟨_, hl⟩
  · simp [isAggP, Try.underlying31] at g1
  · obtain ⟨v, l, h1, h2, h3⟩ := LRd_blocks hl
    simp only [List.cons.injEq, and_true] at h1
    subst h1
    exact ⟨l, h2, h3⟩

theorem EC_q : EC.q = qOf qAll := by kernel_rfl
theorem q_line (a b : ByteArray) (n : Bool) : EC.q 47 (.agg #[.string a, .string b, .bool n]) (.agg #[.string a, .string b, .bool n]) = some true := by
  have e : qAll.lookup 47 = some [.str, .str, .bool] := rfl
  rw [EC_q]
  simp only [qOf, e, cellsEq, leafEq, decide_true, beq_self_eq_true, Bool.and_self]

end Go.E1

/-
  EncodePlain: the walk.
-/
namespace Go.M
open Go.E1
theorem cutN_ge (b : Bytes) : ∀ k n, n ≤ cutN b k n
  | 0, n => Nat.le_refl _
  | k + 1, n => by
    simp only [cutN]
    split
    · split
      · exact Nat.le_refl _
      · exact Nat.le_trans (Nat.le_succ n) (cutN_ge b k (n + 1))
    · exact Nat.le_refl _
theorem formsGo_fuel : ∀ (k : Nat) (b : Bytes), b.length ≤ k → formsGo k b = formsB b := by
  have gen : ∀ (n k j : Nat) (b : Bytes), b.length ≤ n → b.length ≤ k → b.length ≤ j → formsGo k b = formsGo j b := by
    intro n
    induction n with
    | zero =>
      intro k j b h _ _
      obtain rfl : b = [] := List.length_eq_zero_iff.1 (by omega)
      cases k <;> cases j <;> rfl
    | succ n ih =>
      intro k j b hn hk hj
      cases b with
      | nil => cases k <;> cases j <;> rfl
      | cons c r =>
        simp only [List.length_cons] at hn hk hj
        obtain ⟨k, rfl⟩ : ∃ k', k = k' + 1 := ⟨k - 1, by omega⟩
        obtain ⟨j, rfl⟩ : ∃ j', j = j' + 1 := ⟨j - 1, by omega⟩
        simp only [formsGo]
        by_cases h0 : 32 ≤ c.toNat ∧ c.toNat < 128
        · rw [if_pos h0, if_pos h0]
        · rw [if_neg h0, if_neg h0]
          have h1 := cutN_ge (c :: r) (c :: r).length 1
          have : ((c :: r).drop (cutN (c :: r) (c :: r).length 1)).length ≤ r.length := by rw [List.length_drop]; simp only [List.length_cons] at h1 ⊢; omega
          exact ih _ _ _ (by omega) (by omega) (by omega)
  exact fun k b h => gen b.length k b.length b (Nat.le_refl _) h (Nat.le_refl _)
theorem formsB_cons (c : UInt8) (r : Bytes) : formsB (c :: r) = if 32 ≤ c.toNat ∧ c.toNat < 128 then false else formsB ((c :: r).drop (cutN (c :: r) (c :: r).length 1)) := by
  have e : formsB (c :: r) = if 32 ≤ c.toNat ∧ c.toNat < 128 then false else formsGo r.length ((c :: r).drop (cutN (c :: r) (c :: r).length 1)) := rfl
  rw [e]
  by_cases h0 : 32 ≤ c.toNat ∧ c.toNat < 128
  · rw [if_pos h0, if_pos h0]
  · rw [if_neg h0, if_neg h0, formsGo_fuel]
    have h1 := cutN_ge (c :: r) (c :: r).length 1
    rw [List.length_drop]; simp only [List.length_cons] at h1 ⊢; omega
end Go.M
namespace Go.E1
open Go Go.Proofs Go.M
set_option linter.unusedSimpArgs false

theorem x_substr_hi {q : EqF} {h : LHeap} {l : Bytes} {j : Nat} {k : IntKind} (hj : j ≤ l.length) : lexec q (.sliceStr (.string (toBA l)) none (some (.int k (j : Nat)))) h = some (.string (toBA (l.take j)), h) := by
  have e : (toBA l).extract 0 j = toBA (l.take j) := by
    apply ByteArray.ext
    rw [ByteArray.data_extract]
    simp [toBA]
  simp only [lexec, lo1]
  simp [hj, e, toBA_size]

/-- The document's answer with an empty table that can't grow. -/
theorem sRef00 {h : LHeap} {l : Bytes} (hl : l.length < 100000) :
    LCalls EC 24 [.agg #[.slice none 0 0, .int .i64 0, .int .i64 0, .int .i64 1099511627776, .bool false], .string (toBA l)] h fun u h' =>
      ∃ o n E, ∃ a b c : Int, ∃ d ov ls, ∃ e : Nat, u = .tuple #[.agg #[.slice o n E, .int .i64 a, .int .i64 b, .int .i64 c, .bool d], ov, .int .i64 (e : Int)] ∧ GL 3 rlc h' ov ls ∧ Ext h h' ∧ ((e = 0 ∧ ∃ st, M.decode 0 bd40 ⟨s00, false⟩ l = (st, .ok ls)) ∨ (e ≠ 0 ∧ ls = [] ∧ ∃ st, M.decode 0 bd40 ⟨s00, false⟩ l = (st, .error e))) := by
  have h0 := sRef07 (h := h) (v0 := .slice none 0 0) (L := []) (limit := 0) (most := 0) (bound := bd40) (dead := false) (l := l) (.inl ⟨rfl, rfl⟩) (Nat.zero_le _) (by omega) (by omega) (Nat.le_refl _) hl
  refine h0.mono ?_
  rintro u h' ⟨v', ov, ls, e, rfl, rl, G, X, hr, _⟩
  obtain ⟨o, n, E, rfl⟩ := rl.slc
  have hs : (⟨⟨[], 0⟩, false⟩ : Dec) = ⟨s00, false⟩ := rfl
  rw [hs] at hr
  refine ⟨o, n, E, _, _, _, _, ov, ls, e, rfl, G, X, ?_⟩
  rcases hr with ⟨h1, h2⟩ | ⟨h1, h2, h3⟩
  · exact .inl ⟨h1, _, Prod.ext rfl h2⟩
  · exact .inr ⟨h1, h2, _, Prod.ext rfl h3⟩

theorem sFormsF {h : LHeap} {b : Bytes} {v : Value} {ls : List Ln} (G : GL 3 rlc h v ls) (hb : b.length < 100000) :
    LCalls EC 34 [.string (toBA b), v] h fun u h' => u = .bool (formsB b) ∧ Ext h h' := by
  refine LCalls.enter (lf := lf34) rfl rfl (by simp [lf34]) ?_
  have el := fun h => G.len (q := EC.q) (h := h)
  generalize htg : formsB b = tgt
  simp only [go_sem, lf34, ↓reduceIte]
  refine MC.cutb (fun fr hh => ∃ tl, fr = (0, .string (toBA [])) :: (1, v) :: tl ∧ tgt = true ∧ Ext h hh) ?_ ?_
  · refine MC.loop (fun m fr hh => ∃ b tl, m = b.length ∧ fr = (0, .string (toBA b)) :: (1, v) :: tl ∧ Ext h hh ∧ formsB b = tgt ∧ b.length < 100000) b.length ⟨b, [], rfl, rfl, Ext.refl _, htg, hb⟩ ?_
    clear htg hb
    rintro m fr hh J ⟨b, tl, rfl, rfl, X, ht, hl⟩ hJ
    cases b with
    | nil =>
      simp only [go_sem, ↓reduceIte, List.length_nil]
      exact ⟨_, rfl, ht.symm, X⟩
    | cons c r =>
      have c0 : (0 : Int) < ((r.length + 1 : Nat) : Int) := by omega
      rw [formsB_cons] at ht
      have hcu := c.toNat_lt
      simp only [List.length_cons] at hl
      simp only [go_sem, ↓reduceIte, c0]
      by_cases hc : 32 ≤ c.toNat ∧ c.toNat < 128
      · have d1 : (32 : Int) ≤ (c.toNat : Int) := by omega
        have d2 : (c.toNat : Int) < 128 := by omega
        rw [if_pos hc] at ht
        subst ht
        simp only [go_sem, ↓reduceIte, d1, d2]
        exact X
      · rw [if_neg hc] at ht
        refine MG.cut (fun fr h' => ∃ tl, fr = (0, .string (toBA (c :: r))) :: (1, v) :: tl ∧ h' = hh) ?_ ?_
        · by_cases h32 : 32 ≤ c.toNat
          · have d1 : (32 : Int) ≤ (c.toNat : Int) := by omega
            have d2 : ¬ (c.toNat : Int) < 128 := by omega
            simp only [go_sem, ↓reduceIte, d1, d2]
            exact ⟨_, rfl⟩
          · have d1 : ¬ (32 : Int) ≤ (c.toNat : Int) := by omega
            simp only [go_sem, ↓reduceIte, d1]
            exact ⟨_, rfl⟩
        · rintro fr h1 ⟨tl2, rfl, rfl⟩
          generalize hB : c :: r = B at *
          have hBl : B.length = r.length + 1 := by rw [← hB]; rfl
          have hcn := cutN_ge B B.length 1
          generalize htn : cutN B B.length 1 = N at *
          simp only [go_sem, ↓reduceIte]
          refine MC.cutb (fun fr h2 => ∃ tl, fr = (0, .string (toBA B)) :: (1, v) :: (5, .int .i64 (N : Int)) :: tl ∧ Ext h1 h2 ∧ N ≤ B.length) ?_ ?_
          · refine MC.loop (fun m fr h2 => ∃ n k tl, m = B.length - n ∧ fr = (0, .string (toBA B)) :: (1, v) :: (5, .int .i64 (n : Int)) :: tl ∧ Ext h1 h2 ∧ cutN B k n = N ∧ k + n = B.length + 1 ∧ n ≤ B.length) (B.length - 1) ⟨1, B.length, [], rfl, rfl, Ext.refl _, htn, rfl, by omega⟩ ?_
            rintro m fr h2 J2 ⟨n, k, tl3, rfl, rfl, X2, hcut, hk, hn⟩ hJ2
            obtain ⟨k, rfl⟩ : ∃ k', k = k' + 1 := ⟨k - 1, by omega⟩
            simp only [cutN] at hcut
            by_cases hlt : n < B.length
            · have d1 : (n : Int) < (B.length : Int) := by omega
              rw [if_pos hlt] at hcut
              have hss := fun h => x_substr_hi (q := EC.q) (h := h) (l := B) (j := n) (k := .i64) hn
              simp only [go_sem, ↓reduceIte, d1, hss]
              refine MCall.by (sRef00 (by rw [List.length_take]; omega)) ?_
              rintro u h3 ⟨o, nn, E, a, b, c', d, ov, l2, e, rfl, G3, X3, hr⟩
              have e3 := fun h => G3.len (q := EC.q) (h := h)
              have hX : ∀ {c c'}, Ext h3 ((h3.push c).set h3.size c') := (Ext.push _ _).set (Nat.le_refl _) _
              have w3 : IntKind.i64.wrap ((n : Int) + 1) = ((n + 1 : Nat) : Int) := by rw [IntWalk.i64_in _ (by omega)]; omega
              rcases hr with ⟨rfl, st, hd⟩ | ⟨he, rfl, st, hd⟩
              · have q1 : (((0 : Nat) : Int) == 0) = true := rfl
                have hok : okOne (B.take n) = (l2.length == 1) := by unfold okOne; rw [hd]
                by_cases h1l : l2.length = 1
                · have q2 : ((l2.length : Int) == 1) = true := by simp [h1l]
                  rw [if_pos (by rw [hok, h1l]; rfl)] at hcut
                  subst hcut
                  simp only [go_sem, ↓reduceIte, q1, e3, q2]
                  exact ⟨_, rfl, (X2.trans X3).trans hX, hn⟩
                · have q2 : ((l2.length : Int) == 1) = false := by simp; omega
                  rw [if_neg (by rw [hok]; simpa using h1l)] at hcut
                  simp only [go_sem, ↓reduceIte, q1, e3, q2, w3]
                  exact hJ2 _ _ _ (by omega) ⟨n + 1, k, _, rfl, rfl, (X2.trans X3).trans hX, hcut, by omega, by omega⟩
              · have q1 : ((e : Int) == 0) = false := by simp; omega
                have hok : okOne (B.take n) = false := by unfold okOne; rw [hd]
                rw [if_neg (by rw [hok]; simp)] at hcut
                simp only [go_sem, ↓reduceIte, q1, w3]
                exact hJ2 _ _ _ (by omega) ⟨n + 1, k, _, rfl, rfl, (X2.trans X3).trans hX, hcut, by omega, by omega⟩
            · have d1 : ¬ (n : Int) < (B.length : Int) := by omega
              rw [if_neg hlt] at hcut
              subst hcut
              simp only [go_sem, ↓reduceIte, d1]
              exact ⟨_, rfl, X2, hn⟩
          · rintro fr h2 ⟨tl3, rfl, X2, hN⟩
            have hss := fun h => x_substr_lo (q := EC.q) (h := h) (l := B) (i := N) (k := .i64) hN
            simp only [go_sem, ↓reduceIte, hss]
            exact hJ _ _ _ (by rw [List.length_drop]; omega) ⟨_, _, rfl, rfl, X.trans X2, ht, by rw [List.length_drop]; omega⟩
  · rintro fr hh ⟨tl, rfl, rfl, X⟩
    have c0 : (ls.length : Int) ≥ 0 := by omega
    have c1 : (0 : Int) ≤ (ls.length : Int) := by omega
    simp only [go_sem, ↓reduceIte, el, c0, c1]
    exact X

theorem ba_str {q : EqF} {h : LHeap} {v : Value} {l : Bytes} (a : BA h v l) : lexec q (.bytesStr v) h = some (.string (toBA l), h) := by
  rcases a with ⟨rfl, rfl⟩ | ⟨b, o, rfl, B⟩
  · rfl
  · obtain ⟨cs, t, r, h1, h2, h3⟩ := B.cells
    have e : (if l.length = 0 then some [] else h.loadCells b o l.length) = some (bv l) := by
      by_cases h0 : l.length = 0
      · rw [if_pos h0, List.length_eq_zero_iff.1 h0]; rfl
      · rw [if_neg h0]
        simp only [LHeap.loadCells, h1, h2, if_true, h3]
    simp only [lexec, e, bytesOf_bv, Option.map_some, toBA]

theorem sPlainLaw {h : LHeap} {v : Value} {b : Bytes} (A : BA h v b) :
    LCalls EC 9 [v] h fun u _ => u = .bool true := by
  refine LCalls.enter (lf := lf9) rfl rfl (by simp [lf9]) ?_
  have ab : BytesAt h v b := by
    rcases A with ⟨rfl, rfl⟩ | ⟨x, o, rfl, B⟩
    · exact .inl ⟨rfl, 0, rfl⟩
    · exact B.bytes
  have eA := fun h => A.len (q := EC.q) (h := h)
  by_cases a3 : 300 < b.length
  · have c3 : (300 : Int) < (b.length : Int) := by omega
    simp only [go_sem, lf9, ↓reduceIte, eA, c3]
  · have c3 : ¬ (300 : Int) < (b.length : Int) := by omega
    have es : lexec EC.q (.bytesStr v) h = some (.string (toBA b), h) := ba_str A
    simp only [go_sem, lf9, ↓reduceIte, eA, c3, es]
    refine MCall.by (sRef00 (by omega)) ?_
    rintro u h2 ⟨o, nn, E, x1, x2, x3, d, ov, ls, e, rfl, G, X2, hr⟩
    have hX : ∀ {c c'}, Ext h2 ((h2.push c).set h2.size c') := (Ext.push _ _).set (Nat.le_refl _) _
    simp only [go_sem, ↓reduceIte]
    refine MCall.by (sPlain (ab.ext (X2.trans hX)) (by omega)) ?_
    rintro u h3 ⟨rfl, X3⟩
    have X03 := (X2.trans hX).trans X3
    have es3 : lexec EC.q (.bytesStr v) h3 = some (.string (toBA b), h3) := ba_str (A.ext X03)
    rcases hr with ⟨rfl, st, hd⟩ | ⟨he, rfl, st, hd⟩
    · have q1 : (((0 : Nat) : Int) != 0) = false := rfl
      have hfp := ok_forms hd
      cases hp : plainB b with
      | true =>
        rw [hp] at hfp
        simp only [go_sem, ↓reduceIte, q1, es3]
        refine MCall.by (sFormsF ((G.ext hX).ext X3) (by omega)) ?_
        rintro u h4 ⟨rfl, X4⟩
        rw [hfp]
        simp only [go_sem, ↓reduceIte]
        refine MCall.by (sPlain (ab.ext (X03.trans X4)) (by omega)) ?_
        rintro u h5 ⟨rfl, X5⟩
        rw [hp]
        simp only [go_sem, ↓reduceIte]
      | false =>
        rw [hp] at hfp
        simp only [go_sem, ↓reduceIte, q1, es3]
        refine MCall.by (sFormsF ((G.ext hX).ext X3) (by omega)) ?_
        rintro u h4 ⟨rfl, X4⟩
        rw [hfp]
        simp only [go_sem, ↓reduceIte]
        refine MCall.by (sPlain (ab.ext (X03.trans X4)) (by omega)) ?_
        rintro u h5 ⟨rfl, X5⟩
        rw [hp]
        simp only [go_sem, ↓reduceIte]
    · have q1 : ((e : Int) != 0) = true := by simp; omega
      cases hp : plainB b with
      | true =>
        obtain ⟨_, _, h9⟩ := plain_ok (by omega) hp
        rw [hd] at h9
        cases h9
      | false =>
        simp only [go_sem, ↓reduceIte, q1]

theorem lawPlain8 (h : LHeap) (lvs : List Value) (hl : LArgs Try.prog h 6 [32] lvs) : LCalls EC 9 lvs h fun v _ => v = .bool true := by
  obtain ⟨v0, r0, rfl, h0, hr0⟩ := LArgs_cons hl
  obtain rfl := LArgs_nil hr0
  obtain ⟨a, A, _⟩ := larg_bytes h0
  exact sPlainLaw A
end Go.E1
