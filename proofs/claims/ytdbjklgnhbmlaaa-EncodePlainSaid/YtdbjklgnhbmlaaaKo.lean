/-
  Texts joined: R6A, R7A.
-/
import Derived.Test.YtdbjklgnhbmlaaaKm
import Derived.Test.YtdbjklgnhbmlaaaKj
import Derived.Test.YtdbjklgnhbmlaaaKn
/-
  The document's table: the walks.
-/
namespace Go.E1
open Go Go.Proofs Go.M
set_option linter.unusedSimpArgs false

/-- A list of fields, the newest first, maybe the beginning of a block. -/
def RL (h : LHeap) (v : Value) (R : List Fld) : Prop := (R = [] ∧ v = .slice none 0 0) ∨ ∃ b cs t r, v = .slice (some ⟨b, 0, none⟩) R.length 2 ∧ b < h.size ∧ h.get b = some (.cells cs t r) ∧ cs.take (R.length * 2) = fcells R
theorem RL.len {q : EqF} {h hh : LHeap} {v : Value} {R : List Fld} (ho : RL hh v R) : lexec q (.lenS v) h = some (.int .i64 R.length, h) := by
  rcases ho with ⟨rfl, rfl⟩ | ⟨b, _, _, _, rfl, _⟩ <;> rfl
theorem RL.ext {h h' : LHeap} {v : Value} {R : List Fld} (a : RL h v R) (X : Ext h h') : RL h' v R := by
  rcases a with h1 | ⟨b, cs, t, r, h1, h2, h3, h4⟩
  · exact .inl h1
  · exact .inr ⟨b, cs, t, r, h1, Nat.lt_of_lt_of_le h2 X.size, by rw [X.get b h2]; exact h3, h4⟩
theorem RL.at {h : LHeap} {v : Value} {R : List Fld} (a : RL h v R) {i : Nat} (hi : i < R.length) : ∃ b cs t r e, v = .slice (some ⟨b, 0, none⟩) R.length 2 ∧ b < h.size ∧ h.get b = some (.cells cs t r) ∧ R[i]? = some e ∧ cs[i * 2]? = some (.string e.1) ∧ cs[i * 2 + 1]? = some (.string e.2) ∧ (cs.drop (i * 2)).take 2 = [.string e.1, .string e.2] ∧ i * 2 + 2 ≤ cs.length := by
  rcases a with ⟨rfl, _⟩ | ⟨b, cs, t, r, h1, h2, h3, h4⟩
  · simp at hi
  · have he : R[i]? = some R[i] := by simp
    have h5 := fcells_get he
    have hlen : (cs.take (R.length * 2)).length = R.length * 2 := by rw [h4, fcells_len]
    have hle : R.length * 2 ≤ cs.length := by rw [List.length_take] at hlen; omega
    rw [← h4] at h5
    have h6 : (cs.drop (i * 2)).take 2 = [.string R[i].1, .string R[i].2] := by
      rw [← h5, List.drop_take, List.take_take, Nat.min_eq_left (by omega)]
    have g : ∀ k, k < 2 → cs[i * 2 + k]? = ([.string R[i].1, .string R[i].2] : List Value)[k]? := fun k hk => by
      rw [← h6, List.getElem?_take_of_lt hk, List.getElem?_drop]
    exact ⟨b, cs, t, r, R[i], h1, h2, h3, he, by simpa using g 0 (by omega), by simpa using g 1 (by omega), h6, by omega⟩
theorem FL.rl {h : LHeap} {v : Value} {l : List Fld} (F : FL h v l) : RL h v l := by
  rcases F with h1 | ⟨b, h1, h2, h3⟩
  · exact .inl h1
  · exact .inr ⟨b, _, _, _, h1, h2, h3, by rw [← fcells_len, List.take_length]⟩
theorem RL.cut {h : LHeap} {v : Value} {R : List Fld} {e : Fld} (a : RL h v (R ++ [e])) : ∃ b, v = .slice (some ⟨b, 0, none⟩) (R.length + 1) 2 ∧ RL h (.slice (some ⟨b, 0, none⟩) R.length 2) R := by
  rcases a with ⟨h1, _⟩ | ⟨b, cs, t, r, h1, h2, h3, h4⟩
  · simp at h1
  · refine ⟨b, by simpa using h1, .inr ⟨b, cs, t, r, rfl, h2, h3, ?_⟩⟩
    have := congrArg (List.take (R.length * 2)) h4
    rw [List.take_take, Nat.min_eq_left (by rw [List.length_append]; simp; omega), fcells_append, ← fcells_len, List.take_left] at this
    rw [fcells_len] at this
    exact this

theorem tsz_reverse (L : List Fld) : tsz L.reverse = tsz L := by simp [tsz, List.map_reverse, List.sum_reverse]
theorem tsz_take (L : List Fld) (i : Nat) : tsz (L.take i) ≤ tsz L := by
  conv => rhs; rw [← List.take_append_drop i L]
  rw [tsz_append]; omega

theorem sRSize {h : LHeap} {v : Value} {R : List Fld} (a : RL h v R) (hs : tsz R < 4294967296) :
    LCalls EC 76 [v] h fun u h' => u = .int .i64 (tsz R : Int) ∧ h' = h := by
  refine LCalls.enter (lf := lf76) rfl rfl (by simp [lf76]) ?_
  have el := fun h => a.len (q := EC.q) (h := h)
  have hlt := len_tsz R
  simp only [go_sem, lf76, ↓reduceIte]
  refine MC.cutb (fun fr hh => ∃ tl, fr = (0, v) :: (3, .int .i64 (tsz R : Int)) :: tl ∧ hh = h) ?_ ?_
  · refine MC.loop (fun k fr hh => ∃ i, k = R.length - i ∧ i ≤ R.length ∧ fr = [(0, v), (3, .int .i64 (tsz (R.take i) : Int)), (4, .int .i64 (i : Int))] ∧ hh = h) R.length ⟨0, rfl, Nat.zero_le _, rfl, rfl⟩ ?_
    rintro k fr hh J ⟨i, rfl, hi, rfl, rfl⟩ hJ
    by_cases hil : i < R.length
    · obtain ⟨b, cs, t, r, e, rfl, h1, h2, h3, h4, h5, _, h7⟩ := a.at hil
      have d0 : (0 : Int) ≤ (i : Int) := by omega
      have d1 : (i : Int) < (R.length : Int) := by omega
      have htk : tsz (R.take (i + 1)) = tsz (R.take i) + fsz e := by
        rw [List.take_add_one, h3, tsz_append]
        simp [tsz]
      have htl := tsz_take R (i + 1)
      have hf : fsz e = e.1.size + e.2.size + 32 := rfl
      have w1 : IntKind.i64.wrap ((e.1.size : Int) + (e.2.size : Int)) = ((e.1.size + e.2.size : Nat) : Int) := by rw [IntWalk.i64_in _ (by omega)]; omega
      have w2 : IntKind.i64.wrap (((e.1.size + e.2.size : Nat) : Int) + 32) = (fsz e : Int) := by rw [IntWalk.i64_in _ (by omega), hf]; omega
      have w4 : IntKind.i64.wrap ((tsz (R.take i) : Int) + (fsz e : Int)) = (tsz (R.take (i + 1)) : Int) := by rw [IntWalk.i64_in _ (by omega), htk]; omega
      have w3 : IntKind.i64.wrap ((i : Int) + 1) = ((i + 1 : Nat) : Int) := by rw [IntWalk.i64_in _ (by omega)]; omega
      simp only [go_sem, ↓reduceIte, el, d1]
      refine MC.dregion ?_
      simp only [go_sem, ↓reduceIte, reduceCtorEq, el, d0, d1, h2, h4, h5, w1, w2, w3, w4]
      exact hJ (R.length - (i + 1)) _ _ (by omega) ⟨i + 1, rfl, by omega, rfl, rfl⟩
    · have d1 : ¬ (i : Int) < (R.length : Int) := by omega
      obtain rfl : i = R.length := by omega
      simp only [go_sem, ↓reduceIte, el, d1]
      rw [List.take_length]
      exact ⟨_, rfl⟩
  · rintro fr hh ⟨tl, rfl, rfl⟩
    simp only [go_sem, ↓reduceIte]

theorem shrinkL_cons {most : Int} {e : Fld} {L : List Fld} : shrinkL most (e :: L) = if most < (tsz (e :: L) : Int) then shrinkL most L else e :: L := rfl
theorem shrink_neg {most : Int} (h : most < 0) : ∀ L : List Fld, shrinkL most L = []
  | [] => rfl
  | e :: L => by rw [shrinkL_cons, if_pos (by omega)]; exact shrink_neg h L

theorem sRResize {h : LHeap} {v : Value} {L : List Fld} (a : RL h v L.reverse) (hs : tsz L < 4294967296) {n : Nat} :
    LCalls EC 51 [v, .int .i64 (n : Int)] h fun u h' => RL h u (shrinkL n L).reverse ∧ h' = h ∧ (∀ x n E, u = .slice (some ⟨x, 0, none⟩) n E → ∃ n' E', v = .slice (some ⟨x, 0, none⟩) n' E') := by
  refine LCalls.enter (lf := lf51) rfl rfl (by simp [lf51]) ?_
  simp only [go_sem, lf51, ↓reduceIte]
  refine MC.cutb (fun fr hh => ∃ v' tl, fr = (0, v') :: tl ∧ hh = h ∧ RL h v' (shrinkL n L).reverse ∧ (∀ x n E, v' = .slice (some ⟨x, 0, none⟩) n E → ∃ n' E', v = .slice (some ⟨x, 0, none⟩) n' E')) ?_ ?_
  · refine MC.loop (fun k fr hh => ∃ L' v', k = L'.length ∧ fr = [(0, v'), (1, .int .i64 (n : Int))] ∧ hh = h ∧ RL h v' L'.reverse ∧ shrinkL n L' = shrinkL n L ∧ tsz L' < 4294967296 ∧ (∀ x n E, v' = .slice (some ⟨x, 0, none⟩) n E → ∃ n' E', v = .slice (some ⟨x, 0, none⟩) n' E')) L.length ⟨L, v, rfl, rfl, rfl, a, rfl, hs, fun x n E h => ⟨n, E, h⟩⟩ ?_
    rintro k fr hh J ⟨L', v', rfl, rfl, rfl, a', hsh, hs', N⟩ hJ
    have el := fun h => a'.len (q := EC.q) (h := h)
    cases L' with
    | nil =>
      simp only [List.reverse_nil, List.length_nil] at el
      simp only [go_sem, ↓reduceIte, el]
      exact ⟨_, _, rfl, by rw [← hsh]; exact a', N⟩
    | cons e l =>
      have hll := len_tsz (e :: l)
      simp only [List.length_cons] at hll
      simp only [List.reverse_cons, List.length_append, List.length_reverse, List.length_singleton] at el
      have d0 : (0 : Int) < ((l.length + 1 : Nat) : Int) := by omega
      have a2 := a'
      simp only [List.reverse_cons] at a2
      obtain ⟨b, rfl, a3⟩ := a2.cut
      simp only [List.length_reverse] at el a3
      simp only [go_sem, ↓reduceIte, el, d0, List.length_reverse]
      have ht : tsz (l.reverse ++ [e]) = tsz (e :: l) := by rw [← List.reverse_cons, tsz_reverse]
      refine MCall.by (sRSize (R := l.reverse ++ [e]) (by simpa using a') (by rw [ht]; exact hs')) ?_
      rintro u h2 ⟨rfl, rfl⟩
      rw [ht]
      by_cases hbig : (n : Int) < (tsz (e :: l) : Int)
      · rw [shrinkL_cons, if_pos hbig] at hsh
        have w1 : IntKind.i64.wrap (((l.length + 1 : Nat) : Int) - 1) = (l.length : Int) := by rw [IntWalk.i64_in _ (by omega)]; omega
        have hx := x_slice_hi (q := EC.q) (h := h2) (e := 2) (b := b) (o := 0) (n := l.length + 1) (j := l.length) (l := .i64) (by omega)
        simp only [go_sem, ↓reduceIte, hbig, w1, hx]
        exact hJ l.length _ _ (by simp) ⟨l, _, rfl, rfl, rfl, a3, hsh, by rw [tsz_cons] at hs'; omega, fun x n E h => by cases h; exact N b _ _ rfl⟩
      · rw [shrinkL_cons, if_neg hbig] at hsh
        simp only [go_sem, ↓reduceIte, hbig]
        exact ⟨_, _, rfl, by rw [← hsh]; simpa using a', fun x n E h => by cases h; exact N b _ _ rfl⟩
  · rintro fr hh ⟨v', tl, rfl, rfl, a', N⟩
    simp only [go_sem, ↓reduceIte]
    exact ⟨a', N⟩

theorem shrink_len (most : Int) : ∀ L : List Fld, (shrinkL most L).length ≤ L.length
  | [] => Nat.le_refl _
  | e :: l => by
    rw [shrinkL_cons]
    split
    · have := shrink_len most l; simp only [List.length_cons]; omega
    · exact Nat.le_refl _

theorem sRAdd {h : LHeap} {v : Value} {L : List Fld} (a : RL h v L.reverse) (hs : tsz L < 10000000) {limit : Nat} {f : Fld} (hf : fsz f < 4294967296) :
    LCalls EC 54 [v, .int .i64 (limit : Int), pairV f] h fun u h' => RL h' u (addL limit L f).reverse ∧ Ext h h' ∧ (∀ x n E, u = .slice (some ⟨x, 0, none⟩) n E → h.size < x) := by
  refine LCalls.enter (lf := lf54) rfl rfl (by simp [lf54]) ?_
  simp only [go_sem, lf54, ↓reduceIte, pairV]
  have hlen := len_tsz L
  refine MC.cutb (fun fr hh => ∃ v' tl, fr = (0, v') :: (1, .int .i64 (limit : Int)) :: (5, .pointer (some ⟨h.size, 0, none⟩)) :: (7, .slice (some ⟨h.size + 1, 0, none⟩) 1 2) :: tl ∧ hh = (h.push (.cells [.string f.1, .string f.2] true true)).push (.cells [.string f.1, .string f.2] true true) ∧ RL h v' (shrinkL ((limit : Int) - fsz f) L).reverse) ?_ ?_
  · refine MC.loop (fun k fr hh => ∃ L' v', k = L'.length ∧ fr = [(0, v'), (1, .int .i64 (limit : Int)), (5, .pointer (some ⟨h.size, 0, none⟩)), (7, .slice (some ⟨h.size + 1, 0, none⟩) 1 2)] ∧ hh = (h.push (.cells [.string f.1, .string f.2] true true)).push (.cells [.string f.1, .string f.2] true true) ∧ RL h v' L'.reverse ∧ shrinkL ((limit : Int) - fsz f) L' = shrinkL ((limit : Int) - fsz f) L ∧ tsz L' < 10000000) L.length ⟨L, v, rfl, by simp, by simp, a, rfl, hs⟩ ?_
    rintro k fr hh J ⟨L', v', rfl, rfl, rfl, a', hsh, hs'⟩ hJ
    have el := fun h => a'.len (q := EC.q) (h := h)
    cases L' with
    | nil =>
      simp only [List.reverse_nil, List.length_nil] at el
      simp only [go_sem, ↓reduceIte, el]
      exact ⟨_, _, rfl, by rw [← hsh]; exact a'⟩
    | cons e l =>
      have hll := len_tsz (e :: l)
      simp only [List.length_cons] at hll
      simp only [List.reverse_cons, List.length_append, List.length_reverse, List.length_singleton] at el
      have d0 : (0 : Int) < ((l.length + 1 : Nat) : Int) := by omega
      have a2 := a'
      simp only [List.reverse_cons] at a2
      obtain ⟨b, rfl, a3⟩ := a2.cut
      simp only [List.length_reverse] at el a3
      have ht : tsz (l.reverse ++ [e]) = tsz (e :: l) := by rw [← List.reverse_cons, tsz_reverse]
      have X2 : Ext h ((h.push (.cells [.string f.1, .string f.2] true true)).push (.cells [.string f.1, .string f.2] true true)) := (Ext.push _ _).trans (Ext.push _ _)
      have one : RL ((h.push (.cells [.string f.1, .string f.2] true true)).push (.cells [.string f.1, .string f.2] true true)) (.slice (some ⟨h.size + 1, 0, none⟩) 1 2) [f] := .inr ⟨h.size + 1, _, true, true, rfl, by simp, by simp; rfl, rfl⟩
      have ho : tsz [f] = fsz f := by simp [tsz]
      simp only [go_sem, ↓reduceIte, el, d0, List.length_reverse]
      refine MCall.by (sRSize (R := l.reverse ++ [e]) ((show RL h _ (l.reverse ++ [e]) by simpa using a').ext X2) (by rw [ht]; omega)) ?_
      rintro u h2 ⟨rfl, rfl⟩
      rw [ht]
      simp only [go_sem, ↓reduceIte]
      refine MCall.by (sRSize one (by rw [ho]; exact hf)) ?_
      rintro u h3 ⟨rfl, rfl⟩
      rw [ho]
      have w2 : IntKind.i64.wrap ((tsz (e :: l) : Int) + (fsz f : Int)) = ((tsz (e :: l) + fsz f : Nat) : Int) := by rw [IntWalk.i64_in _ (by omega)]; omega
      by_cases hbig : (limit : Int) < ((tsz (e :: l) + fsz f : Nat) : Int)
      · rw [shrinkL_cons, if_pos (by omega)] at hsh
        have w1 : IntKind.i64.wrap (((l.length + 1 : Nat) : Int) - 1) = (l.length : Int) := by rw [IntWalk.i64_in _ (by omega)]; omega
        have hx := fun h => x_slice_hi (q := EC.q) (h := h) (e := 2) (b := b) (o := 0) (n := l.length + 1) (j := l.length) (l := .i64) (by omega)
        simp only [go_sem, ↓reduceIte, hbig, w1, w2, hx]
        exact hJ l.length _ _ (by simp) ⟨l, _, rfl, rfl, rfl, a3, hsh, by rw [tsz_cons] at hs'; omega⟩
      · rw [shrinkL_cons, if_neg (by omega)] at hsh
        simp only [go_sem, ↓reduceIte, w2, hbig]
        exact ⟨_, _, rfl, by rw [← hsh]; simpa using a'⟩
  · rintro fr hh ⟨v', tl, rfl, rfl, a'⟩
    have X2 : Ext h ((h.push (.cells [.string f.1, .string f.2] true true)).push (.cells [.string f.1, .string f.2] true true)) := (Ext.push _ _).trans (Ext.push _ _)
    have one : RL ((h.push (.cells [.string f.1, .string f.2] true true)).push (.cells [.string f.1, .string f.2] true true)) (.slice (some ⟨h.size + 1, 0, none⟩) 1 2) [f] := .inr ⟨h.size + 1, _, true, true, rfl, by simp, by simp; rfl, rfl⟩
    have ho : tsz [f] = fsz f := by simp [tsz]
    have a2 := a'.ext X2
    have hgf : ((h.push (.cells [.string f.1, .string f.2] true true)).push (.cells [.string f.1, .string f.2] true true)).get h.size = some (.cells [.string f.1, .string f.2] true true) := by simp
    have hlo : h.size < ((h.push (.cells [.string f.1, .string f.2] true true)).push (.cells [.string f.1, .string f.2] true true)).size := by simp; omega
    generalize ((h.push (.cells [.string f.1, .string f.2] true true)).push (.cells [.string f.1, .string f.2] true true)) = h2 at *
    simp only [go_sem, ↓reduceIte]
    refine MCall.by (sRSize one (by rw [ho]; exact hf)) ?_
    rintro u h3 ⟨rfl, rfl⟩
    rw [ho]
    by_cases hbig : limit < fsz f
    · have c1 : (limit : Int) < (fsz f : Int) := by omega
      have e : addL limit L f = [] := by unfold addL; rw [if_neg (by omega)]; exact shrink_neg (by omega) L
      rw [e]
      simp only [go_sem, ↓reduceIte, c1]
      exact ⟨.inl ⟨rfl, rfl⟩, X2, fun x n E h => by cases h⟩
    · have c1 : ¬ (limit : Int) < (fsz f : Int) := by omega
      have e : (addL limit L f).reverse = f :: (shrinkL ((limit : Int) - fsz f) L).reverse := by unfold addL; rw [if_pos (by omega)]; simp
      rw [e]
      have hsl := shrink_len ((limit : Int) - fsz f) L
      generalize hR : (shrinkL ((limit : Int) - fsz f) L).reverse = R at *
      have hRl : R.length ≤ L.length := by rw [← hR, List.length_reverse]; exact hsl
      obtain ⟨o1, h4, ha1, F1, sz1, g1, n1⟩ := fl_append (q := EC.q) (hh := h3) (v := .slice none 0 0) (l := []) (.inl ⟨rfl, rfl⟩) f (by simp)
      have el := fun h => a2.len (q := EC.q) (h := h)
      have X4 : Ext h3 h4 := ⟨sz1, fun b hb => g1 b hb (fun ⟨n, E, hx⟩ => by cases hx)⟩
      simp only [go_sem, ↓reduceIte, c1, hgf, ha1]
      refine MC.cutb (fun fr hh => ∃ v'' tl, fr = (0, v') :: (8, v'') :: tl ∧ RL hh v'' (f :: R) ∧ Ext h hh ∧ (∀ x n E, v'' = .slice (some ⟨x, 0, none⟩) n E → h.size < x)) ?_ ?_
      · refine MC.loop (fun k fr hh => ∃ i ov, k = R.length - i ∧ i ≤ R.length ∧ fr = [(0, v'), (8, ov), (9, .int .i64 (i : Int))] ∧ FL hh ov (f :: R.take i) ∧ Ext h3 hh ∧ (∀ b n E, ov = .slice (some ⟨b, 0, none⟩) n E → h3.size ≤ b)) R.length ⟨0, o1, rfl, Nat.zero_le _, rfl, F1, X4, n1⟩ ?_
        rintro k fr hh J ⟨i, ov, rfl, hi, rfl, F, X, N⟩ hJ
        by_cases hil : i < R.length
        · obtain ⟨b, cs, t, r, x, rfl, q1, q2, q3, _, _, q6, q7⟩ := a2.at hil
          have d0 : (0 : Int) ≤ (i : Int) := by omega
          have d1 : (i : Int) < (R.length : Int) := by omega
          have w3 : IntKind.i64.wrap ((i : Int) + 1) = ((i + 1 : Nat) : Int) := by rw [IntWalk.i64_in _ (by omega)]; omega
          have gx : hh.get b = some (.cells cs t r) := by rw [X.get _ q1]; exact q2
          obtain ⟨ov', h5, ha2, F2, sz2, g2, n2⟩ := fl_append (q := EC.q) F x (by rw [List.length_cons, List.length_take]; omega)
          simp only [go_sem, ↓reduceIte, el, d0, d1, gx, q6, q7, ha2, w3]
          refine hJ (R.length - (i + 1)) _ _ (by omega) ⟨i + 1, ov', rfl, by omega, rfl, ?_, ⟨Nat.le_trans X.size sz2, fun y hy => (g2 y (Nat.lt_of_lt_of_le hy X.size) (fun ⟨n, E, hx⟩ => by have := N y n E hx; omega)).trans (X.get y hy)⟩, fun y n E hx => Nat.le_trans X.size (n2 y n E hx)⟩
          rw [List.take_add_one, q3]
          exact F2
        · have d1 : ¬ (i : Int) < (R.length : Int) := by omega
          obtain rfl : i = R.length := by omega
          simp only [go_sem, ↓reduceIte, el, d1]
          rw [List.take_length] at F
          exact ⟨_, _, rfl, F.rl, X2.trans X, fun x n E hx => by have := N x n E hx; omega⟩
      · rintro fr hh ⟨v'', tl, rfl, F, X, N⟩
        simp only [go_sem, ↓reduceIte]
        exact ⟨F, X, N⟩

def stV (v : Value) (limit most bound : Nat) (dead : Bool) : Value := .agg #[v, .int .i64 (limit : Int), .int .i64 (most : Int), .int .i64 (bound : Int), .bool dead]

theorem sREntry {h : LHeap} {v : Value} {L : List Fld} {limit most bound : Nat} {dead : Bool} (a : RL h v L.reverse) {i : Nat} (hi : i ≤ 2147483647) :
    LCalls EC 52 [stV v limit most bound dead, .int .i64 (i : Int)] h fun u h' => u = .tuple #[pairV (oF (entryOf ⟨L, limit⟩ i)), .int .i64 (match entryOf ⟨L, limit⟩ i with | some _ => 1 | none => 0)] ∧ Ext h h' := by
  refine LCalls.enter (lf := lf52) rfl rfl (by simp [lf52]) ?_
  have el := fun h => a.len (q := EC.q) (h := h)
  simp only [List.length_reverse] at el
  obtain ⟨o, n, c, rfl⟩ : ∃ o n c, v = .slice o n c := by
    rcases a with ⟨_, rfl⟩ | ⟨b, _, _, _, rfl, _⟩ <;> exact ⟨_, _, _, rfl⟩
  by_cases h0 : i = 0
  · subst h0
    have e : entryOf ⟨L, limit⟩ 0 = none := rfl
    rw [e]
    simp only [go_sem, lf52, ↓reduceIte, stV, pairV]
    exact ⟨rfl, ((Ext.push _ _).trans (Ext.push _ _)).set (by omega) _⟩
  · by_cases h61 : i ≤ 61
    · have e : entryOf ⟨L, limit⟩ i = some (ent (i - 1)) := by unfold entryOf; rw [if_neg h0, if_pos h61]
      have c1 : (1 : Int) ≤ (i : Int) := by omega
      have c2 : (i : Int) ≤ 61 := by omega
      have e1 : ((i : Int) - 1).toNat = i - 1 := by omega
      rw [e]
      simp only [go_sem, lf52, ↓reduceIte, stV, pairV, c1, c2, e1]
      exact ⟨rfl, ((Ext.push _ _).trans (Ext.push _ _)).set (by omega) _⟩
    · have e : entryOf ⟨L, limit⟩ i = L.reverse[i - 62]? := by unfold entryOf; rw [if_neg h0, if_neg h61]
      have c1 : (1 : Int) ≤ (i : Int) := by omega
      have c2 : ¬ (i : Int) ≤ 61 := by omega
      have c3 : (61 : Int) < (i : Int) := by omega
      have w1 : IntKind.i64.wrap ((i : Int) - 61) = ((i - 61 : Nat) : Int) := by rw [IntWalk.i64_in _ (by omega)]; omega
      have n01 : ¬ h.size = h.size + 1 := by omega
      have w2 : IntKind.i64.wrap ((i : Int) - 62) = ((i - 62 : Nat) : Int) := by rw [IntWalk.i64_in _ (by omega)]; omega
      rw [e]
      by_cases hin : i - 61 ≤ L.length
      · have c4 : ((i - 61 : Nat) : Int) ≤ (L.length : Int) := by omega
        obtain ⟨b, cs, t, r, x, hv, q1, q2, q3, _, _, q6, q7⟩ := a.at (i := i - 62) (by rw [List.length_reverse]; omega)
        simp only [Value.slice.injEq, List.length_reverse] at hv
        obtain ⟨rfl, rfl, rfl⟩ := hv
        have d0 : (0 : Int) ≤ ((i - 62 : Nat) : Int) := by omega
        have d1 : ((i - 62 : Nat) : Int) < (L.length : Int) := by omega
        have nb : b ≠ h.size := by omega
        have nb2 : b ≠ h.size + 1 := by omega
        rw [q3]
        simp only [go_sem, lf52, ↓reduceIte, stV, pairV, n01, c1, c2, c3, w1, w2, el, c4, d0, d1, nb, nb2, q2, q6, q7]
        exact ⟨rfl, ((Ext.push _ _).trans (Ext.push _ _)).set (by omega) _⟩
      · have c4 : ¬ ((i - 61 : Nat) : Int) ≤ (L.length : Int) := by omega
        have e2 : L.reverse[i - 62]? = none := List.getElem?_eq_none (by rw [List.length_reverse]; omega)
        rw [e2]
        simp only [go_sem, lf52, ↓reduceIte, stV, pairV, n01, c1, c2, c3, w1, w2, el, c4]
        exact ⟨rfl, ((Ext.push _ _).trans (Ext.push _ _)).set (by omega) _⟩
end Go.E1

/-
  The document's blocks: the walk.
-/
namespace Go.M
open Go.E1
theorem pfx_le (bits : Nat) (l : Bytes) : (pfx bits l).1 ≤ 2147483647 := by
  rcases pfx_err bits l with h | h
  · exact (pfx_used bits l h).2.2
  · omega
end Go.M
namespace Go.E1
open Go Go.Proofs Go.M
set_option linter.unusedSimpArgs false

theorem RL.blk {h : LHeap} {v : Value} {R : List Fld} (a : RL h v R) {x : Nat} (hx : blkOf v = some x) : x < h.size ∧ v = .slice (some ⟨x, 0, none⟩) R.length 2 := by
  rcases a with ⟨_, rfl⟩ | ⟨b, _, _, _, rfl, h2, _⟩
  · cases hx
  · cases hx; exact ⟨h2, rfl⟩
theorem RL.one {h : LHeap} {v : Value} {R : List Fld} (a : RL h v R) : v.oneCell' = true := by
  rcases a with ⟨_, rfl⟩ | ⟨b, _, _, _, rfl, _⟩ <;> rfl
theorem RL.slc {h : LHeap} {v : Value} {R : List Fld} (a : RL h v R) : ∃ o n E, v = .slice o n E := by
  rcases a with ⟨_, rfl⟩ | ⟨b, _, _, _, rfl, _⟩ <;> exact ⟨_, _, _, rfl⟩
theorem RL.move {h h' : LHeap} {v : Value} {R : List Fld} (a : RL h v R) (hs : h.size ≤ h'.size) (hg : ∀ x, blkOf v = some x → h'.get x = h.get x) : RL h' v R := by
  rcases a with h1 | ⟨b, cs, t, r, rfl, h2, h3, h4⟩
  · exact .inl h1
  · exact .inr ⟨b, cs, t, r, rfl, by omega, by rw [hg b rfl]; exact h3, h4⟩

def rlc (x : Ln) : List Value := [.string x.f.1, .string x.f.2, .int .i64 (if x.never then 1 else 0)]
theorem rlc_cel : Cel 3 rlc := ⟨fun _ => rfl, fun _ => rfl, by omega⟩

theorem chk_bits : (List.range 256).all (fun n => isRun EC 4 50 [.int .u8 (n : Nat)] (.int .i64 (if 128 ≤ n then 7 else if 64 ≤ n then 6 else if 32 ≤ n then 5 else 4))) = true := by kernel_rfl
theorem sRBits {h : LHeap} (c : UInt8) : LCalls EC 50 [.int .u8 (c.toNat : Nat)] h fun u h' => u = .int .i64 (kbits c : Nat) ∧ h' = h := by
  refine LCalls.enter (lf := lf50) rfl rfl (by simp [lf50]) ?_
  unfold kbits
  by_cases h1 : 128 ≤ c.toNat
  · have c1 : (128 : Int) ≤ (c.toNat : Int) := by omega
    simp only [go_sem, lf50, ↓reduceIte, c1, h1]
    first | done | rfl
  · have c1 : ¬ (128 : Int) ≤ (c.toNat : Int) := by omega
    by_cases h2 : 64 ≤ c.toNat
    · have c2 : (64 : Int) ≤ (c.toNat : Int) := by omega
      simp only [go_sem, lf50, ↓reduceIte, c1, c2, h1, h2]
    · have c2 : ¬ (64 : Int) ≤ (c.toNat : Int) := by omega
      by_cases h3 : 32 ≤ c.toNat
      · have c3 : (32 : Int) ≤ (c.toNat : Int) := by omega
        simp only [go_sem, lf50, ↓reduceIte, c1, c2, c3, h1, h2, h3]
      · have c3 : ¬ (32 : Int) ≤ (c.toNat : Int) := by omega
        simp only [go_sem, lf50, ↓reduceIte, c1, c2, c3, h1, h2, h3]

/-- Where the document's reading stands. -/
structure R7 (v0 : Value) (h hh : LHeap) (v ov : Value) (L : List Fld) (limit most bound : Nat) (ls : List Ln) : Prop where
  st : hh.get h.size = some (.cells [v, .int .i64 (limit : Int), .int .i64 (most : Int), .int .i64 (bound : Int), .bool false] true true)
  rs : hh.get (h.size + 1) = some (.cells [.slice none 0 0, .int .i64 0, .int .i64 0, .int .i64 0, .bool false] true true)
  lt : h.size + 1 < hh.size
  ext : Ext h hh
  rl : RL hh v L.reverse
  rn : ∀ x, blkOf v = some x → x ≠ h.size ∧ x ≠ h.size + 1 ∧ blkOf ov ≠ some x
  gl : GL 3 rlc hh ov ls
  gn : ∀ x, blkOf ov = some x → h.size + 1 < x
  sz : tsz L ≤ limit
  lim : limit ≤ 65536
  ro : ∀ x, blkOf v = some x → blkOf v0 = some x ∨ h.size ≤ x

/-- Nothing of it turned. -/
theorem R7.keep {v0 : Value} {h hh h2 : LHeap} {v ov : Value} {L : List Fld} {limit most bound : Nat} {ls : List Ln} (R : R7 v0 h hh v ov L limit most bound ls) (X : Ext hh h2) : R7 v0 h h2 v ov L limit most bound ls :=
  ⟨by rw [X.get _ (by have := R.lt; omega)]; exact R.st, by rw [X.get _ R.lt]; exact R.rs, Nat.lt_of_lt_of_le R.lt X.size, R.ext.trans X, R.rl.ext X, R.rn, R.gl.ext X, R.gn, R.sz, R.lim, R.ro⟩

theorem R7.setO {v0 : Value} {h hh : LHeap} {v ov : Value} {L : List Fld} {limit most bound : Nat} {ls : List Ln} (R : R7 v0 h hh v ov L limit most bound ls) {x : Nat} (h1 : h.size + 1 < x) (h2 : blkOf v ≠ some x) (h3 : blkOf ov ≠ some x) (o : LObj) : R7 v0 h (hh.set x o) v ov L limit most bound ls :=
  ⟨by simp [show h.size ≠ x by omega, R.st], by simp [show h.size + 1 ≠ x by omega, R.rs], by simpa using R.lt, R.ext.set (by omega) _, R.rl.move (by simp) (fun y hy => by simp [show y ≠ x from fun h => h2 (h ▸ hy)]), R.rn, R.gl.move (by simp) (fun y hy => by simp [show y ≠ x from fun h => h3 (h ▸ hy)]), R.gn, R.sz, R.lim, R.ro⟩

/-- The answer. -/
def Ans7 (v0 : Value) (h : LHeap) (most bound : Nat) (res : Dec × Except Nat (List Ln)) (u : Value) (h' : LHeap) : Prop :=
  ∃ v' ov ls, ∃ e : Nat, u = .tuple #[stV v' res.1.st.limit most bound res.1.dead, ov, .int .i64 (e : Int)] ∧ RL h' v' res.1.st.L.reverse ∧ GL 3 rlc h' ov ls ∧ Ext h h' ∧ ((e = 0 ∧ res.2 = .ok ls) ∨ (e ≠ 0 ∧ ls = [] ∧ res.2 = .error e)) ∧ tsz res.1.st.L ≤ res.1.st.limit ∧ res.1.st.limit ≤ 65536 ∧ (∀ x, blkOf v' = some x → blkOf v0 = some x ∨ h.size ≤ x) ∧ (∀ x, blkOf ov = some x → h.size ≤ x)

/-- The state, told with an error. -/
theorem R7.err {v0 : Value} {h hh : LHeap} {v ov : Value} {L : List Fld} {limit most bound : Nat} {ls : List Ln} (R : R7 v0 h hh v ov L limit most bound ls) (c c' : LObj) : RL ((hh.set h.size c).set (h.size + 1) c') v L.reverse ∧ Ext h ((hh.set h.size c).set (h.size + 1) c') :=
  ⟨R.rl.move (by simp) fun x hx => by simp [(R.rn x hx).1, (R.rn x hx).2.1], (R.ext.set (Nat.le_refl _) _).set (by omega) _⟩

def J7 (v0 : Value) (h : LHeap) (most bound : Nat) (tgt : St × Except Nat (List Ln)) (m : Nat) (fr : Fr) (hh : LHeap) : Prop :=
  ∃ v ov L limit ls rest size tl, m = rest.length ∧ fr = (1, .string (toBA rest)) :: (2, .pointer (some ⟨h.size, 0, none⟩)) :: (4, .pointer (some ⟨h.size + 1, 0, none⟩)) :: (7, ov) :: (8, .int .i64 ((size : Nat) : Int)) :: tl ∧
    R7 v0 h hh v ov L limit most bound ls ∧ size ≤ bound ∧ ls.length + rest.length ≤ 100000 ∧ decAll most bound ⟨L, limit⟩ rest ls size = tgt

set_option maxRecDepth 20000 in
theorem sRef07 {h : LHeap} {v0 : Value} {L : List Fld} {limit most bound : Nat} {dead : Bool} {l : Bytes} (a : RL h v0 L.reverse) (hsz : tsz L ≤ limit) (hlim : limit ≤ 65536) (hmost : most ≤ 65536) (hbd : bound ≤ 1099511627776) (hl : l.length < 100000) :
    LCalls EC 24 [stV v0 limit most bound dead, .string (toBA l)] h fun u h' => Ans7 v0 h most bound (M.decode most bound ⟨⟨L, limit⟩, dead⟩ l) u h' := by
  refine LCalls.enter (lf := lf24) rfl rfl (by simp [lf24]) ?_
  have hne : h.size ≠ h.size + 1 := by omega
  have hne2 : h.size + 1 ≠ h.size := by omega
  have hv1 := a.one
  have hvb : ∀ x, blkOf v0 = some x → x < h.size := fun x hx => (a.blk hx).1
  cases dead with
  | true =>
    have e : M.decode most bound ⟨⟨L, limit⟩, true⟩ l = (⟨⟨L, limit⟩, true⟩, .error 25) := rfl
    rw [e]
    simp only [go_sem, lf24, ↓reduceIte, stV, hne, hne2, hv1]
    have X : Ext h ((h.push (.cells [v0, .int .i64 limit, .int .i64 most, .int .i64 bound, .bool true] true true)).push (.cells [.slice none 0 0, .int .i64 0, .int .i64 0, .int .i64 0, .bool false] true true)) := (Ext.push _ _).trans (Ext.push _ _)
    have X2 := X.set (b := h.size + 1) (Nat.le_succ _) (.cells [v0, .int .i64 limit, .int .i64 most, .int .i64 bound, .bool true] true true)
    exact ⟨v0, _, [], 25, rfl, a.ext X2, .nil, X2, .inr ⟨by omega, rfl, rfl⟩, hsz, hlim, fun x hx => .inl hx, fun x hx => by cases hx⟩
  | false =>
    have hdec : M.decode most bound ⟨⟨L, limit⟩, false⟩ l = match decAll most bound ⟨L, limit⟩ l [] 0 with
      | (s, .ok l) => (⟨s, false⟩, .ok l)
      | (s, .error e) => (⟨s, true⟩, .error e) := rfl
    generalize htg : decAll most bound ⟨L, limit⟩ l [] 0 = tgt at hdec
    rw [hdec]
    simp only [go_sem, lf24, ↓reduceIte, stV, hne, hne2, hv1]
    refine MC.cutb (fun fr hh => ∃ v ov L limit ls x8 tl, fr = (1, .string (toBA [])) :: (2, .pointer (some ⟨h.size, 0, none⟩)) :: (4, .pointer (some ⟨h.size + 1, 0, none⟩)) :: (7, ov) :: (8, x8) :: tl ∧ R7 v0 h hh v ov L limit most bound ls ∧ tgt = (⟨L, limit⟩, .ok ls)) ?_ ?_
    · refine MC.loop (J7 v0 h most bound tgt) l.length ⟨v0, _, L, limit, [], l, 0, [], rfl, rfl, ⟨by simp [hne], by simp, by simp, (Ext.push _ _).trans (Ext.push _ _), a.ext ((Ext.push _ _).trans (Ext.push _ _)), (fun x hx => by have := hvb x hx; exact ⟨by omega, by omega, by simp⟩), .nil, (fun x hx => by cases hx), hsz, hlim, fun x hx => .inl hx⟩, Nat.zero_le _, by simp; omega, htg⟩ ?_
      clear a hvb hsz hlim htg hv1
      rintro m fr hh J ⟨v, ov, L, limit, ls, rest, size, tl0, rfl, rfl, R, hsb, hlen, htgt⟩ hJ
      have hrl := R.lt
      have hv1 := R.rl.one
      cases rest with
      | nil =>
        rw [decAll_nil] at htgt
        simp only [go_sem, ↓reduceIte, List.length_nil]
        exact ⟨v, ov, L, limit, ls, _, _, rfl, R, htgt.symm⟩
      | cons c b =>
        rw [decAll_cons] at htgt
        have c0 : (0 : Int) < ((b.length + 1 : Nat) : Int) := by omega
        simp only [List.length_cons] at hlen
        have hcu := c.toNat_lt
        simp only [go_sem, ↓reduceIte, c0]
        refine MCall.by (sRBits c) ?_
        rintro u h2 ⟨rfl, rfl⟩
        simp only [go_sem, ↓reduceIte]
        refine MCall.by (sRef03 (by simp; omega) (kbits_in c).1 (kbits_in c).2) ?_
        rintro u h3 ⟨rfl, rfl⟩
        have hform : form most ⟨L, limit⟩ ls.isEmpty c (c :: b) = form most ⟨L, limit⟩ ls.isEmpty c (c :: b) := rfl
        conv at hform => rhs; unfold form
        have hpu := pfx_used (kbits c) (c :: b)
        have hple := pfx_le (kbits c) (c :: b)
        rcases hp : pfx (kbits c) (c :: b) with ⟨n, used, e⟩
        rw [hp] at hform hpu hple
        simp only at hform hpu hple
        simp only [go_sem, ↓reduceIte, tri]
        by_cases he : e = 0
        · subst he
          obtain ⟨hu1, hu2, _⟩ := hpu rfl
          have n0 : (((0 : Nat) : Int) != 0) = false := rfl
          have hss := fun h => x_substr_lo (q := EC.q) (h := h) (l := c :: b) (i := used) (k := .i64) hu1
          rw [if_neg (by simp)] at hform
          generalize hb2 : (c :: b).drop used = b2 at *
          have hb2l : b2.length ≤ b.length := by rw [← hb2, List.length_drop, List.length_cons]; omega
          simp only [go_sem, ↓reduceIte, n0, hss]
          have hns : h.size ≠ h3.size := by omega
          have hns2 : h.size + 1 ≠ h3.size := by omega
          have el := fun h => R.gl.len (q := EC.q) (h := h)
          have hsL : tsz L ≤ 65536 := Nat.le_trans R.sz R.lim
          by_cases h32 : 32 ≤ c.toNat ∧ c.toNat < 64
          · have c1 : (32 : Int) ≤ (c.toNat : Int) := by omega
            have c2 : (c.toNat : Int) < 64 := by omega
            rw [if_pos h32] at hform
            simp only [go_sem, ↓reduceIte, c1, c2, el]
            by_cases hne0 : 0 < ls.length
            · have d1 : (0 : Int) < (ls.length : Int) := by omega
              have hie : ls.isEmpty = false := by cases ls with | nil => simp at hne0 | cons _ _ => rfl
              rw [if_pos (.inl hie)] at hform
              rw [hform] at htgt
              simp only at htgt
              subst htgt
              simp only [go_sem, ↓reduceIte, d1, R.st, R.rs, hne, hne2, hv1]
              exact ⟨v, _, [], 24, rfl, (R.err _ _).1, .nil, (R.err _ _).2, .inr ⟨by omega, rfl, rfl⟩, R.sz, R.lim, R.ro, fun x hx => by cases hx⟩
            · have d1 : ¬ (0 : Int) < (ls.length : Int) := by omega
              by_cases hm : most < n
              · have d2 : (most : Int) < (n : Int) := by omega
                rw [if_pos (.inr hm)] at hform
                rw [hform] at htgt
                simp only at htgt
                subst htgt
                simp only [go_sem, ↓reduceIte, d1, d2, R.st, R.rs, hne, hne2, hv1]
                exact ⟨v, _, [], 24, rfl, (R.err _ _).1, .nil, (R.err _ _).2, .inr ⟨by omega, rfl, rfl⟩, R.sz, R.lim, R.ro, fun x hx => by cases hx⟩
              · have d2 : ¬ (most : Int) < (n : Int) := by omega
                have hie : ¬ (ls.isEmpty = false ∨ most < n) := by
                  have : ls = [] := List.length_eq_zero_iff.1 (by omega)
                  subst this
                  simp; omega
                rw [if_neg hie] at hform
                rw [hform] at htgt
                simp only at htgt
                simp only [go_sem, ↓reduceIte, d1, d2, R.st, R.rs, hne, hne2, hv1]
                refine MCall.by (sRResize (L := L) (n := n) (R.rl.move (by simp) fun x hx => by simp [(R.rn x hx).1]) (by omega)) ?_
                rintro u h5 ⟨Ru, rfl, N⟩
                obtain ⟨uo, un, uE, rfl⟩ := Ru.slc
                have hbu : ∀ x, blkOf (.slice uo un uE) = some x → blkOf v = some x := fun x hx => by
                  obtain ⟨_, _, h9⟩ := N x _ _ (Ru.blk hx).2
                  rw [h9]; rfl
                simp only [go_sem, ↓reduceIte, R.st, R.rs, hne, hne2, hv1]
                refine hJ b2.length _ _ (by simp only [List.length_cons]; omega) ⟨.slice uo un uE, ov, shrinkL n L, n, ls, b2, size, [], rfl, rfl, ?_, hsb, by omega, htgt⟩
                refine ⟨by simp, by simp [hne2, R.rs], by simpa using R.lt, (R.ext.set (Nat.le_refl _) _).set (Nat.le_refl _) _, Ru.move (by simp) (fun x hx => by simp [(R.rn x (hbu x hx)).1]), (fun x hx => R.rn x (hbu x hx)), R.gl.move (by simp) (fun x hx => by have := R.gn x hx; simp [show x ≠ h.size by omega]), R.gn, ?_, by omega, fun x hx => R.ro x (hbu x hx)⟩
                rcases tsz_shrink (n : Int) L with h9 | h9
                · omega
                · rw [h9]; simp [tsz]
          · rw [if_neg h32] at hform
            refine MG.cut (fun fr hh => ∃ tl, fr = (1, .string (toBA b2)) :: (2, .pointer (some ⟨h.size, 0, none⟩)) :: (4, .pointer (some ⟨h.size + 1, 0, none⟩)) :: (7, ov) :: (8, .int .i64 ((size : Nat) : Int)) :: (9, .int .u8 (c.toNat : Int)) :: (10, .int .i64 (n : Int)) :: tl ∧ hh = h3) ?_ ?_
            · by_cases h1 : 32 ≤ c.toNat
              · have c1 : (32 : Int) ≤ (c.toNat : Int) := by omega
                have c2 : ¬ (c.toNat : Int) < 64 := by omega
                simp only [go_sem, ↓reduceIte, c1, c2]
                exact ⟨_, rfl⟩
              · have c1 : ¬ (32 : Int) ≤ (c.toNat : Int) := by omega
                simp only [go_sem, ↓reduceIte, c1]
                exact ⟨_, rfl⟩
            rintro fr hh ⟨tl, rfl, rfl⟩
            simp only [go_sem, ↓reduceIte]
            refine MG.cut (fun fr h5 => ∃ f0 tl, fr = (1, .string (toBA b2)) :: (2, .pointer (some ⟨h.size, 0, none⟩)) :: (4, .pointer (some ⟨h.size + 1, 0, none⟩)) :: (7, ov) :: (8, .int .i64 ((size : Nat) : Int)) :: (9, .int .u8 (c.toNat : Int)) :: (10, .int .i64 (n : Int)) :: (13, .pointer (some ⟨hh.size, 0, none⟩)) :: tl ∧
              h5.get hh.size = some (.cells [.string f0.1, .string f0.2] true true) ∧ hh.size < h5.size ∧ Ext hh h5 ∧ ((0 < n ∨ 128 ≤ c.toNat) → entryOf ⟨L, limit⟩ n = some f0)) ?_ ?_
            · by_cases hn : 0 < n ∨ 128 ≤ c.toNat
              · have hst : (hh.push (.cells [.string ⟨#[]⟩, .string ⟨#[]⟩] true true)).get h.size = some (.cells [v, .int .i64 (limit : Int), .int .i64 (most : Int), .int .i64 (bound : Int), .bool false] true true) := by simp [hns, R.st]
                have hn1 := Nat.eq_zero_or_pos n
                have goal2 : ∀ {h5 : LHeap}, Ext (hh.push (.cells [.string ⟨#[]⟩, .string ⟨#[]⟩] true true)) h5 → R7 v0 h h5 v ov L limit most bound ls ∧ h5.get hh.size = some (.cells [.string ⟨#[]⟩, .string ⟨#[]⟩] true true) ∧ hh.size < h5.size ∧ Ext hh h5 := fun X5 =>
                  ⟨R.keep ((Ext.push _ _).trans X5), by rw [X5.get _ (by simp)]; simp, by have := X5.size; simp at this; omega, (Ext.push _ _).trans X5⟩
                rcases hn1 with hn1 | hn1
                all_goals
                  first
                    | have d1 : ¬ (0 : Int) < (n : Int) := by omega
                      have d2 : (128 : Int) ≤ (c.toNat : Int) := by omega
                      simp only [go_sem, ↓reduceIte, d1, d2, R.st, hns]
                    | have d1 : (0 : Int) < (n : Int) := by omega
                      simp only [go_sem, ↓reduceIte, d1, R.st, hns]
                  refine MCall.by (sREntry (limit := limit) (most := most) (bound := bound) (dead := false) (R.rl.ext (Ext.push _ _)) hple) ?_
                  rintro u h5 ⟨rfl, X5⟩
                  obtain ⟨R5, g13, lt13, X5'⟩ := goal2 X5
                  cases hent : entryOf ⟨L, limit⟩ n with
                  | none =>
                    have htf : fieldOf ⟨L, limit⟩ (decide (128 ≤ c.toNat)) n b2 = ((⟨#[]⟩, ⟨#[]⟩), [], 23) := by
                      unfold fieldOf
                      rw [if_pos (by simpa using hn), hent]
                    rw [htf] at hform
                    rw [if_pos (by decide)] at hform
                    rw [hform] at htgt
                    simp only at htgt
                    subst htgt
                    simp only [go_sem, ↓reduceIte, pairV, oF, noF, Option.getD_none, g13, hns, hns2, R5.st, R5.rs, hne, hne2, hv1]
                    have R6 := R5.setO (x := hh.size) (by omega) (fun h9 => by have := (R.rl.blk h9).1; omega) (fun h9 => by have := (R.gl.blk h9).1; omega) (.cells [.string ⟨#[]⟩, .string ⟨#[]⟩] true true)
                    exact ⟨v, _, [], 23, rfl, (R6.err _ _).1, .nil, (R6.err _ _).2, .inr ⟨by omega, rfl, rfl⟩, R.sz, R.lim, R.ro, fun x hx => by cases hx⟩
                  | some f0 =>
                    simp only [go_sem, ↓reduceIte, pairV, oF, Option.getD_some, g13]
                    exact ⟨f0, _, rfl, by simp, by simpa using lt13, X5'.set (Nat.le_refl _) _, fun _ => rfl⟩
              · have d1 : ¬ (0 : Int) < (n : Int) := by omega
                have d2 : ¬ (128 : Int) ≤ (c.toNat : Int) := by omega
                simp only [go_sem, ↓reduceIte, d1, d2]
                exact ⟨noF, _, rfl, by simp [noF], by simp, Ext.push _ _, fun h => absurd h hn⟩
            rintro fr h5 ⟨f0, tl, rfl, g13, lt13, X5, hent⟩
            have R5 := R.keep X5
            have htf0 : fieldOf ⟨L, limit⟩ (decide (128 ≤ c.toNat)) n b2 = if 128 ≤ c.toNat then (f0, b2, 0) else if 0 < n then valOf f0.1 b2 else
                if (litDec 4096 b2).2.2 ≠ 0 then ((⟨#[]⟩, ⟨#[]⟩), [], (litDec 4096 b2).2.2) else valOf (toBA (litDec 4096 b2).1) (b2.drop (litDec 4096 b2).2.1) := by
              by_cases q1 : 128 ≤ c.toNat
              · rw [if_pos q1, decide_eq_true q1, field_ix, hent (.inr q1)]
              · rw [if_neg q1, decide_eq_false q1]
                by_cases q2 : 0 < n
                · rw [if_pos q2, field_name _ q2, hent (.inl q2)]
                · obtain rfl : n = 0 := by omega
                  rw [if_neg q2, field_text]
            have htfs : fsz (fieldOf ⟨L, limit⟩ (decide (128 ≤ c.toNat)) n b2).1 ≤ 200000 := fieldOf_sz (s := ⟨L, limit⟩) hsL
            generalize htf : fieldOf ⟨L, limit⟩ (decide (128 ≤ c.toNat)) n b2 = tf at *
            have hns5 : h.size ≠ h5.size := by have := R5.lt; omega
            simp only [go_sem, ↓reduceIte]
            refine MC.cutb (fun fr h7 => ∃ f r tl, fr = (1, .string (toBA r)) :: (2, .pointer (some ⟨h.size, 0, none⟩)) :: (4, .pointer (some ⟨h.size + 1, 0, none⟩)) :: (7, ov) :: (8, .int .i64 ((size : Nat) : Int)) :: (9, .int .u8 (c.toNat : Int)) :: (10, .int .i64 (n : Int)) :: (13, .pointer (some ⟨hh.size, 0, none⟩)) :: tl ∧
              h7.get hh.size = some (.cells [.string f.1, .string f.2] true true) ∧ hh.size < h7.size ∧ Ext hh h7 ∧ r.length ≤ b2.length ∧ tf = (f, r, 0)) ?_ ?_
            · refine MC.loop (fun m fr h7 => ∃ f r k, fr = [(1, .string (toBA r)), (2, .pointer (some ⟨h.size, 0, none⟩)), (4, .pointer (some ⟨h.size + 1, 0, none⟩)), (7, ov), (8, .int .i64 ((size : Nat) : Int)), (9, .int .u8 (c.toNat : Int)), (10, .int .i64 (n : Int)), (13, .pointer (some ⟨hh.size, 0, none⟩)), (15, .int .i64 k)] ∧
                h7.get hh.size = some (.cells [.string f.1, .string f.2] true true) ∧ hh.size < h7.size ∧ Ext hh h7 ∧ r.length ≤ b2.length ∧
                ((k = 0 ∧ m = 2 ∧ f = f0 ∧ r = b2) ∨ (k = 1 ∧ m = 1 ∧ tf = if 128 ≤ c.toNat then (f, r, 0) else valOf f.1 r) ∨ (k = 2 ∧ m = 0 ∧ tf = (f, r, 0)))) 2 ⟨f0, b2, 0, rfl, g13, lt13, X5, Nat.le_refl _, .inl ⟨rfl, rfl, rfl, rfl⟩⟩ ?_
              clear g13 lt13 X5 R5 hns5
              rintro m fr h7 J2 ⟨f, r, k, rfl, g13, lt13, X7, hr, hk⟩ hJ2
              have R7' := R.keep X7
              have fail : ∀ {e : Nat}, tf.2.2 = e → e ≠ 0 → tgt = (⟨L, limit⟩, .error e) := fun he he0 => by
                rw [if_pos (by rw [he]; exact he0), he] at hform
                rw [hform] at htgt
                exact htgt.symm
              rcases hk with ⟨rfl, rfl, rfl, rfl⟩ | ⟨rfl, rfl, hk⟩ | ⟨rfl, rfl, hk⟩
              · by_cases h128 : 128 ≤ c.toNat
                · have d2 : (128 : Int) ≤ (c.toNat : Int) := by omega
                  rw [if_pos h128] at htf0
                  simp only [go_sem, ↓reduceIte, d2]
                  exact hJ2 1 _ _ (by omega) ⟨f, r, 1, rfl, g13, lt13, X7, hr, .inr (.inl ⟨rfl, rfl, by rw [if_pos h128]; exact htf0⟩)⟩
                · have d2 : ¬ (128 : Int) ≤ (c.toNat : Int) := by omega
                  rw [if_neg h128] at htf0
                  by_cases hn : 0 < n
                  · have d1 : (0 : Int) < (n : Int) := by omega
                    rw [if_pos hn] at htf0
                    simp only [go_sem, ↓reduceIte, d1, d2]
                    exact hJ2 1 _ _ (by omega) ⟨f, r, 1, rfl, g13, lt13, X7, hr, .inr (.inl ⟨rfl, rfl, by rw [if_neg h128]; exact htf0⟩)⟩
                  · have d1 : ¬ (0 : Int) < (n : Int) := by omega
                    rw [if_neg hn] at htf0
                    simp only [go_sem, ↓reduceIte, d1, d2]
                    refine MCall.by (sRef04 (limit := 4096) (by omega) (by omega)) ?_
                    rintro u h8 ⟨rfl, X8⟩
                    have hus := litDec_used 4096 r
                    rcases hld : litDec 4096 r with ⟨t, us, er⟩
                    rw [hld] at htf0 hus
                    simp only at htf0 hus
                    have R8 := R7'.keep X8
                    have g8 : h8.get hh.size = some (.cells [.string f.1, .string f.2] true true) := by rw [X8.get _ lt13]; exact g13
                    by_cases her : er = 0
                    · subst her
                      rw [if_neg (by simp)] at htf0
                      have hs2 := fun h => x_substr_lo (q := EC.q) (h := h) (l := r) (i := us) (k := .i64) hus
                      simp only [go_sem, ↓reduceIte, n0, hs2, g8]
                      exact hJ2 1 _ _ (by omega) ⟨(toBA t, f.2), r.drop us, 1, rfl, by simp, by have := X8.size; simp; omega, (X7.trans X8).set (Nat.le_refl _) _, by rw [List.length_drop]; omega, .inr (.inl ⟨rfl, rfl, by rw [if_neg h128]; exact htf0⟩)⟩
                    · rw [if_pos her] at htf0
                      have n1 : ((er : Int) != 0) = true := by simp; omega
                      have := fail (e := er) (by rw [htf0]) her
                      subst this
                      simp only [go_sem, ↓reduceIte, n1, hns, hns2, R8.st, R8.rs, hne, hne2, hv1]
                      exact ⟨v, _, [], er, rfl, (R8.err _ _).1, .nil, (R8.err _ _).2, .inr ⟨her, rfl, rfl⟩, R.sz, R.lim, R.ro, fun x hx => by cases hx⟩
              · by_cases h128 : 128 ≤ c.toNat
                · have d2 : (128 : Int) ≤ (c.toNat : Int) := by omega
                  rw [if_pos h128] at hk
                  simp only [go_sem, ↓reduceIte, d2]
                  exact hJ2 0 _ _ (by omega) ⟨f, r, 2, rfl, g13, lt13, X7, hr, .inr (.inr ⟨rfl, rfl, hk⟩)⟩
                · have d2 : ¬ (128 : Int) ≤ (c.toNat : Int) := by omega
                  rw [if_neg h128] at hk
                  unfold valOf at hk
                  simp only [go_sem, ↓reduceIte, d2]
                  refine MCall.by (sRef04 (limit := 4096) (by omega) (by omega)) ?_
                  rintro u h8 ⟨rfl, X8⟩
                  have hus := litDec_used 4096 r
                  rcases hld : litDec 4096 r with ⟨t, us, er⟩
                  rw [hld] at hk hus
                  simp only at hk hus
                  have R8 := R7'.keep X8
                  have g8 : h8.get hh.size = some (.cells [.string f.1, .string f.2] true true) := by rw [X8.get _ lt13]; exact g13
                  by_cases her : er = 0
                  · subst her
                    rw [if_neg (by simp)] at hk
                    have hs2 := fun h => x_substr_lo (q := EC.q) (h := h) (l := r) (i := us) (k := .i64) hus
                    simp only [go_sem, ↓reduceIte, n0, hs2, g8]
                    exact hJ2 0 _ _ (by omega) ⟨(f.1, toBA t), r.drop us, 2, rfl, by simp, by have := X8.size; simp; omega, (X7.trans X8).set (Nat.le_refl _) _, by rw [List.length_drop]; omega, .inr (.inr ⟨rfl, rfl, hk⟩)⟩
                  · rw [if_pos her] at hk
                    have n1 : ((er : Int) != 0) = true := by simp; omega
                    have := fail (e := er) (by rw [hk]) her
                    subst this
                    simp only [go_sem, ↓reduceIte, n1, hns, hns2, R8.st, R8.rs, hne, hne2, hv1]
                    exact ⟨v, _, [], er, rfl, (R8.err _ _).1, .nil, (R8.err _ _).2, .inr ⟨her, rfl, rfl⟩, R.sz, R.lim, R.ro, fun x hx => by cases hx⟩
              · simp only [go_sem, ↓reduceIte]
                exact ⟨f, r, _, rfl, g13, lt13, X7, hr, hk⟩
            · clear g13 lt13 X5 R5 hns5
              rintro fr h7 ⟨f, r, tl, rfl, g13, lt13, X7, hr, rfl⟩
              have R7' := R.keep X7
              simp only at htfs
              rw [if_neg (by simp)] at hform
              simp only at hform
              rw [hform] at htgt
              simp only at htgt
              simp only [go_sem, ↓reduceIte]
              refine MG.cut (fun fr h8 => ∃ v' L' tl, fr = (1, .string (toBA r)) :: (2, .pointer (some ⟨h.size, 0, none⟩)) :: (4, .pointer (some ⟨h.size + 1, 0, none⟩)) :: (7, ov) :: (8, .int .i64 ((size : Nat) : Int)) :: (9, .int .u8 (c.toNat : Int)) :: (13, .pointer (some ⟨hh.size, 0, none⟩)) :: tl ∧
                h8.get hh.size = some (.cells [.string f.1, .string f.2] true true) ∧ hh.size < h8.size ∧ R7 v0 h h8 v' ov L' limit most bound ls ∧ (if 64 ≤ c.toNat ∧ c.toNat < 128 then (⟨addL limit L f, limit⟩ : St) else ⟨L, limit⟩) = ⟨L', limit⟩ ∧ blkOf v' ≠ some hh.size) ?_ ?_
              · have hvn : blkOf v ≠ some hh.size := fun h9 => by have := (R.rl.blk h9).1; omega
                have same : ¬ (64 ≤ c.toNat ∧ c.toNat < 128) → (if 64 ≤ c.toNat ∧ c.toNat < 128 then (⟨addL limit L f, limit⟩ : St) else ⟨L, limit⟩) = ⟨L, limit⟩ := fun h => if_neg h
                by_cases h64 : 64 ≤ c.toNat
                · have d1 : (64 : Int) ≤ (c.toNat : Int) := by omega
                  by_cases h128 : c.toNat < 128
                  · have d2 : (c.toNat : Int) < 128 := by omega
                    rw [if_pos ⟨h64, h128⟩]
                    simp only [go_sem, ↓reduceIte, d1, d2, R7'.st, g13]
                    refine MCall.by (sRAdd (L := L) (limit := limit) (f := f) R7'.rl (by omega) (by omega)) ?_
                    rintro u h8 ⟨Ru, X8, N⟩
                    obtain ⟨uo, un, uE, rfl⟩ := Ru.slc
                    have R8 := R7'.keep X8
                    have g8 : h8.get hh.size = some (.cells [.string f.1, .string f.2] true true) := by rw [X8.get _ lt13]; exact g13
                    have hub : ∀ x, blkOf (.slice uo un uE) = some x → h7.size < x := fun x hx => N x _ _ (Ru.blk hx).2
                    have hl8 := R7'.lt
                    simp only [go_sem, ↓reduceIte, R8.st]
                    refine ⟨.slice uo un uE, addL limit L f, _, rfl, by simp [hns.symm, g8], by have := X8.size; simp; omega, ?_, rfl, fun h9 => by have := hub _ h9; omega⟩
                    refine ⟨by simp, by simp [hne2, R8.rs], by simpa using R8.lt, R8.ext.set (Nat.le_refl _) _, Ru.move (by simp) (fun x hx => by have := hub x hx; simp [show x ≠ h.size by omega]), (fun x hx => ?_), R8.gl.move (by simp) (fun x hx => by have := R8.gn x hx; simp [show x ≠ h.size by omega]), R8.gn, tsz_add R.sz, R.lim, fun x hx => by have := hub x hx; exact .inr (by omega)⟩
                    have h9 := hub x hx
                    exact ⟨by omega, by omega, fun h10 => by have := (R7'.gl.blk h10).1; omega⟩
                  · have d2 : ¬ (c.toNat : Int) < 128 := by omega
                    simp only [go_sem, ↓reduceIte, d1, d2]
                    exact ⟨v, L, _, rfl, g13, lt13, R7', same (by omega), hvn⟩
                · have d1 : ¬ (64 : Int) ≤ (c.toNat : Int) := by omega
                  simp only [go_sem, ↓reduceIte, d1]
                  exact ⟨v, L, _, rfl, g13, lt13, R7', same (by omega), hvn⟩
              rintro fr h8 ⟨v', L', tl, rfl, g13, lt13, R8, hst, hvn⟩
              rw [hst] at htgt
              have hv1 := R8.rl.one
              simp only [go_sem, ↓reduceIte]
              refine MG.cut (fun fr h9 => ∃ tl, fr = (1, .string (toBA r)) :: (2, .pointer (some ⟨h.size, 0, none⟩)) :: (4, .pointer (some ⟨h.size + 1, 0, none⟩)) :: (7, ov) :: (8, .int .i64 ((size : Nat) : Int)) :: (13, .pointer (some ⟨hh.size, 0, none⟩)) :: (19, .int .i64 (if decide (16 ≤ c.toNat ∧ c.toNat < 32) = true then 1 else 0)) :: tl ∧ h9 = h8) ?_ ?_
              · by_cases h16 : 16 ≤ c.toNat
                · have d1 : (16 : Int) ≤ (c.toNat : Int) := by omega
                  by_cases h32 : c.toNat < 32
                  · have d2 : (c.toNat : Int) < 32 := by omega
                    rw [if_pos (by simp; omega)]
                    simp only [go_sem, ↓reduceIte, d1, d2]
                    exact ⟨_, rfl⟩
                  · have d2 : ¬ (c.toNat : Int) < 32 := by omega
                    rw [if_neg (by simp; omega)]
                    simp only [go_sem, ↓reduceIte, d1, d2]
                    exact ⟨_, rfl⟩
                · have d1 : ¬ (16 : Int) ≤ (c.toNat : Int) := by omega
                  rw [if_neg (by simp; omega)]
                  simp only [go_sem, ↓reduceIte, d1]
                  exact ⟨_, rfl⟩
              rintro fr h9 ⟨tl, rfl, rfl⟩
              generalize hnv : decide (16 ≤ c.toNat ∧ c.toNat < 32) = nv at *
              obtain ⟨ov', h10, ha, G, sz10, g10, n10⟩ := gl_append rlc_cel (q := EC.q) (by' := 40) R8.gl ⟨f, nv⟩ (by omega) (by omega)
              simp only [rlc] at ha
              have hf : fsz f = f.1.size + f.2.size + 32 := rfl
              have w1 : IntKind.i64.wrap ((f.1.size : Int) + (f.2.size : Int)) = ((f.1.size + f.2.size : Nat) : Int) := by rw [IntWalk.i64_in _ (by omega)]; omega
              have w2 : IntKind.i64.wrap (((f.1.size + f.2.size : Nat) : Int) + 32) = (fsz f : Int) := by rw [IntWalk.i64_in _ (by omega), hf]; omega
              have w3 : IntKind.i64.wrap ((size : Int) + (fsz f : Int)) = ((size + fsz f : Nat) : Int) := by rw [IntWalk.i64_in _ (by omega)]; omega
              have hov : blkOf ov ≠ some hh.size := fun h9 => by have := (R.gl.blk h9).1; omega
              have hl9 := R8.lt
              have g13' : h10.get hh.size = some (.cells [.string f.1, .string f.2] true true) := by rw [g10 _ lt13 hov]; exact g13
              have hg0 : blkOf ov ≠ some h.size := fun h9 => by have := R8.gn _ h9; omega
              have hg1 : blkOf ov ≠ some (h.size + 1) := fun h9 => by have := R8.gn _ h9; omega
              have R10 : R7 v0 h h10 v' ov' L' limit most bound (ls ++ [⟨f, nv⟩]) := by
                refine ⟨by rw [g10 _ (by omega) hg0]; exact R8.st, by rw [g10 _ hl9 hg1]; exact R8.rs, by omega, ⟨Nat.le_trans R8.ext.size sz10, fun x hx => ?_⟩, R8.rl.move sz10 (fun x hx => g10 x (R8.rl.blk hx).1 (R8.rn x hx).2.2), (fun x hx => ⟨(R8.rn x hx).1, (R8.rn x hx).2.1, fun h9 => ?_⟩), G, (fun x hx => by have := n10 x hx; omega), R8.sz, R8.lim, R8.ro⟩
                · have := R8.ext.size
                  rw [g10 x (by omega) (fun h9 => by have := R8.gn _ h9; omega)]
                  exact R8.ext.get x hx
                · have a1 := n10 x h9
                  have a2 := (R8.rl.blk hx).1
                  omega
              simp only [go_sem, ↓reduceIte, g13, ha, g13', w1, w2, w3, R10.st]
              by_cases hbig : bound < size + fsz f
              · have c3 : (bound : Int) < ((size + fsz f : Nat) : Int) := by omega
                rw [if_pos hbig] at htgt
                subst htgt
                simp only [go_sem, ↓reduceIte, c3, R10.st, R10.rs, hne, hne2, hv1]
                exact ⟨v', _, [], 22, rfl, (R10.err _ _).1, .nil, (R10.err _ _).2, .inr ⟨by omega, rfl, rfl⟩, R8.sz, R8.lim, R8.ro, fun x hx => by cases hx⟩
              · have c3 : ¬ (bound : Int) < ((size + fsz f : Nat) : Int) := by omega
                rw [if_neg hbig] at htgt
                simp only [go_sem, ↓reduceIte, c3]
                exact hJ r.length _ _ (by simp only [List.length_cons]; omega) ⟨v', ov', L', limit, ls ++ [⟨f, nv⟩], r, size + fsz f, _, rfl, rfl, R10, by omega, by simp; omega, htgt⟩
        · have n0 : ((e : Int) != 0) = true := by simp; omega
          rw [if_pos he] at hform
          rw [hform] at htgt
          simp only at htgt
          subst htgt
          simp only [go_sem, ↓reduceIte, n0, R.st, R.rs, hne, hne2, hv1]
          exact ⟨v, _, [], e, rfl, (R.err _ _).1, .nil, (R.err _ _).2, .inr ⟨he, rfl, rfl⟩, R.sz, R.lim, R.ro, fun x hx => by cases hx⟩
    · rintro fr hh ⟨v, ov, L, limit, ls, x8, tl, rfl, R, rfl⟩
      have hv1 := R.rl.one
      simp only [go_sem, ↓reduceIte, R.st, R.rs, hne, hne2, hv1]
      exact ⟨v, ov, ls, 0, rfl, R.rl.move (by simp) (fun x hx => by simp [(R.rn x hx).2.1]), R.gl.move (by simp) (fun x hx => by have := R.gn x hx; simp [show x ≠ h.size + 1 by omega]), R.ext.set (by omega) _, .inl ⟨rfl, rfl⟩, R.sz, R.lim, R.ro, fun x hx => by have := R.gn x hx; omega⟩
end Go.E1
