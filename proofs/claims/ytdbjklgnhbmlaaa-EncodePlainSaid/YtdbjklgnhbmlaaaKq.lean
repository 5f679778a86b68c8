/-
  Layer 7, in plain Lean: what stands behind a form changes nothing of it.
-/
import Derived.Test.YtdbjklgnhbmlaaaKi
namespace Go.M
open Go.E1

def lsz (l : List Ln) : Nat := (l.map fun x => fsz x.f).sum
theorem lsz_append (a b : List Ln) : lsz (a ++ b) = lsz a + lsz b := by simp [lsz]
theorem lsz_one (x : Ln) : lsz [x] = fsz x.f := by simp [lsz]
theorem lsz_len (l : List Ln) : 32 * l.length ≤ lsz l := by
  induction l with
  | nil => simp
  | cons x l ih => simp only [lsz, List.map_cons, List.sum_cons, List.length_cons, fsz] at ih ⊢; omega
theorem lsz_take (l : List Ln) (i : Nat) : lsz (l.take i) ≤ lsz l := by
  conv => rhs; rw [← List.take_append_drop i l]
  rw [lsz_append]; omega

theorem decGo_bound (most bound : Nat) : ∀ (k : Nat) (s : St) (b : Bytes) (out : List Ln) (size : Nat), size = lsz out → size ≤ bound → ∀ s' ls, decGo most bound k s b out size = (s', .ok ls) → lsz ls ≤ bound
  | 0, s, b, out, size, h1, h2, s', ls, h => by simp only [decGo] at h; cases h; omega
  | k + 1, s, [], out, size, h1, h2, s', ls, h => by simp only [decGo] at h; cases h; omega
  | k + 1, s, c :: b, out, size, h1, h2, s', ls, h => by
    simp only [decGo] at h
    split at h
    · cases h
    · exact decGo_bound most bound k _ _ _ _ h1 h2 _ _ h
    · split at h
      · cases h
      · exact decGo_bound most bound k _ _ _ _ (by rw [lsz_append, lsz_one]; omega) (by omega) _ _ h

theorem decode_bound {most bound : Nat} {d : Dec} {b : Bytes} {d' : Dec} {ls : List Ln} (h : M.decode most bound d b = (d', .ok ls)) : lsz ls ≤ bound := by
  unfold M.decode at h
  split at h
  · cases h
  · split at h
    · rename_i hg
      cases h
      exact decGo_bound most bound _ _ _ _ _ rfl (Nat.zero_le _) _ _ hg
    · cases h
theorem pfxGo_more (m : Bytes) : ∀ (i n : Nat) (l : Bytes), (pfxGo i n l).2.2 = 0 → pfxGo i n (l ++ m) = pfxGo i n l
  | i, n, [], h => by simp [pfxGo] at h
  | i, n, c :: r, h => by
    simp only [List.cons_append, pfxGo] at h ⊢
    split
    · rfl
    · rename_i h1
      rw [if_neg h1] at h
      split
      · rfl
      · rename_i h2
        rw [if_neg h2] at h
        split
        · rfl
        · rename_i h3
          rw [if_neg h3] at h
          exact pfxGo_more m (i + 1) _ r h
theorem pfx_more {bits : Nat} {l : Bytes} (m : Bytes) (h : (pfx bits l).2.2 = 0) : pfx bits (l ++ m) = pfx bits l := by
  cases l with
  | nil => simp [pfx] at h
  | cons c r =>
    simp only [List.cons_append, pfx] at h ⊢
    split
    · rfl
    · rename_i h1
      rw [if_neg h1] at h
      exact pfxGo_more m _ _ _ h

theorem litDec_more {limit : Nat} {l : Bytes} (m : Bytes) (h : (litDec limit l).2.2 = 0) : litDec limit (l ++ m) = litDec limit l := by
  have hp : (pfx 7 l).2.2 = 0 := by
    rcases Nat.eq_zero_or_pos (pfx 7 l).2.2 with q | q
    · exact q
    · unfold litDec at h
      rw [if_pos (by omega)] at h
      simp only at h
      omega
  have hu := pfx_used 7 l hp
  have e1 := pfx_more m hp
  unfold litDec at h ⊢
  rw [e1]
  have e0 : ¬ (pfx 7 l).2.2 ≠ 0 := by omega
  rw [if_neg e0] at h ⊢
  rw [if_neg e0]
  by_cases h2 : l.length - (pfx 7 l).2.1 < (pfx 7 l).1
  · rw [if_pos h2] at h
    simp at h
  · have e2 : ¬ (l ++ m).length - (pfx 7 l).2.1 < (pfx 7 l).1 := by rw [List.length_append]; omega
    have e3 : (((l ++ m).drop (pfx 7 l).2.1).take (pfx 7 l).1) = ((l.drop (pfx 7 l).2.1).take (pfx 7 l).1) := by
      rw [List.drop_append_of_le_length hu.1, List.take_append_of_le_length (by rw [List.length_drop]; omega)]
    have e4 : (l ++ m).headD 0 = l.headD 0 := by
      cases l with
      | nil => simp only [List.length_nil] at hu; omega
      | cons c r => rfl
    rw [if_neg h2, if_neg e2, e3, e4]

theorem litDec_le (limit : Nat) (l : Bytes) : (litDec limit l).2.1 ≤ l.length := litDec_used limit l

theorem fieldOf_more {s : St} {ix : Bool} {n : Nat} {b : Bytes} (m : Bytes) (h : (fieldOf s ix n b).2.2 = 0) : fieldOf s ix n (b ++ m) = ((fieldOf s ix n b).1, (fieldOf s ix n b).2.1 ++ m, 0) := by
  unfold fieldOf at h ⊢
  by_cases h0 : 0 < n ∨ ix = true
  · rw [if_pos h0] at h ⊢
    rw [if_pos h0]
    cases he : entryOf s n with
    | none => rw [he] at h; simp at h
    | some f =>
      rw [he] at h
      simp only at h ⊢
      by_cases h1 : ix = true
      · simp only [h1, ↓reduceIte]
      · have h1' : ix = false := by simpa using h1
        subst h1'
        simp only [Bool.false_eq_true, ↓reduceIte] at h ⊢
        by_cases h2 : (litDec 4096 b).2.2 = 0
        · have e1 := litDec_more m h2
          simp only [e1, h2, ne_eq, not_true, ↓reduceIte]
          rw [List.drop_append_of_le_length (litDec_le _ _)]
        · simp only [ne_eq, h2, not_false_eq_true, ↓reduceIte] at h
  · rw [if_neg h0] at h ⊢
    rw [if_neg h0]
    by_cases h2 : (litDec 4096 b).2.2 = 0
    · have e1 := litDec_more m h2
      simp only [h2, ne_eq, not_true, ↓reduceIte] at h
      by_cases h3 : (litDec 4096 (b.drop (litDec 4096 b).2.1)).2.2 = 0
      · have e2 := litDec_more m h3
        simp only [e1, h2, ne_eq, not_true, ↓reduceIte]
        rw [List.drop_append_of_le_length (litDec_le _ _), e2]
        simp only [h3, not_true, ↓reduceIte]
        rw [List.drop_append_of_le_length (litDec_le _ _)]
      · simp only [h3, not_false_eq_true, ↓reduceIte] at h
    · simp only [ne_eq, h2, not_false_eq_true, ↓reduceIte] at h

theorem form_more {most : Nat} {s : St} {first : Bool} {c : UInt8} {b : Bytes} (m : Bytes) (h : ∀ e, (form most s first c b).2.2 ≠ .fail e) : form most s first c (b ++ m) = ((form most s first c b).1, (form most s first c b).2.1 ++ m, (form most s first c b).2.2) := by
  unfold form at h ⊢
  by_cases h1 : (pfx (kbits c) b).2.2 = 0
  · have hu := pfx_used (kbits c) b h1
    have e1 := pfx_more m h1
    simp only [e1, h1, ne_eq, not_true, ↓reduceIte] at h ⊢
    by_cases h2 : 32 ≤ c.toNat ∧ c.toNat < 64
    · simp only [if_pos h2] at h ⊢
      by_cases h3 : first = false ∨ most < (pfx (kbits c) b).1
      · simp only [if_pos h3] at h
        exact absurd rfl (h _)
      · simp only [if_neg h3]
        rw [List.drop_append_of_le_length hu.1]
    · simp only [if_neg h2] at h ⊢
      rw [List.drop_append_of_le_length hu.1]
      by_cases h3 : (fieldOf s (decide (128 ≤ c.toNat)) (pfx (kbits c) b).1 (b.drop (pfx (kbits c) b).2.1)).2.2 = 0
      · have e2 := fieldOf_more m h3
        simp only [e2, h3, not_true, ↓reduceIte]
      · simp only [h3, not_false_eq_true, ↓reduceIte] at h
        exact absurd rfl (h _)
  · simp only [ne_eq, h1, not_false_eq_true, ↓reduceIte] at h
    exact absurd rfl (h _)

theorem form_first {most : Nat} {s : St} {c : UInt8} {b : Bytes} (hc : ¬ (32 ≤ c.toNat ∧ c.toNat < 64)) (f g : Bool) : form most s f c b = form most s g c b := by
  unfold form
  simp only [if_neg hc]

end Go.M
