/-
  EncodePlain, in plain Lean.
-/
import Derived.Test.YtdbjklgnhbmlaaaKp
namespace Go.M
open Go.E1

def bd40 : Nat := 1099511627776
def s00 : St := ⟨[], 0⟩
def okOne (x : Bytes) : Bool := match (M.decode 0 bd40 ⟨s00, false⟩ x).2 with
  | .ok ls => ls.length == 1
  | .error _ => false
def cutN (b : Bytes) : Nat → Nat → Nat
  | 0, n => n
  | k + 1, n => if n < b.length then (if okOne (b.take n) = true then n else cutN b k (n + 1)) else n
def formsGo : Nat → Bytes → Bool
  | 0, _ => true
  | _ + 1, [] => true
  | k + 1, c :: r => if 32 ≤ c.toNat ∧ c.toNat < 128 then false else formsGo k ((c :: r).drop (cutN (c :: r) (c :: r).length 1))

theorem pfxGo_take : ∀ (i n : Nat) (l : Bytes) (k : Nat), (pfxGo i n l).2.2 = 0 → i + 2 ≤ (pfxGo i n l).2.1 ∧ ((pfxGo i n l).2.1 ≤ i + 1 + k → pfxGo i n (l.take k) = pfxGo i n l)
  | i, n, [], k, h => by simp [pfxGo] at h
  | i, n, c :: r, k, h => by
    simp only [pfxGo] at h ⊢
    split
    · rename_i h5; rw [if_pos h5] at h; simp at h
    · rename_i h5
      rw [if_neg h5] at h
      split
      · rename_i h6; rw [if_pos h6] at h; simp at h
      · rename_i h6
        rw [if_neg h6] at h
        split
        · rename_i h7
          refine ⟨Nat.le_refl _, fun hk => ?_⟩
          obtain ⟨k, rfl⟩ : ∃ k', k = k' + 1 := ⟨k - 1, by simp only at hk; omega⟩
          simp only [List.take_succ_cons, pfxGo]
          rw [if_neg h5, if_neg h6, if_pos h7]
        · rename_i h7
          rw [if_neg h7] at h
          have ih := fun k => pfxGo_take (i + 1) _ r k h
          refine ⟨by have := (ih 0).1; omega, fun hk => ?_⟩
          have := (ih 0).1
          obtain ⟨k, rfl⟩ : ∃ k', k = k' + 1 := ⟨k - 1, by omega⟩
          simp only [List.take_succ_cons, pfxGo]
          rw [if_neg h5, if_neg h6, if_neg h7]
          exact (ih k).2 (by omega)
theorem pfx_take {bits : Nat} {l : Bytes} {k : Nat} (h : (pfx bits l).2.2 = 0) (hk : (pfx bits l).2.1 ≤ k) : pfx bits (l.take k) = pfx bits l := by
  cases l with
  | nil => simp [pfx] at h
  | cons c r =>
    simp only [pfx] at h hk
    by_cases h1 : c.toNat % 2 ^ bits < 2 ^ bits - 1
    · rw [if_pos h1] at hk
      obtain ⟨k, rfl⟩ : ∃ k', k = k' + 1 := ⟨k - 1, by simp only at hk; omega⟩
      simp only [List.take_succ_cons, pfx]
      rw [if_pos h1, if_pos h1]
    · rw [if_neg h1] at h hk
      have := (pfxGo_take 0 _ r 0 h).1
      obtain ⟨k, rfl⟩ : ∃ k', k = k' + 1 := ⟨k - 1, by omega⟩
      simp only [List.take_succ_cons, pfx]
      rw [if_neg h1, if_neg h1]
      exact (pfxGo_take 0 _ r k h).2 (by omega)
theorem litDec_take {limit : Nat} {l : Bytes} {k : Nat} (h : (litDec limit l).2.2 = 0) (hk : (litDec limit l).2.1 ≤ k) : litDec limit (l.take k) = litDec limit l := by
  have hp : (pfx 7 l).2.2 = 0 := by
    rcases Nat.eq_zero_or_pos (pfx 7 l).2.2 with q | q
    · exact q
    · unfold litDec at h
      rw [if_pos (by omega)] at h
      simp only at h
      omega
  have hu := pfx_used 7 l hp
  have e0 : ¬ (pfx 7 l).2.2 ≠ 0 := by omega
  by_cases h2 : l.length - (pfx 7 l).2.1 < (pfx 7 l).1
  · unfold litDec at h
    rw [if_neg e0, if_pos h2] at h
    simp at h
  · have key : ∀ (m : Bytes) (hd : UInt8), m.headD 0 = hd → pfx 7 m = pfx 7 l → ¬ m.length - (pfx 7 l).2.1 < (pfx 7 l).1 → litDec limit m = match (if 128 ≤ hd.toNat then huffDec ((m.drop (pfx 7 l).2.1).take (pfx 7 l).1) else Except.ok ((m.drop (pfx 7 l).2.1).take (pfx 7 l).1)) with
        | .error e => ([], 0, e)
        | .ok s => if limit < s.length then ([], 0, 22) else (s, (pfx 7 l).2.1 + (pfx 7 l).1, 0) := by
      intro m hd h1 h2 h3
      unfold litDec
      rw [h2, h1]
      exact (if_neg e0).trans (if_neg h3)
    have hl := key l _ rfl rfl h2
    have hall : (pfx 7 l).2.1 + (pfx 7 l).1 ≤ k := by
      rw [hl] at h hk
      cases hg : (if 128 ≤ (l.headD 0).toNat then huffDec ((l.drop (pfx 7 l).2.1).take (pfx 7 l).1) else Except.ok ((l.drop (pfx 7 l).2.1).take (pfx 7 l).1)) with
      | error e =>
        rw [hg] at h
        simp only at h
        subst h
        split at hg
        · rcases E1.huffGo_err _ _ _ _ _ _ hg with q | q <;> cases q
        · cases hg
      | ok s =>
        rw [hg] at h hk
        simp only at h hk
        by_cases h3 : limit < s.length
        · rw [if_pos h3] at h; simp at h
        · rw [if_neg h3] at hk; exact hk
    have hpt := pfx_take hp (k := k) (by omega)
    have hhd : (l.take k).headD 0 = l.headD 0 := by
      cases l with
      | nil => simp
      | cons c r =>
        obtain ⟨k, rfl⟩ : ∃ k', k = k' + 1 := ⟨k - 1, by omega⟩
        rfl
    rw [key (l.take k) _ hhd hpt (by rw [List.length_take]; omega), hl]
    have hdt : ((l.take k).drop (pfx 7 l).2.1).take (pfx 7 l).1 = (l.drop (pfx 7 l).2.1).take (pfx 7 l).1 := by
      rw [List.drop_take, List.take_take, Nat.min_eq_left (by omega)]
    rw [hdt]
theorem textsGo_take {b : Bytes} {k : Nat} : ∀ (n at' r : Nat), textsGo n b at' = some r → at' ≤ r ∧ (r ≤ k → textsGo n (b.take k) at' = some r)
  | 0, at', r, h => by
    simp only [textsGo] at h ⊢
    cases h
    exact ⟨Nat.le_refl _, fun _ => rfl⟩
  | n + 1, at', r, h => by
    simp only [textsGo] at h ⊢
    by_cases h1 : (litDec 4096 (b.drop at')).2.2 ≠ 0
    · rw [if_pos h1] at h; cases h
    · rw [if_neg h1] at h
      obtain ⟨i1, i2⟩ := textsGo_take n _ r h
      refine ⟨by omega, fun hk => ?_⟩
      have e : (b.take k).drop at' = (b.drop at').take (k - at') := List.drop_take
      have e2 := litDec_take (limit := 4096) (l := b.drop at') (k := k - at') (by omega) (by omega)
      rw [e, e2, if_neg h1]
      exact i2 hk
theorem formB_take {c : UInt8} {r : Bytes} (h : formB (c :: r) ≠ 0) : formB ((c :: r).take (formB (c :: r))) = formB (c :: r) := by
  obtain ⟨m, hm⟩ : ∃ m, formB (c :: r) = m + 1 := ⟨formB (c :: r) - 1, by omega⟩
  rw [hm, List.take_succ_cons]
  have hf := formB_cons c r
  have hf' := formB_cons c (r.take m)
  have ht : c :: r.take m = (c :: r).take (m + 1) := rfl
  rw [hm] at hf
  rw [hf', ht]
  by_cases h128 : 128 ≤ c.toNat
  · rw [if_pos h128] at hf ⊢
    by_cases h1 : (pfx 7 (c :: r)).2.2 ≠ 0 ∨ 61 < (pfx 7 (c :: r)).1 ∨ (pfx 7 (c :: r)).1 = 0
    · rw [if_pos h1] at hf; omega
    · rw [if_neg h1] at hf
      have e := pfx_take (bits := 7) (l := c :: r) (k := m + 1) (by omega) (by omega)
      rw [e, if_neg h1]
      exact hf.symm
  · rw [if_neg h128] at hf ⊢
    by_cases h32 : 32 ≤ c.toNat
    · rw [if_pos h32] at hf; omega
    · rw [if_neg h32] at hf ⊢
      by_cases h1 : (pfx 4 (c :: r)).2.2 ≠ 0 ∨ 61 < (pfx 4 (c :: r)).1
      · rw [if_pos h1] at hf; omega
      · rw [if_neg h1] at hf
        cases hg : textsGo (if (pfx 4 (c :: r)).1 = 0 then 2 else 1) ((c :: r).drop (pfx 4 (c :: r)).2.1) 0 with
        | none => rw [hg] at hf; simp only at hf; omega
        | some k =>
          rw [hg] at hf
          simp only at hf
          have e := pfx_take (bits := 4) (l := c :: r) (k := m + 1) (by omega) (by omega)
          rw [e, if_neg h1]
          have e2 : ((c :: r).take (m + 1)).drop (pfx 4 (c :: r)).2.1 = ((c :: r).drop (pfx 4 (c :: r)).2.1).take (m + 1 - (pfx 4 (c :: r)).2.1) := List.drop_take
          have e3 := (textsGo_take (b := (c :: r).drop (pfx 4 (c :: r)).2.1) (k := m + 1 - (pfx 4 (c :: r)).2.1) _ 0 k hg).2 (by omega)
          rw [e2, e3]
          exact hf.symm

theorem okOne_of {x : Bytes} {ls : List Ln} {st : St} (h : decAll 0 bd40 s00 x [] 0 = (st, .ok ls)) : okOne x = (ls.length == 1) := by
  unfold okOne
  rw [decode_eq]
  simp only [Bool.false_eq_true, ↓reduceIte, h]
theorem okOne_err {x : Bytes} {e : Nat} {st : St} (h : decAll 0 bd40 s00 x [] 0 = (st, .error e)) : okOne x = false := by
  unfold okOne
  rw [decode_eq]
  simp only [Bool.false_eq_true, ↓reduceIte, h]

/-- Where the first form is cut. -/
theorem okOne_at {c : UInt8} {r : Bytes} (hc : c.toNat < 32 ∨ 128 ≤ c.toNat) (h : formB (c :: r) ≠ 0) :
    okOne ((c :: r).take (formB (c :: r))) = true ∧ ∀ n, 1 ≤ n → n < formB (c :: r) → okOne ((c :: r).take n) = false := by
  have hpre : ∀ n, 1 ≤ n → n ≤ (c :: r).length → (formB ((c :: r).take n) = 0 ∧ okOne ((c :: r).take n) = false) ∨ (formB ((c :: r).take n) = formB (c :: r) ∧ formB (c :: r) ≤ n ∧ (formB (c :: r) = n → okOne ((c :: r).take n) = true)) := by
    intro n h1 h2
    obtain ⟨n, rfl⟩ : ∃ n', n = n' + 1 := ⟨n - 1, by omega⟩
    have ht : (c :: r).take (n + 1) = c :: r.take n := rfl
    rcases form_careful (s := s00) rfl (most := 0) true (r := r.take n) hc with ⟨g1, g2, x, g3⟩ | ⟨g1, t, q, e, g3⟩
    · right
      have hm := form_more (most := 0) (s := s00) (first := true) (c := c) (b := c :: r.take n) ((c :: r).drop (n + 1)) (by rw [g3]; intro e h; cases h)
      rw [g3] at hm
      simp only at hm
      have hfull : (c :: r.take n) ++ (c :: r).drop (n + 1) = c :: r := by rw [← ht, List.take_append_drop]
      rw [hfull] at hm
      rcases form_careful (s := s00) rfl (most := 0) true (r := r) hc with ⟨k1, k2, y, k3⟩ | ⟨k1, _⟩
      · rw [hm] at k3
        simp only [Prod.mk.injEq, true_and] at k3
        have hlen := congrArg List.length k3.1
        rw [← ht] at hlen g2 g1
        rw [List.length_append, List.length_drop, List.length_drop, List.length_drop, List.length_take] at hlen
        rw [List.length_take] at g2
        rw [ht] at hlen g2 g1 ⊢
        have heq : formB (c :: r.take n) = formB (c :: r) := by omega
        refine ⟨heq, by omega, fun he => ?_⟩
        have hd : decAll 0 bd40 s00 (c :: r.take n) [] 0 = (s00, .ok [x]) := by
          have hsz := form_line_sz (most := 0) (s := s00) (first := true) (c := c) (b := c :: r.take n) (x := x) (by simp [s00, tsz]) (by rw [g3])
          rw [decAll_cons]
          have hi : ([] : List Ln).isEmpty = true := rfl
          rw [hi, g3]
          simp only
          rw [if_neg (by unfold bd40; omega), List.drop_eq_nil_of_le (by rw [heq, he, ← ht, List.length_take]; omega), decAll_nil]
          rfl
        rw [okOne_of hd]; rfl
      · exact absurd k1 h
    · left
      refine ⟨by rw [ht]; exact g1, ?_⟩
      rw [ht]
      refine okOne_err (e := e) (st := t) ?_
      rw [decAll_cons]
      have hi : ([] : List Ln).isEmpty = true := rfl
      rw [hi, g3]
  have hle : formB (c :: r) ≤ (c :: r).length := by
    rcases form_careful (s := s00) rfl (most := 0) true (r := r) hc with ⟨_, h, _⟩ | ⟨h', _⟩
    · exact h
    · exact absurd h' h
  refine ⟨?_, fun n h1 h2 => ?_⟩
  · rcases hpre (formB (c :: r)) (by omega) hle with ⟨a, _⟩ | ⟨_, _, a⟩
    · rw [formB_take h] at a; exact absurd a h
    · exact a rfl
  · rcases hpre n h1 (by omega) with ⟨_, a⟩ | ⟨_, a, _⟩
    · exact a
    · omega

theorem cutN_at {b : Bytes} {m : Nat} (hm : m ≤ b.length) (h1 : m < b.length → okOne (b.take m) = true) (h2 : ∀ n, 1 ≤ n → n < m → okOne (b.take n) = false) : ∀ (k n : Nat), 1 ≤ n → n ≤ m → m ≤ n + k → cutN b k n = m
  | 0, n, _, h4, h5 => by simp only [cutN]; omega
  | k + 1, n, h3, h4, h5 => by
    simp only [cutN]
    by_cases hlt : n < b.length
    · rw [if_pos hlt]
      by_cases he : n = m
      · subst he
        rw [if_pos (h1 hlt)]
      · rw [if_neg (by rw [h2 n h3 (by omega)]; simp)]
        exact cutN_at hm h1 h2 k (n + 1) (by omega) (by omega) (by omega)
    · rw [if_neg hlt]; omega

theorem forms_plain : ∀ (k : Nat) (b : Bytes) (out : List Ln) (size : Nat) (s' : St) (ls : List Ln), b.length ≤ k → decAll 0 bd40 s00 b out size = (s', .ok ls) → formsGo k b = plainB b
  | 0, b, out, size, s', ls, hk, _ => by
    obtain rfl : b = [] := List.length_eq_zero_iff.1 (by omega)
    rfl
  | k + 1, [], out, size, s', ls, _, _ => rfl
  | k + 1, c :: r, out, size, s', ls, hk, h => by
    simp only [formsGo]
    rw [plainB_cons]
    by_cases hc : c.toNat < 32 ∨ 128 ≤ c.toNat
    · rw [if_neg (by omega)]
      rw [decAll_cons] at h
      rcases form_careful (s := s00) rfl (most := 0) out.isEmpty (r := r) hc with ⟨g1, g2, x, g3⟩ | ⟨g1, t, q, e, g3⟩
      · rw [g3] at h
        simp only at h
        obtain ⟨o1, o2⟩ := okOne_at hc g1
        rw [if_neg g1, cutN_at g2 (fun _ => o1) o2 _ 1 (Nat.le_refl _) (by omega) (by omega)]
        by_cases hb : bd40 < size + fsz x.f
        · rw [if_pos hb] at h; cases h
        · rw [if_neg hb] at h
          exact forms_plain k _ _ _ s' ls (by rw [List.length_drop]; omega) h
      · rw [g3] at h
        simp only at h
        cases h
    · rw [if_pos (by omega), formB_mid hc, if_pos rfl]

theorem plain_dec : ∀ (k : Nat) (b : Bytes) (out : List Ln) (size : Nat), b.length ≤ k → size + 200000 * b.length ≤ bd40 → plainB b = true → ∃ ls, decAll 0 bd40 s00 b out size = (s00, .ok ls)
  | 0, b, out, size, hk, _, _ => by
    obtain rfl : b = [] := List.length_eq_zero_iff.1 (by omega)
    exact ⟨out, decAll_nil ..⟩
  | k + 1, [], out, size, _, _, _ => ⟨out, decAll_nil ..⟩
  | k + 1, c :: r, out, size, hk, hs, hp => by
    rw [plainB_cons] at hp
    by_cases hc : c.toNat < 32 ∨ 128 ≤ c.toNat
    · rw [decAll_cons]
      rcases form_careful (s := s00) rfl (most := 0) out.isEmpty (r := r) hc with ⟨g1, g2, x, g3⟩ | ⟨g1, _⟩
      · rw [if_neg g1] at hp
        rw [g3]
        simp only
        have hsz := form_line_sz (most := 0) (s := s00) (first := out.isEmpty) (c := c) (b := c :: r) (x := x) (by simp [s00, tsz]) (by rw [g3])
        simp only [List.length_cons] at hk hs g2
        have hdl : ((c :: r).drop (formB (c :: r))).length = r.length + 1 - formB (c :: r) := by rw [List.length_drop, List.length_cons]
        rw [if_neg (by omega)]
        exact plain_dec k _ _ _ (by omega) (by rw [hdl]; omega) hp
      · rw [if_pos g1] at hp; cases hp
    · rw [formB_mid hc, if_pos rfl] at hp; cases hp

/-- What the statement says. -/
def formsB (b : Bytes) : Bool := formsGo b.length b
theorem plain_ok {b : Bytes} (hb : b.length ≤ 100000) (h : plainB b = true) : ∃ st ls, M.decode 0 bd40 ⟨s00, false⟩ b = (st, .ok ls) := by
  obtain ⟨ls, hd⟩ := plain_dec b.length b [] 0 (Nat.le_refl _) (by unfold bd40; omega) h
  rw [decode_eq]
  simp only [Bool.false_eq_true, ↓reduceIte, hd]
  exact ⟨_, _, rfl⟩
theorem ok_forms {b : Bytes} {d : Dec} {ls : List Ln} (h : M.decode 0 bd40 ⟨s00, false⟩ b = (d, .ok ls)) : formsB b = plainB b := by
  rw [decode_eq] at h
  simp only [Bool.false_eq_true, ↓reduceIte] at h
  split at h
  · rename_i s l hd
    exact forms_plain b.length b [] 0 _ _ (Nat.le_refl _) hd
  · cases h
end Go.M
