/-
  StaticFinds, over the engine's answer.
-/
import Derived.Test.YtmopgljjpmepnaaS05Names
namespace Go.E1
open Go Go.Proofs Go.RowKit
set_option linter.unusedSimpArgs false

/-- From a place on, the first that is so: its number, or 0. -/
def fromIx (p : ByteArray × ByteArray → Bool) (i : Nat) : Int := match (ents.drop i).findIdx? p with
  | some k => (i + k + 1 : Nat)
  | none => 0

theorem fromIx_zero (p : ByteArray × ByteArray → Bool) : fromIx p 0 = ixOf p ents + 1 := by
  unfold fromIx ixOf
  rw [List.drop_zero]
  cases ents.findIdx? p with
  | none => rfl
  | some k => simp

theorem ent_at {i : Nat} (h : i < 61) : ents[i]? = some (ent i) := by
  have h' : i < ents.length := by rw [len_ents]; exact h
  simp [ent, List.getD, h']

theorem fromIx_step (p : ByteArray × ByteArray → Bool) {i : Nat} (h : i < 61) : fromIx p i = if p (ent i) = true then ((i + 1 : Nat) : Int) else fromIx p (i + 1) := by
  have h' : i < ents.length := by rw [len_ents]; exact h
  have he := ent_at h
  rw [List.getElem?_eq_getElem h'] at he
  have hd : ents.drop i = ent i :: ents.drop (i + 1) := by
    rw [List.drop_eq_getElem_cons h']
    rw [Option.some.inj he]
  unfold fromIx
  rw [hd, List.findIdx?_cons]
  by_cases hp : p (ent i) = true
  · simp [hp]
  · simp only [hp, if_false]
    cases (ents.drop (i + 1)).findIdx? p with
    | none => simp
    | some k => simp; omega

theorem fromIx_end (p : ByteArray × ByteArray → Bool) : fromIx p 61 = 0 := by
  have : ents.drop 61 = [] := rfl
  simp [fromIx, this]

theorem c13 (a b : ByteArray) : LCalls E05b 13 [.string a, .string b] LHeap.empty fun v _ => v = if 0 < fieldIx a b then .tuple #[.int .i64 (fieldIx a b), .int .i64 1] else .tuple #[.int .i64 (nameIx a), .int .i64 0] := by
  refine LCalls.enter (lf := lf13) rfl rfl (by simp [lf13]) ?_
  simp only [go_sem, lf13, ↓reduceIte]
  refine MC.loop (fun m fr hh => ∃ i : Nat, hh = LHeap.empty ∧ i ≤ 61 ∧ m = i ∧ fr = [(0, .string a), (1, .string b), (6, .int .i64 (fromIx (nEq a) i)), (7, .int .i64 i)]) 61 ⟨61, rfl, Nat.le_refl _, rfl, by rw [fromIx_end]; rfl⟩ ?_
  rintro m fr hh J ⟨i, rfl, hi, hm, rfl⟩ hJ
  simp only [go_sem, ↓reduceIte]
  by_cases h0 : 1 ≤ i
  · have h1 : (1 : Int) ≤ (i : Int) := by omega
    have h2 : (i : Int) ≤ 61 := by omega
    have h3 : (i - 1 : Int).toNat = i - 1 := by omega
    simp only [go_sem, ↓reduceIte, h1, h2, h3, pairV]
    have hst := fromIx_step (nEq a) (i := i - 1) (by omega)
    rw [show i - 1 + 1 = i by omega] at hst
    cases hp : nEq a (ent (i - 1))
    · have hp' : ((ent (i - 1)).1.data.toList == a.data.toList) = false := hp
      simp only [go_sem, ↓reduceIte, hp']
      refine hJ (i - 1) _ _ (by omega) ⟨i - 1, rfl, by omega, rfl, ?_⟩
      rw [IntWalk.i64_in _ (by omega), hst, hp]
      simp only [Bool.false_eq_true, if_false]
      rw [show ((i - 1 : Nat) : Int) = (i : Int) - 1 by omega]
    · have hp' : ((ent (i - 1)).1.data.toList == a.data.toList) = true := hp
      simp only [go_sem, ↓reduceIte, hp']
      refine hJ (i - 1) _ _ (by omega) ⟨i - 1, rfl, by omega, rfl, ?_⟩
      rw [IntWalk.i64_in _ (by omega), hst, hp]
      simp only [if_true]
      rw [show ((i - 1 : Nat) : Int) = (i : Int) - 1 by omega]
  · have h1 : ¬ (1 : Int) ≤ (i : Int) := by omega
    obtain rfl : i = 0 := by omega
    simp only [go_sem, ↓reduceIte, h1]
    have hn : fromIx (nEq a) 0 = nameIx a := fromIx_zero _
    rw [hn]
    refine MC.loop (fun m fr hh => ∃ i : Nat, hh = LHeap.empty ∧ i ≤ 61 ∧ m = 61 - i ∧ (∀ e ∈ ents.take i, fEq a b e = false) ∧ fr = [(0, .string a), (1, .string b), (6, .int .i64 (nameIx a)), (8, .int .i64 ((i : Int) + 1))]) 61 ⟨0, rfl, Nat.zero_le _, rfl, by simp, rfl⟩ ?_
    rintro m fr hh J ⟨i, rfl, hi, hm, hno, rfl⟩ hJ
    simp only [go_sem, ↓reduceIte]
    by_cases h4 : i < 61
    · have h5 : (i : Int) + 1 ≤ 61 := by omega
      have h6 : (1 : Int) ≤ (i : Int) + 1 := by omega
      have h7 : ((i : Int) + 1 - 1).toNat = i := by omega
      have more : fEq a b (ent i) = false → ∀ e ∈ ents.take (i + 1), fEq a b e = false := by
        intro hp e he
        rw [List.take_add_one, List.mem_append] at he
        rcases he with he | he
        · exact hno e he
        · rw [ent_at h4] at he
          simp only [Option.toList_some, List.mem_singleton] at he
          rw [he]; exact hp
      simp only [go_sem, ↓reduceIte, h5, h6, h7, pairV]
      cases hp : ((ent i).1.data.toList == a.data.toList)
      · simp only [go_sem, ↓reduceIte]
        refine hJ (61 - (i + 1)) _ _ (by omega) ⟨i + 1, rfl, by omega, rfl, more (by simp [fEq, hp]), ?_⟩
        rw [IntWalk.i64_in _ (by omega)]
        rfl
      · simp only [go_sem, ↓reduceIte, h5, h6, h7, pairV]
        cases hp2 : ((ent i).2.data.toList == b.data.toList)
        · simp only [go_sem, ↓reduceIte]
          refine hJ (61 - (i + 1)) _ _ (by omega) ⟨i + 1, rfl, by omega, rfl, more (by simp [fEq, hp2]), ?_⟩
          rw [IntWalk.i64_in _ (by omega)]
          rfl
        · have hx : fieldIx a b = (i : Int) + 1 := by
            unfold fieldIx
            rw [ixOf_hit (ent_at h4) (by simp [fEq, hp, hp2]) hno]
          have h8 : (0 : Int) < (i : Int) + 1 := by omega
          simp only [go_sem, ↓reduceIte, hx, h8]
    · have h5 : ¬ (i : Int) + 1 ≤ 61 := by omega
      have hx : fieldIx a b = 0 := by
        unfold fieldIx
        rw [ixOf_none]
        · rfl
        · rw [List.take_of_length_le (by rw [len_ents]; omega)] at hno
          exact hno
      simp only [go_sem, ↓reduceIte, h5, hx]

theorem c15 (a : ByteArray) (n : Int) (h0 : 0 ≤ n) (hn : n ≤ 61) : LCalls E05b 15 [.string a, .int .i64 n] LHeap.empty fun v _ => v = .int .i64 (if 0 < nameIx a ∧ nameIx a < n then nameIx a else n) := by
  refine LCalls.enter (lf := lf15) rfl rfl (by simp [lf15]) ?_
  simp only [go_sem, lf15, ↓reduceIte]
  refine MC.loop (fun m fr hh => ∃ i : Nat, hh = LHeap.empty ∧ (i : Int) ≤ 61 ∧ m = 61 - i ∧ (∀ e ∈ ents.take i, nEq a e = false) ∧ fr = [(0, .string a), (1, .int .i64 n), (5, .int .i64 ((i : Int) + 1))]) 61 ⟨0, rfl, by omega, rfl, by simp, rfl⟩ ?_
  rintro m fr hh J ⟨i, rfl, hi, hm, hno, rfl⟩ hJ
  simp only [go_sem, ↓reduceIte]
  by_cases h4 : (i : Int) + 1 < n
  · have h5 : (i : Int) + 1 ≤ 61 := by omega
    have h6 : (1 : Int) ≤ (i : Int) + 1 := by omega
    have h7 : ((i : Int) + 1 - 1).toNat = i := by omega
    simp only [go_sem, ↓reduceIte, h4, h5, h6, h7, pairV]
    cases hp : ((ent i).1.data.toList == a.data.toList)
    · simp only [go_sem, ↓reduceIte]
      refine hJ (61 - (i + 1)) _ _ (by omega) ⟨i + 1, rfl, by omega, rfl, ?_, ?_⟩
      · intro e he
        rw [List.take_add_one, List.mem_append] at he
        rcases he with he | he
        · exact hno e he
        · rw [ent_at (by omega)] at he
          simp only [Option.toList_some, List.mem_singleton] at he
          rw [he]; exact hp
      · rw [IntWalk.i64_in _ (by omega)]
        rfl
    · have hx : nameIx a = (i : Int) + 1 := by
        unfold nameIx
        rw [ixOf_hit (ent_at (by omega)) (by simp [nEq, hp]) hno]
      have h8 : (0 : Int) < (i : Int) + 1 := by omega
      simp only [go_sem, ↓reduceIte, hx, h8, h4]
  · have hx : ¬ (0 < nameIx a ∧ nameIx a < n) := by
      rintro ⟨h1, h2⟩
      unfold nameIx ixOf at h1 h2
      split at h1
      · rename_i k hk
        obtain ⟨hlt, hpk, _⟩ := List.findIdx?_eq_some_iff_getElem.1 hk
        have := hno ents[k] (by rw [List.mem_take_iff_getElem]; exact ⟨k, by simp only [hk] at h2; omega, rfl⟩)
        simp [this] at hpk
      · omega
    simp only [go_sem, ↓reduceIte, h4, hx]

def g13 : List Value → Option Value
  | [.string a, .string b] => some (if 0 < fieldIx a b then .tuple #[.int .i64 (fieldIx a b), .int .i64 1] else .tuple #[.int .i64 (nameIx a), .int .i64 0])
  | _ => none
def g15 : List Value → Option Value
  | [.string a, .int .i64 n] => if 0 ≤ n ∧ n ≤ 61 then some (.int .i64 (if 0 < nameIx a ∧ nameIx a < n then nameIx a else n)) else none
  | _ => none

def E05c : Env := (E05b.add 13 g13).add 15 g15
theorem E05c_ok : EnvOk Try.prog E05c := by
  have e1 := E05b_ok.add' 13 g13 fun args v h => by
    unfold g13 at h
    split at h
    · rename_i a b
      cases h
      obtain ⟨u, h1, hs, rfl⟩ := (c13 a b).sound E05b_ok
      refine ⟨rfl, ?_, h1, hs⟩
      split <;> rfl
    · cases h
  exact e1.add' 15 g15 fun args v h => by
    unfold g15 at h
    split at h
    · rename_i a n
      split at h
      · rename_i hn
        cases h
        obtain ⟨u, h1, hs, rfl⟩ := (c15 a n hn.1 hn.2).sound E05b_ok
        exact ⟨rfl, rfl, h1, hs⟩
      · cases h
    · cases h

section
variable (args : List Value) (h : LHeap) (d : Option Nat) (ks : List Nat) (k : Cont) (fr : Fr) (Q : Value → LHeap → Prop)
@[go_sem] theorem cc10 (r : List LOper) : MCall E05c 10 args h d r ks k fr Q = MXp E05c (g10 args) d r ks k fr h Q := MCall.pure rfl args d r ks
@[go_sem] theorem ccd10 (r : List (LOper × Nat × Nat)) (past : List LHeap) (pend : List Pend) : MDCall E05c 10 args d r ks k fr h past pend Q = MDXp E05c (g10 args) d r ks k fr h past pend Q := MDCall.pure rfl args d r ks
@[go_sem] theorem cc12 (r : List LOper) : MCall E05c 12 args h d r ks k fr Q = MXp E05c (g12 args) d r ks k fr h Q := MCall.pure rfl args d r ks
@[go_sem] theorem ccd12 (r : List (LOper × Nat × Nat)) (past : List LHeap) (pend : List Pend) : MDCall E05c 12 args d r ks k fr h past pend Q = MDXp E05c (g12 args) d r ks k fr h past pend Q := MDCall.pure rfl args d r ks
@[go_sem] theorem cc13 (r : List LOper) : MCall E05c 13 args h d r ks k fr Q = MXp E05c (g13 args) d r ks k fr h Q := MCall.pure rfl args d r ks
@[go_sem] theorem ccd13 (r : List (LOper × Nat × Nat)) (past : List LHeap) (pend : List Pend) : MDCall E05c 13 args d r ks k fr h past pend Q = MDXp E05c (g13 args) d r ks k fr h past pend Q := MDCall.pure rfl args d r ks
@[go_sem] theorem cc14 (r : List LOper) : MCall E05c 14 args h d r ks k fr Q = MXp E05c (g14 args) d r ks k fr h Q := MCall.pure rfl args d r ks
@[go_sem] theorem ccd14 (r : List (LOper × Nat × Nat)) (past : List LHeap) (pend : List Pend) : MDCall E05c 14 args d r ks k fr h past pend Q = MDXp E05c (g14 args) d r ks k fr h past pend Q := MDCall.pure rfl args d r ks
@[go_sem] theorem cc15 (r : List LOper) : MCall E05c 15 args h d r ks k fr Q = MXp E05c (g15 args) d r ks k fr h Q := MCall.pure rfl args d r ks
@[go_sem] theorem ccd15 (r : List (LOper × Nat × Nat)) (past : List LHeap) (pend : List Pend) : MDCall E05c 15 args d r ks k fr h past pend Q = MDXp E05c (g15 args) d r ks k fr h past pend Q := MDCall.pure rfl args d r ks
end
attribute [go_sem] g13 g15

theorem name_le {a b : ByteArray} (h : 0 < fieldIx a b) : 0 < nameIx a ∧ nameIx a ≤ fieldIx a b := by
  unfold fieldIx nameIx ixOf at *
  split at h
  · rename_i k hk
    obtain ⟨hlt, hp, _⟩ := List.findIdx?_eq_some_iff_getElem.1 hk
    have hn : nEq a ents[k] = true := by
      simp only [fEq, Bool.and_eq_true] at hp
      exact hp.1
    cases hj : ents.findIdx? (nEq a) with
    | none =>
      rw [List.findIdx?_eq_none_iff] at hj
      have := hj ents[k] (List.getElem_mem _)
      simp [hn] at this
    | some j =>
      obtain ⟨hj1, hj2, hj3⟩ := List.findIdx?_eq_some_iff_getElem.1 hj
      have : j ≤ k := by
        rcases Nat.lt_or_ge k j with hlt | hge
        · have := hj3 k hlt
          simp [hn] at this
        · exact hge
      constructor
      · show (0 : Int) < (j : Int) + 1; omega
      · show (j : Int) + 1 ≤ (k : Int) + 1; omega
  · omega

theorem staticFinds (a b : ByteArray) : LCalls E05c 4 [.agg #[.string a, .string b]] LHeap.empty fun v _ => v = .bool true := by
  refine LCalls.enter (lf := lf4) rfl rfl (by simp [lf4]) ?_
  by_cases h1 : (500 : Int) < (a.size : Int)
  · simp only [go_sem, ↓reduceIte, lf4, h1]
  · by_cases h2 : (500 : Int) < (b.size : Int)
    · simp only [go_sem, ↓reduceIte, lf4, h1, h2]
    · have b1 := fieldIx_in a ⟨#[]⟩
      have b2 := nameIx_in a
      have key : ∀ n : Int, 0 ≤ n → n ≤ 61 → (0 < nameIx a ∧ nameIx a ≤ n ∨ n = nameIx a) → (if 0 < nameIx a ∧ nameIx a < n then nameIx a else n) = nameIx a := by
        intro n hn hn2 hc
        split
        · rfl
        · rcases hc with hc | hc <;> omega
      by_cases h0 : 0 < fieldIx a b <;> by_cases h9 : 0 < fieldIx a ⟨#[]⟩
      · have hf := key (fieldIx a ⟨#[]⟩) b1.1 b1.2 (.inl (name_le h9))
        simp only [go_sem, ↓reduceIte, lf4, h1, h2, h0, h9]
        refine MC.dregion ?_
        simp only [go_sem, ↓reduceIte, lf4, h1, h2, h0, h9, b1, hf]
      · have hf := key (nameIx a) b2.1 b2.2 (.inr rfl)
        simp only [go_sem, ↓reduceIte, lf4, h1, h2, h0, h9]
        refine MC.dregion ?_
        simp only [go_sem, ↓reduceIte, lf4, h1, h2, h0, h9, b2, hf]
      · have hf := key (fieldIx a ⟨#[]⟩) b1.1 b1.2 (.inl (name_le h9))
        simp only [go_sem, ↓reduceIte, lf4, h1, h2, h0, h9]
        refine MC.dregion ?_
        simp only [go_sem, ↓reduceIte, lf4, h1, h2, h0, h9, b1, hf]
      · have hf := key (nameIx a) b2.1 b2.2 (.inr rfl)
        simp only [go_sem, ↓reduceIte, lf4, h1, h2, h0, h9]
        refine MC.dregion ?_
        simp only [go_sem, ↓reduceIte, lf4, h1, h2, h0, h9, b2, hf]

end Go.E1
