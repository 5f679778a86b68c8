/-
  A region that draws its order: whatever order is drawn, what the text's order tells holds.
-/
import Derived.Test.YtmopgljjpmepnaaE1Trace
namespace Go.E1
open Go

section
variable {P : Program} {q : EqF} {call : CallF} {n : Nat}

/-! ### Masks -/

theorem maskOf_bit {ms : List Nat} : ∀ (ds : List Nat) (s i : Nat), (ds.foldl (fun s d => s ||| 2 ^ d ||| ms.getD d 0) s).testBit i = true ↔ s.testBit i = true ∨ ∃ d ∈ ds, i = d ∨ (ms.getD d 0).testBit i = true
  | [], s, i => by simp
  | d :: ds, s, i => by
    simp only [List.foldl_cons]
    rw [maskOf_bit ds]
    simp only [Nat.testBit_or, Bool.or_eq_true, Nat.testBit_two_pow, List.mem_cons, exists_eq_or_imp, decide_eq_true_eq]
    constructor
    · rintro (((h | h) | h) | h)
      · exact .inl h
      · exact .inr (.inl (.inl h.symm))
      · exact .inr (.inl (.inr h))
      · exact .inr (.inr h)
    · rintro (h | (h | h) | h)
      · exact .inl (.inl (.inl h))
      · exact .inl (.inl (.inr h.symm))
      · exact .inl (.inr h)
      · exact .inr h

structure DFacts (ops : Array Oper) (ls : List LOper) (ms : List Nat) : Prop where
  len : ls.length = ops.size
  less : ∀ j o, ops[j]? = some o → ∀ d ∈ direct o, d < j
  mask : ∀ j o, ops[j]? = some o → ms.getD j 0 = maskOf ms (direct o)
  pair : ∀ i j oi oj li lj, i < j → ops[i]? = some oi → ops[j]? = some oj → ls[i]? = some li → ls[j]? = some lj → (ms.getD j 0).testBit i = true ∨ (Oper.apart ops oi oj = true ∧ ¬ (isEff li = true ∧ isEff lj = true))

theorem dOk_facts {ops : Array Oper} {ls : List LOper} {ms : List Nat} (h : dOk ops.toList ls ms = true) : DFacts ops ls ms := by
  unfold dOk at h
  simp only [Bool.and_eq_true, beq_iff_eq, List.all_eq_true, List.mem_range] at h
  obtain ⟨⟨h1, h2⟩, h3⟩ := h
  simp only [Array.length_toList] at h1 h2
  have hlt : ∀ {j : Nat} {o : Oper}, ops[j]? = some o → j < ops.size := fun {j o} ho => by
    rcases Nat.lt_or_ge j ops.size with q | q
    · exact q
    · simp [Array.getElem?_eq_none q] at ho
  have get : ∀ {j : Nat} {o : Oper}, ops[j]? = some o → ∃ l, ls[j]? = some l ∧ ((direct o).all (· < j) = true ∧ ms.getD j 0 = maskOf ms (direct o)) ∧
      ∀ i, i < j → (match ops.toList[i]?, ls[i]? with
        | some oi, some li => (ms.getD j 0).testBit i || (Oper.apart ops.toList.toArray oi o && !(isEff li && isEff l))
        | _, _ => false) = true := by
    intro j o ho
    have hj := hlt ho
    have := h3 j (by simpa using hj)
    have ho' : ops.toList[j]? = some o := by simpa using ho
    have hl : ls[j]? = some (ls[j]'(by omega)) := by simp
    rw [ho', hl] at this
    simp only [Bool.and_eq_true, beq_iff_eq, List.all_eq_true, List.mem_range] at this
    refine ⟨_, hl, ⟨?_, this.1.2⟩, this.2⟩
    rw [List.all_eq_true]
    exact this.1.1
  refine ⟨h2, ?_, ?_, ?_⟩
  · intro j o ho d hd
    obtain ⟨l, _, ⟨h, _⟩, _⟩ := get ho
    simpa using List.all_eq_true.1 h d hd
  · intro j o ho
    obtain ⟨l, _, ⟨_, h⟩, _⟩ := get ho
    exact h
  · intro i j oi oj li lj hij hoi hoj hli hlj
    obtain ⟨l, hl, _, h⟩ := get hoj
    rw [hlj] at hl
    cases hl
    have := h i hij
    have hoi' : ops.toList[i]? = some oi := by simpa using hoi
    rw [hoi', hli] at this
    simp only [Bool.or_eq_true, Bool.and_eq_true, Bool.not_eq_true', Bool.and_eq_false_iff] at this
    rcases this with h | ⟨h, h'⟩
    · exact .inl h
    · refine .inr ⟨by simpa using h, ?_⟩
      rintro ⟨e1, e2⟩
      rcases h' with h' | h'
      · rw [h'] at e1; cases e1
      · rw [h'] at e2; cases e2

/-- What has come is closed downwards. -/
def Closed (ops : Array Oper) (L : Nat → Bool) : Prop := ∀ j o, ops[j]? = some o → L j = true → ∀ d ∈ direct o, L d = true

theorem closed_bits {ops : Array Oper} {ls : List LOper} {ms : List Nat} (hf : DFacts ops ls ms) {L : Nat → Bool} (hc : Closed ops L) : ∀ (j : Nat) (o : Oper), ops[j]? = some o → ∀ i, (ms.getD j 0).testBit i = true → (∀ d ∈ direct o, L d = true) → L i = true := by
  intro j
  induction j using Nat.strongRecOn with
  | _ j ih =>
    intro o ho i hb hd
    rw [hf.mask j o ho] at hb
    unfold maskOf at hb
    rw [maskOf_bit] at hb
    rcases hb with hb | ⟨d, hdm, rfl | hb⟩
    · simp at hb
    · exact hd i hdm
    · have hlt := hf.less j o ho d hdm
      have hds : d < ops.size := by
        have : j < ops.size := by
          rcases Nat.lt_or_ge j ops.size with q | q
          · exact q
          · simp [Array.getElem?_eq_none q] at ho
        omega
      have hod : ops[d]? = some ops[d] := by simp [hds]
      exact ih d hlt ops[d] hod i hb (hc d ops[d] hod (hd d hdm))

/-! ### What has come of a slot, and of the effects -/

/-- A slot behind the first 'k' operations, of those that have come. -/
def cur (ls : List LOper) (V : Nat → Value) (fr : Fr) (L : Nat → Bool) (t : Nat) : Nat → Option Value
  | 0 => fr.get t
  | k + 1 => match ls[k]? with
    | some l => if L k = true ∧ l.dst = some t then some (V k) else cur ls V fr L t k
    | none => cur ls V fr L t k

def cnt (ls : List LOper) (L : Nat → Bool) : Nat → Nat
  | 0 => 0
  | k + 1 => cnt ls L k + (if L k = true ∧ (ls[k]?).any isEff = true then 1 else 0)

theorem effIn_cnt (ls : List LOper) (p : Nat → Bool) : effIn ls p = cnt ls p ls.length := by
  unfold effIn
  generalize ls.length = N
  induction N with
  | zero => rfl
  | succ k ih =>
    rw [List.range_succ, List.filter_append, List.length_append, ih]
    simp only [cnt, List.filter_cons, List.filter_nil]
    by_cases h : p k = true ∧ (ls[k]?).any isEff = true
    · simp [h]
    · rw [if_neg h]
      have : (p k && (ls[k]?).any isEff) = false := by
        cases h1 : p k <;> cases h2 : (ls[k]?).any isEff <;> simp_all
      simp [this]

theorem cnt_mono {ls : List LOper} {p p' : Nat → Bool} : ∀ k, (∀ j, j < k → (ls[j]?).any isEff = true → p j = true → p' j = true) → cnt ls p k ≤ cnt ls p' k
  | 0, _ => Nat.le_refl _
  | k + 1, h => by
    have ih := cnt_mono (ls := ls) (p := p) (p' := p') k (fun j hj => h j (by omega))
    simp only [cnt]
    by_cases h1 : p k = true ∧ (ls[k]?).any isEff = true
    · have := h k (by omega) h1.2 h1.1
      rw [if_pos h1, if_pos ⟨this, h1.2⟩]; omega
    · rw [if_neg h1]; omega

theorem cnt_congr {ls : List LOper} {p p' : Nat → Bool} (k : Nat) (h : ∀ j, j < k → (ls[j]?).any isEff = true → p j = p' j) : cnt ls p k = cnt ls p' k :=
  Nat.le_antisymm (cnt_mono k fun j hj he hp => by rw [← h j hj he]; exact hp) (cnt_mono k fun j hj he hp => by rw [h j hj he]; exact hp)

theorem cnt_le {ls : List LOper} {p : Nat → Bool} {k m : Nat} (h : k ≤ m) (hz : ∀ j, k ≤ j → j < m → (ls[j]?).any isEff = true → p j = false) : cnt ls p m = cnt ls p k := by
  induction m with
  | zero => have : k = 0 := by omega
            subst this; rfl
  | succ m ih =>
    by_cases e : k = m + 1
    · subst e; rfl
    · simp only [cnt]
      rw [ih (by omega) (fun j h1 h2 => hz j h1 (by omega))]
      rw [if_neg]
      · rfl
      · rintro ⟨h1, h2⟩
        rw [hz m (by omega) (by omega) h2] at h1; cases h1

/-- One more has come. -/
def more (L : Nat → Bool) (i : Nat) : Nat → Bool := fun j => j == i || L j

theorem cnt_more {ls : List LOper} {L : Nat → Bool} {i N : Nat} {l : LOper} (hi : i < N) (hl : ls[i]? = some l) (hL : L i = false) : cnt ls (more L i) N = cnt ls L N + (if isEff l = true then 1 else 0) := by
  induction N with
  | zero => omega
  | succ k ih =>
    simp only [cnt]
    by_cases e : k = i
    · subst e
      have h1 : cnt ls (more L k) k = cnt ls L k := cnt_congr k (fun j hj _ => by
        have : ¬ j = k := by omega
        simp [more, this])
      rw [h1, hl, hL]
      simp [more]
    · rw [ih (by omega)]
      have : more L i k = L k := by simp [more, e]
      rw [this]
      omega

/-- What the text's order tells, in one place. -/
structure Track where
  H : Nat → LHeap
  F : Nat → Fr
  C : Nat → Nat
  V : Nat → Value

structure TrOk (q : EqF) (call : CallF) (ls : List LOper) (ms : List Nat) (T : Track) : Prop where
  op : ∀ i e, (dBounds ls ms)[i]? = some e → OpTr q call T.H (T.C ls.length) e (T.F i) (T.F (i + 1)) (T.C i) (T.C (i + 1)) (T.V i)
  zero : T.C 0 = 0

theorem dBounds_get {ls : List LOper} {ms : List Nat} {i : Nat} {l : LOper} (hl : ls[i]? = some l) :
    (dBounds ls ms)[i]? = some (l, effIn ls (fun j => (ms.getD i 0).testBit j), effIn ls (fun j => !(ms.getD j 0).testBit i)) := by
  unfold dBounds
  rw [List.getElem?_map, List.getElem?_zipIdx, hl]
  simp

theorem dBounds_length {ls : List LOper} {ms : List Nat} : (dBounds ls ms).length = ls.length := by simp [dBounds]

theorem C_cnt {ls : List LOper} {ms : List Nat} {T : Track} (ht : TrOk q call ls ms T) : ∀ k, k ≤ ls.length → T.C k = cnt ls (fun _ => true) k
  | 0, _ => ht.zero
  | k + 1, hk => by
    have hl : ls[k]? = some (ls[k]'(by omega)) := by simp
    obtain ⟨b, _, _, hc, _⟩ := ht.op k _ (dBounds_get hl)
    rw [hc, C_cnt ht k (by omega)]
    simp only [cnt, hl, Option.any_some, true_and, isEff, beq_iff_eq]

theorem F_get {ls : List LOper} {ms : List Nat} {T : Track} (ht : TrOk q call ls ms T) (t : Nat) : ∀ k, k ≤ ls.length → (T.F k).get t = cur ls T.V (T.F 0) (fun _ => true) t k
  | 0, _ => rfl
  | k + 1, hk => by
    have hl : ls[k]? = some (ls[k]'(by omega)) := by simp
    obtain ⟨b, _, hF, _⟩ := ht.op k _ (dBounds_get hl)
    rw [hF, Fr.get_put, F_get ht t k (by omega)]
    simp only [cur, hl, true_and]

section
variable {ops : Array Oper} {ls : List LOper} {ms : List Nat} {T : Track}

/-- Operation 'i' may come now. -/
structure Ready (ops : Array Oper) (L : Nat → Bool) (i : Nat) (o : Oper) : Prop where
  op : ops[i]? = some o
  not : L i = false
  all : ∀ d ∈ direct o, L d = true

theorem ready_lt {L : Nat → Bool} {i : Nat} {o : Oper} (hr : Ready ops L i o) : i < ops.size := by
  rcases Nat.lt_or_ge i ops.size with q | q
  · exact q
  · have := hr.op; simp [Array.getElem?_eq_none q] at this

theorem opt_get {α : Type} {l : List α} {i : Nat} (h : i < l.length) : l[i]? = some l[i] := by simp
theorem arr_get {α : Type} {l : Array α} {i : Nat} (h : i < l.size) : l[i]? = some l[i] := by simp

/-- Whoever must come behind 'i' has not come. -/
theorem later_not (hf : DFacts ops ls ms) {L : Nat → Bool} (hc : Closed ops L) {i : Nat} {o : Oper} (hr : Ready ops L i o) {j : Nat} (hj : j < ops.size) (hb : (ms.getD j 0).testBit i = true) : L j = false := by
  cases e : L j with
  | false => rfl
  | true =>
    have := closed_bits hf hc j ops[j] (arr_get hj) i hb (hc j ops[j] (arr_get hj) e)
    rw [hr.not] at this; cases this

theorem cur_above (hf : DFacts ops ls ms) (hls : ∀ (j : Nat) (o : Oper) (l : LOper), ops[j]? = some o → ls[j]? = some l → l.dst = o.dst) {L : Nat → Bool} (hc : Closed ops L) {i : Nat} {o : Oper} (hr : Ready ops L i o) {t : Nat} (ht : t ∈ o.looksAt ops ∨ o.dst = some t) (fr : Fr) :
    ∀ k, i ≤ k → k ≤ ls.length → cur ls T.V fr L t k = cur ls T.V fr L t i := by
  intro k hik
  induction k with
  | zero => intro _; have : i = 0 := by omega
            subst this; rfl
  | succ k ih =>
    intro hk
    by_cases e : i = k + 1
    · subst e; rfl
    · rw [← ih (by omega) (by omega)]
      have hkl : k < ops.size := by have := hf.len; omega
      have hl := opt_get (l := ls) (i := k) (by omega)
      simp only [cur, hl]
      rw [if_neg]
      rintro ⟨h1, h2⟩
      by_cases e2 : k = i
      · subst e2; rw [hr.not] at h1; cases h1
      · have hil := ready_lt hr
        have hli := opt_get (l := ls) (i := i) (by have := hf.len; omega)
        rcases hf.pair i k o ops[k] _ _ (by omega) hr.op (arr_get hkl) hli hl with hb | ⟨ha, _⟩
        · rw [later_not hf hc hr hkl hb] at h1; cases h1
        · obtain ⟨a1, a2, a3⟩ := Oper.apart_spec ha
          have hd : (ops[k]).dst = some t := by rw [← hls k _ _ (arr_get hkl) hl]; exact h2
          rcases ht with ht | ht
          · exact a3 t hd ht
          · exact a2 t ht hd

theorem cur_below (hf : DFacts ops ls ms) (hls : ∀ (j : Nat) (o : Oper) (l : LOper), ops[j]? = some o → ls[j]? = some l → l.dst = o.dst) {L : Nat → Bool} (hc : Closed ops L) {i : Nat} {o : Oper} (hr : Ready ops L i o) {t : Nat} (ht : t ∈ o.looksAt ops) (fr : Fr) :
    ∀ k, k ≤ i → cur ls T.V fr L t k = cur ls T.V fr (fun _ => true) t k := by
  intro k
  induction k with
  | zero => intro _; rfl
  | succ k ih =>
    intro hk
    have hil := ready_lt hr
    have hkl : k < ops.size := by omega
    have hl := opt_get (l := ls) (i := k) (by have := hf.len; omega)
    have hli := opt_get (l := ls) (i := i) (by have := hf.len; omega)
    simp only [cur, hl, true_and]
    rw [ih (by omega)]
    by_cases e : (ls[k]'(by have := hf.len; omega)).dst = some t
    · have hd : (ops[k]).dst = some t := by rw [← hls k _ _ (arr_get hkl) hl]; exact e
      rcases hf.pair k i ops[k] o _ _ (by omega) (arr_get hkl) hr.op hl hli with hb | ⟨ha, _⟩
      · have := closed_bits hf hc i o hr.op k hb hr.all
        rw [if_pos ⟨this, e⟩, if_pos e]
      · obtain ⟨a1, a2, a3⟩ := Oper.apart_spec ha
        exact absurd ht (a1 t hd)
    · rw [if_neg (fun h => e h.2), if_neg e]

theorem cur_ready (hf : DFacts ops ls ms) (hls : ∀ (j : Nat) (o : Oper) (l : LOper), ops[j]? = some o → ls[j]? = some l → l.dst = o.dst) (htr : TrOk q call ls ms T) {L : Nat → Bool} (hc : Closed ops L) {i : Nat} {o : Oper} (hr : Ready ops L i o) {t : Nat} (ht : t ∈ o.looksAt ops) :
    (T.F i).get t = cur ls T.V (T.F 0) L t ls.length := by
  have hil := ready_lt hr
  rw [cur_above (T := T) hf hls hc hr (.inl ht) _ ls.length (by have := hf.len; omega) (Nat.le_refl _), cur_below (T := T) hf hls hc hr ht _ i (Nat.le_refl _)]
  exact F_get htr t i (by have := hf.len; omega)

theorem cur_more (hf : DFacts ops ls ms) (hls : ∀ (j : Nat) (o : Oper) (l : LOper), ops[j]? = some o → ls[j]? = some l → l.dst = o.dst) {L : Nat → Bool} (hc : Closed ops L) {i : Nat} {o : Oper} (hr : Ready ops L i o) (fr : Fr) (t : Nat) :
    cur ls T.V fr (more L i) t ls.length = if o.dst = some t then some (T.V i) else cur ls T.V fr L t ls.length := by
  have hil := ready_lt hr
  have hNl := hf.len
  have hli := opt_get (l := ls) (i := i) (by omega)
  have hdi := hls i o _ hr.op hli
  by_cases e : o.dst = some t
  · rw [if_pos e]
    have key : ∀ k, i < k → k ≤ ls.length → cur ls T.V fr (more L i) t k = some (T.V i) := by
      intro k
      induction k with
      | zero => intro h; omega
      | succ k ih =>
        intro hik hk
        have hl := opt_get (l := ls) (i := k) (by omega)
        simp only [cur, hl]
        by_cases e2 : k = i
        · subst e2
          rw [if_pos ⟨by simp [more], by rw [hdi]; exact e⟩]
        · rw [if_neg, ih (by omega) (by omega)]
          rintro ⟨h1, h2⟩
          have hLk : L k = true := by simpa [more, e2] using h1
          have hkl : k < ops.size := by omega
          rcases hf.pair i k o ops[k] _ _ (by omega) hr.op (arr_get hkl) hli hl with hb | ⟨ha, _⟩
          · rw [later_not hf hc hr hkl hb] at hLk; cases hLk
          · obtain ⟨a1, a2, a3⟩ := Oper.apart_spec ha
            have hd : (ops[k]).dst = some t := by rw [← hls k _ _ (arr_get hkl) hl]; exact h2
            exact a2 t e hd
    exact key ls.length (by omega) (Nat.le_refl _)
  · rw [if_neg e]
    have key : ∀ k, k ≤ ls.length → cur ls T.V fr (more L i) t k = cur ls T.V fr L t k := by
      intro k
      induction k with
      | zero => intro _; rfl
      | succ k ih =>
        intro hk
        have hl := opt_get (l := ls) (i := k) (by omega)
        simp only [cur, hl]
        rw [ih (by omega)]
        by_cases e2 : k = i
        · subst e2
          rw [if_neg, if_neg]
          · rintro ⟨_, h2⟩; rw [hdi] at h2; exact e h2
          · rintro ⟨_, h2⟩; rw [hdi] at h2; exact e h2
        · have : more L i k = L k := by simp [more, e2]
          rw [this]
    exact key ls.length (Nat.le_refl _)

/-- An effect that may come now is the next one. -/
theorem cnt_eff (hf : DFacts ops ls ms) (htr : TrOk q call ls ms T) {L : Nat → Bool} (hc : Closed ops L) {i : Nat} {o : Oper} (hr : Ready ops L i o) {l : LOper} (hl : ls[i]? = some l) (he : isEff l = true) : cnt ls L ls.length = T.C i := by
  have hil := ready_lt hr
  have hNl := hf.len
  rw [C_cnt htr i (by omega)]
  rw [cnt_le (k := i) (by omega)]
  · refine cnt_congr i (fun j hj hej => ?_)
    have hlj := opt_get (l := ls) (i := j) (by omega)
    have hjl : j < ops.size := by omega
    rw [hlj] at hej
    rcases hf.pair j i ops[j] o _ _ hj (arr_get hjl) hr.op hlj hl with hb | ⟨_, hn⟩
    · exact closed_bits hf hc i o hr.op j hb hr.all
    · exact absurd ⟨hej, he⟩ hn
  · intro j h1 h2 hej
    by_cases e : j = i
    · subst e; exact hr.not
    · have hlj := opt_get (l := ls) (i := j) (by omega)
      have hjl : j < ops.size := by omega
      rw [hlj] at hej
      rcases hf.pair i j o ops[j] _ _ (by omega) hr.op (arr_get hjl) hl hlj with hb | ⟨_, hn⟩
      · exact later_not hf hc hr hjl hb
      · exact absurd ⟨he, hej⟩ hn

theorem cnt_lo (hf : DFacts ops ls ms) {L : Nat → Bool} (hc : Closed ops L) {i : Nat} {o : Oper} (hr : Ready ops L i o) : effIn ls (fun j => (ms.getD i 0).testBit j) ≤ cnt ls L ls.length := by
  rw [effIn_cnt]
  exact cnt_mono _ fun j _ _ hb => closed_bits hf hc i o hr.op j hb hr.all

theorem cnt_hi (hf : DFacts ops ls ms) {L : Nat → Bool} (hc : Closed ops L) {i : Nat} {o : Oper} (hr : Ready ops L i o) : cnt ls L ls.length ≤ effIn ls (fun j => !(ms.getD j 0).testBit i) := by
  rw [effIn_cnt]
  refine cnt_mono _ fun j hj _ hL => ?_
  cases hb : (ms.getD j 0).testBit i with
  | false => rfl
  | true =>
    rw [later_not hf hc hr (by have := hf.len; omega) hb] at hL
    cases hL

theorem cnt_all (htr : TrOk q call ls ms T) (L : Nat → Bool) : cnt ls L ls.length ≤ T.C ls.length := by
  rw [C_cnt htr _ (Nat.le_refl _)]
  exact cnt_mono _ fun _ _ _ _ => rfl

end

end
end Go.E1
