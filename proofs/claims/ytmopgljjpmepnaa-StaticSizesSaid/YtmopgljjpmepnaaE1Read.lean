/-
  From a row's reading of an argument to a logical argument: every type of truth values, numbers, strings, slices, structs and arrays of such.
-/
import Derived.Test.YtmopgljjpmepnaaE1Plain
import Derived.ChangeArms
import Derived.OpenShut
namespace Go.E1
open Go

/-- Nothing of it may be written. -/
def RO (ν : Inj) (h : LHeap) : Prop := ∀ b pl, ν b = some pl → LObj.writable (h.get b) = false

section
variable (P : Program)

/-- What a logical argument of a type looks like. -/
def LRd (h : LHeap) : Nat → TypeId → List Value → Prop
  | 0, _, _ => False
  | n + 1, t, cs => match P.underlying t, cs with
    | some .bool, [.bool _] => True
    | some (.int k), [.int k' i] => k' = k ∧ (Lit.int k i).wf = true
    | some .string, [.string s] => s.size ≤ maxLen
    | some (.slice _), [.slice none 0 0] => True
    | some (.slice e), [.slice (some ⟨b, 0, none⟩) len E] => E = P.cellsOf e ∧ b < h.size ∧ ∃ css : List (List Value), h.get b = some (.cells css.flatten false false) ∧ css.length = len ∧ len ≤ maxLen ∧ ∀ c ∈ css, c.length = E ∧ LRd h n e c
    | some (.struct fs), cs => ∃ parts : List (List Value), cs = parts.flatten ∧ parts.length = fs.size ∧ ∀ (i : Nat) (f : Field) (p : List Value), fs[i]? = some f → parts[i]? = some p → p.length = P.cellsOf f.type ∧ LRd h n f.type p
    | some (.array k e), cs => ∃ parts : List (List Value), cs = parts.flatten ∧ parts.length = k ∧ ∀ p ∈ parts, p.length = P.cellsOf e ∧ LRd h n e p
    | _, _ => False

/-- The fields lie one behind the other. -/
def contig : Nat → List Field → Option Nat
  | off, [] => some off
  | off, f :: fs => if f.offset = off then contig (off + P.cellsOf f.type) fs else none

def simpleT : Nat → TypeId → Bool
  | 0, _ => false
  | n + 1, t => match P.underlying t with
    | some .bool | some (.int _) | some .string => true
    | some (.slice e) => P.cellsOf e != 0 && simpleT n e
    | some (.struct fs) => contig P 0 fs.toList == some (P.cellsOf t) && fs.toList.all fun f => simpleT n f.type
    | some (.array k e) => k * P.cellsOf e == P.cellsOf t && simpleT n e
    | _ => false
end

variable {P : Program}

theorem LRd.mono {h h' : LHeap} (hx : Ext h h') : ∀ {n : Nat} {t : TypeId} {cs : List Value}, LRd P h n t cs → LRd P h' n t cs
  | 0, _, _, r => r
  | n + 1, t, cs, r => by
    unfold LRd at r ⊢
    split at r
    · trivial
    · exact r
    · exact r
    · trivial
    · obtain ⟨h1, h2, css, h3, h4, h5, h6⟩ := r
      exact ⟨h1, Nat.lt_of_lt_of_le h2 hx.size, css, by rw [hx.get _ h2]; exact h3, h4, h5, fun c hc => ⟨(h6 c hc).1, (h6 c hc).2.mono hx⟩⟩
    · obtain ⟨parts, h1, h2, h3⟩ := r
      exact ⟨parts, h1, h2, fun i f p a b => ⟨(h3 i f p a b).1, (h3 i f p a b).2.mono hx⟩⟩
    · obtain ⟨parts, h1, h2, h3⟩ := r
      exact ⟨parts, h1, h2, fun p a => ⟨(h3 p a).1, (h3 p a).2.mono hx⟩⟩
    · exact r

/-- There is a logical reading. -/
def Abs (P : Program) (W : World) (n : Nat) (t : TypeId) (cs : List Value) : Prop :=
  ∀ (ν : Inj) (h : LHeap), HR ν h W → RO ν h → ∃ ν' h' lcs, ν.le ν' ∧ Ext h h' ∧ HR ν' h' W ∧ RO ν' h' ∧ VRs ν' lcs cs ∧ LRd P h' n t lcs

theorem abs_list {W : World} {n : Nat} : ∀ (jobs : List (TypeId × List Value)), (∀ j ∈ jobs, Abs P W n j.1 j.2) → ∀ (ν : Inj) (h : LHeap), HR ν h W → RO ν h →
    ∃ (ν' : Inj) (h' : LHeap) (out : List (List Value)), ν.le ν' ∧ Ext h h' ∧ HR ν' h' W ∧ RO ν' h' ∧ out.length = jobs.length ∧ ∀ (i : Nat) (j : TypeId × List Value) (o : List Value), jobs[i]? = some j → out[i]? = some o → VRs ν' o j.2 ∧ LRd P h' n j.1 o
  | [], _, ν, h, hr, ro => ⟨ν, h, [], Inj.le_refl ν, Ext.refl h, hr, ro, rfl, fun i j o hj => by simp at hj⟩
  | j :: jobs, hj, ν, h, hr, ro => by
    obtain ⟨ν₁, h₁, lcs, a1, a2, a3, a4, a5, a6⟩ := hj j (List.mem_cons_self ..) ν h hr ro
    obtain ⟨ν₂, h₂, out, b1, b2, b3, b4, b5, b6⟩ := abs_list jobs (fun x hx => hj x (List.mem_cons_of_mem _ hx)) ν₁ h₁ a3 a4
    refine ⟨ν₂, h₂, lcs :: out, Inj.le_trans a1 b1, a2.trans b2, b3, b4, by simp [b5], ?_⟩
    intro i x o hx ho
    cases i with
    | zero =>
      simp only [List.getElem?_cons_zero, Option.some.injEq] at hx ho
      subst hx; subst ho
      exact ⟨a5.mono b1, a6.mono b2⟩
    | succ i => exact b6 i x o (by simpa using hx) (by simpa using ho)

theorem mapM_get {α β : Type} {f : α → Option β} : ∀ {l : List α} {ys : List β}, l.mapM f = some ys → ys.length = l.length ∧ ∀ (i : Nat) (x : α), l[i]? = some x → ∃ y, ys[i]? = some y ∧ f x = some y
  | [], ys, h => by
    simp only [List.mapM_nil, Option.pure_def, Option.some.injEq] at h
    subst h
    exact ⟨rfl, fun i x hx => by simp at hx⟩
  | a :: l, ys, h => by
    simp only [List.mapM_cons, Option.pure_def, Option.bind_eq_bind, Option.bind_eq_some_iff] at h
    obtain ⟨y, h1, zs, h2, h3⟩ := h
    cases h3
    obtain ⟨h4, h5⟩ := mapM_get h2
    refine ⟨by simp [h4], fun i x hx => ?_⟩
    cases i with
    | zero =>
      simp only [List.getElem?_cons_zero, Option.some.injEq] at hx
      subst hx
      exact ⟨y, rfl, h1⟩
    | succ i => simpa using h5 i x (by simpa using hx)

theorem VRs.flatten {ν : Inj} : ∀ {a b : List (List Value)}, a.length = b.length → (∀ (i : Nat) (x y : List Value), a[i]? = some x → b[i]? = some y → VRs ν x y) → VRs ν a.flatten b.flatten
  | [], [], _, _ => .nil ν
  | [], _ :: _, h, _ => by simp at h
  | _ :: _, [], h, _ => by simp at h
  | x :: a, y :: b, h, k => by
    simp only [List.flatten_cons]
    exact (k 0 x y rfl rfl).append (VRs.flatten (by simpa using h) fun i u v hu hv => k (i + 1) u v (by simpa using hu) (by simpa using hv))

theorem chunks_fields {cs : List Value} : ∀ (fs : List Field) (off : Nat), contig P off fs = some cs.length → (fs.map fun f => (cs.drop f.offset).take (P.cellsOf f.type)).flatten = cs.drop off
  | [], off, h => by
    simp only [contig, Option.some.injEq] at h
    subst h
    simp
  | f :: fs, off, h => by
    simp only [contig] at h
    split at h
    · rename_i e
      subst e
      simp only [List.map_cons, List.flatten_cons]
      rw [chunks_fields fs _ h, ← List.drop_drop, List.take_append_drop]
    · cases h

theorem contig_le {cs : List Value} : ∀ (fs : List Field) (off : Nat), contig P off fs = some cs.length → off ≤ cs.length ∧ ∀ f ∈ fs, f.offset + P.cellsOf f.type ≤ cs.length
  | [], off, h => by
    simp only [contig, Option.some.injEq] at h
    exact ⟨by omega, fun f hf => by simp at hf⟩
  | f :: fs, off, h => by
    simp only [contig] at h
    split at h
    · rename_i e
      obtain ⟨h1, h2⟩ := contig_le fs _ h
      refine ⟨by omega, fun g hg => ?_⟩
      rcases List.mem_cons.1 hg with rfl | hg
      · omega
      · exact h2 g hg
    · cases h

theorem chunks_array {cs : List Value} (k : Nat) : ∀ (m : Nat), m * k ≤ cs.length → ((List.range m).map fun i => (cs.drop (i * k)).take k).flatten = cs.take (m * k)
  | 0, _ => by simp
  | m + 1, h => by
    rw [List.range_succ, List.map_append, List.flatten_append, chunks_array k m (by rw [Nat.add_mul] at h; omega)]
    simp only [List.map_cons, List.map_nil, List.flatten_cons, List.flatten_nil, List.append_nil]
    rw [Nat.add_mul, Nat.one_mul, List.take_add]

/-- A new block that is only read. -/
theorem push_ro {W : World} {ν : Inj} {h : LHeap} (hr : HR ν h W) (ro : RO ν h) {B base : Nat} {c : Array Value} {e : TypeId} {fz : Nat × Nat} {ls : List Value} (hB : W.heap[B]? = some (.cells c e fz)) (hlen : base + ls.length ≤ c.size)
    (hv : ∀ (i : Nat) (v : Value), ls[i]? = some v → ∃ v', c[base + i]? = some v' ∧ VR ν v v') :
    ∃ ν', ν.le ν' ∧ Ext h (h.push (.cells ls false false)) ∧ HR ν' (h.push (.cells ls false false)) W ∧ RO ν' (h.push (.cells ls false false)) ∧ ν' h.size = some ⟨B, base, c.size⟩ := by
  have hlt : B < W.heap.size := by
    rcases Nat.lt_or_ge B W.heap.size with h | h
    · exact h
    · simp [Array.getElem?_eq_none h] at hB
  have hno : ν h.size = none := by
    cases hn : ν h.size with
    | none => rfl
    | some pl => exact absurd (hr.dom _ _ hn) (Nat.lt_irrefl _)
  let ν' : Inj := fun b => if b = h.size then some ⟨B, base, c.size⟩ else ν b
  have hle : ν.le ν' := by
    intro b pl hb
    have : b ≠ h.size := Nat.ne_of_lt (hr.dom b pl hb)
    simp [ν', this, hb]
  have ro' : RO ν' (h.push (.cells ls false false)) := by
    intro b pl hb
    by_cases e : b = h.size
    · simp [e, LObj.writable]
    · simp only [ν', e, if_false] at hb
      simp only [LHeap.get_push, e, if_false]
      exact ro b pl hb
  refine ⟨ν', hle, Ext.push h _, ⟨?_, ?_, ?_, ?_⟩, ro', by simp [ν']⟩
  · intro b pl hb
    by_cases e : b = h.size
    · simp [e]
    · simp only [ν', e, if_false] at hb
      exact Nat.lt_succ_of_lt (hr.dom b pl hb)
  · intro b pl hb
    by_cases e' : b = h.size
    · subst e'
      simp only [ν', if_true, Option.some.injEq] at hb
      subst hb
      simp only [LHeap.get_push, if_true, ObjR]
      refine ⟨c, e, fz, hB, rfl, hlen, (nomatch ·), ?_, (nomatch ·)⟩
      intro i v hi
      obtain ⟨v', h1, h2⟩ := hv i v hi
      exact ⟨v', h1, h2.mono hle⟩
    · simp only [ν', e', if_false] at hb
      simp only [LHeap.get_push, e', if_false]
      have := hr.obj b pl hb
      have hw := ro b pl hb
      unfold ObjR at this ⊢
      split at this
      · rename_i hg
        rw [hg] at hw
        simp only [LObj.writable] at hw
        obtain ⟨c', e2, fz', g1, g2, g3, g4, g5, g6⟩ := this
        refine ⟨c', e2, fz', g1, g2, g3, g4, ?_, g6⟩
        intro i v hi
        obtain ⟨v', k1, k2⟩ := g5 i v hi
        exact ⟨v', k1, k2.mono hle⟩
      · rename_i hg
        rw [hg] at hw
        simp [LObj.writable] at hw
      · trivial
  · intro b c' pl ql hb hc hne hBB
    have kind : ∀ b pl, ν' b = some pl → LObj.writable ((h.push (.cells ls false false)).get b) = false := ro'
    have h1 := kind b pl hb
    have h2 := kind c' ql hc
    unfold Apart
    split
    · rename_i g1 g2
      rw [g1] at h1
      rw [g2] at h2
      simp only [LObj.writable] at h1 h2
      subst h1
      subst h2
      rintro (h | h) <;> cases h
    · rename_i g1 g2
      rw [g1] at h1
      simp [LObj.writable] at h1
    · trivial
  · intro b pl hb
    by_cases e' : b = h.size
    · subst e'
      simp only [ν', if_true, Option.some.injEq] at hb
      subst hb
      exact hlt
    · simp only [ν', e', if_false] at hb
      exact hr.real b pl hb

theorem cells_get {w : World} {base : Nat} {a : Addr} {n : Nat} {xs : List Value} (h : w.cells? base a n = some xs) : xs.length = n ∧ ∀ i, i < n → ∃ v, xs[i]? = some v ∧ w.cell? (a.add i) = some v := by
  unfold World.cells? at h
  split at h
  · obtain ⟨h1, h2⟩ := mapM_get h
    refine ⟨by simpa using h1, fun i hi => ?_⟩
    obtain ⟨y, h3, h4⟩ := h2 i i (by simp [hi])
    exact ⟨y, h3, h4⟩
  · cases h

theorem flat_cells {E : Nat} (f : Nat → List Value) (g : Nat → Option Value) : ∀ (len : Nat), (∀ i, i < len → (f i).length = E ∧ ∀ k, k < E → ∃ v, (f i)[k]? = some v ∧ g (i * E + k) = some v) →
    ((List.range len).map f).flatten.length = len * E ∧ ∀ j, j < len * E → ∃ v, ((List.range len).map f).flatten[j]? = some v ∧ g j = some v
  | 0, _ => ⟨by simp, fun j hj => by omega⟩
  | len + 1, h => by
    obtain ⟨h1, h2⟩ := flat_cells f g len fun i hi => h i (by omega)
    obtain ⟨h3, h4⟩ := h len (by omega)
    rw [List.range_succ, List.map_append, List.flatten_append]
    simp only [List.map_cons, List.map_nil, List.flatten_cons, List.flatten_nil, List.append_nil]
    refine ⟨by rw [List.length_append, h1, h3, Nat.add_mul, Nat.one_mul], fun j hj => ?_⟩
    rw [Nat.add_mul, Nat.one_mul] at hj
    rcases Nat.lt_or_ge j (len * E) with hlt | hge
    · rw [List.getElem?_append_left (by rw [h1]; exact hlt)]
      exact h2 j hlt
    · rw [List.getElem?_append_right (by rw [h1]; exact hge), h1]
      obtain ⟨v, h5, h6⟩ := h4 (j - len * E) (by omega)
      refine ⟨v, h5, ?_⟩
      rw [show len * E + (j - len * E) = j by omega] at h6
      exact h6

theorem push_none {W : World} {ν : Inj} {h : LHeap} (hr : HR ν h W) (ro : RO ν h) (o : LObj) : HR ν (h.push o) W ∧ RO ν (h.push o) := by
  have same : ∀ b pl, ν b = some pl → (h.push o).get b = h.get b := by
    intro b pl hb
    have : b ≠ h.size := Nat.ne_of_lt (hr.dom b pl hb)
    simp [this]
  refine ⟨⟨fun b pl hb => Nat.lt_succ_of_lt (hr.dom b pl hb), fun b pl hb => ?_, fun b c pl ql hb hc hne hB => ?_, hr.real⟩, fun b pl hb => ?_⟩
  · rw [same b pl hb]; exact hr.obj b pl hb
  · rw [same b pl hb, same c ql hc]; exact hr.sep b c pl ql hb hc hne hB
  · rw [same b pl hb]; exact ro b pl hb

theorem add_none (b o n : Nat) : Addr.add ⟨b, o, none⟩ n = ⟨b, o + n, none⟩ := by
  unfold Addr.add
  split
  · rename_i h; subst h; rfl
  · rfl

/-- The slice's own step. -/
theorem abs_slice {W : World} {m : Nat} {t e : TypeId} (hu : P.underlying t = some (.slice e)) (hE : P.cellsOf e ≠ 0) {a : Addr} {len cap : Nat} (hlc : len ≤ cap) (hcap : cap ≤ maxLen)
    (hall : ∀ i, i < cap → ∃ xs, W.cells? 0 (a.add (i * P.cellsOf e)) (P.cellsOf e) = some xs) (habs : ∀ i xs, i < len → W.cells? 0 (a.add (i * P.cellsOf e)) (P.cellsOf e) = some xs → Abs P W m e xs) :
    Abs P W (m + 1) t [.slice (some a) len cap] := by
  intro ν h hr ro
  generalize hEq : P.cellsOf e = E at *
  let xs : Nat → List Value := fun i => (W.cells? 0 (a.add (i * E)) E).getD []
  have hxs : ∀ i, i < cap → W.cells? 0 (a.add (i * E)) E = some (xs i) := fun i hi => by
    obtain ⟨y, hy⟩ := hall i hi
    simp [xs, hy]
  obtain ⟨ν₁, h₁, out, b1, b2, b3, b4, b5, b6⟩ := abs_list (P := P) (W := W) (n := m) ((List.range len).map fun i => (e, xs i)) (by
    intro j hj
    obtain ⟨i, hi, rfl⟩ := List.mem_map.1 hj
    have hi' := List.mem_range.1 hi
    exact habs i (xs i) hi' (hxs i (by omega))) ν h hr ro
  simp only [List.length_map, List.length_range] at b5
  have job : ∀ i, i < len → ((List.range len).map fun i => (e, xs i))[i]? = some (e, xs i) := fun i hi => by simp [hi]
  have hv : VRs ν₁ out.flatten ((List.range len).map xs).flatten := by
    refine VRs.flatten (by simp [b5]) fun i x y hx hy => ?_
    have hi : i < len := by
      rcases Nat.lt_or_ge i len with h | h
      · exact h
      · rw [List.getElem?_eq_none (by rw [b5]; exact h)] at hx; cases hx
    have hy' : y = xs i := by simpa [hi] using hy.symm
    subst hy'
    exact (b6 i _ x (job i hi) hx).1
  have hlens : ∀ c ∈ out, c.length = E ∧ LRd P h₁ m e c := by
    intro c hc
    obtain ⟨i, hi, rfl⟩ := List.getElem_of_mem hc
    have hi' : i < len := by omega
    obtain ⟨k1, k2⟩ := b6 i _ out[i] (job i hi') (by simp [hi])
    exact ⟨by rw [k1.1]; exact (cells_get (hxs i (by omega))).1, k2⟩
  rcases Nat.eq_zero_or_pos cap with h0 | h0
  · subst h0
    obtain rfl : len = 0 := by omega
    have hout : out = [] := List.length_eq_zero_iff.1 b5
    subst hout
    obtain ⟨c1, c2⟩ := push_none b3 b4 (.cells [] false false)
    refine ⟨ν₁, h₁.push (.cells [] false false), [.slice (some ⟨h₁.size, 0, none⟩) 0 E], b1, b2.pushed _, c1, c2, .cons .sempty (.nil _), ?_⟩
    unfold LRd
    rw [hu]
    exact ⟨hEq.symm, by simp, [], by simp, rfl, Nat.zero_le _, fun c hc => by cases hc⟩
  · obtain ⟨v0, _, hv0⟩ := (cells_get (hxs 0 h0)).2 0 (Nat.pos_of_ne_zero hE)
    simp only [Nat.zero_mul, Addr.add, if_true] at hv0
    obtain ⟨ab, ao, asp⟩ := a
    have hspot : asp = none := by
      unfold World.cell? at hv0
      split at hv0
      · split at hv0
        · cases hv0
        · rename_i hs; simpa using hs
      · cases hv0
    subst hspot
    obtain ⟨f1, f2⟩ := flat_cells (E := E) xs (fun j => W.cell? ⟨ab, ao + j, none⟩) len fun i hi => by
      obtain ⟨g1, g2⟩ := cells_get (hxs i (by omega))
      exact ⟨g1, fun k hk => by
        obtain ⟨v, g3, g4⟩ := g2 k hk
        rw [add_none, add_none, Nat.add_assoc] at g4
        exact ⟨v, g3, g4⟩⟩
    obtain ⟨v, _, hv2⟩ := (cells_get (hxs (cap - 1) (by omega))).2 (E - 1) (by omega)
    have hj : (cap - 1) * E + (E - 1) = cap * E - 1 := by
      have : cap * E = (cap - 1) * E + E := by
        conv => lhs; rw [show cap = (cap - 1) + 1 by omega]
        rw [Nat.add_mul, Nat.one_mul]
      omega
    have hpos : 0 < cap * E := Nat.mul_pos h0 (Nat.pos_of_ne_zero hE)
    rw [add_none, add_none, Nat.add_assoc, hj] at hv2
    unfold World.cell? at hv2
    split at hv2
    · rename_i c ce fz hB
      simp only [Option.isSome_none, Bool.false_eq_true, if_false] at hv2
      have hsz : ao + cap * E ≤ c.size := by
        have := (Array.getElem?_eq_some_iff.1 hv2).1
        omega
      have hle : len * E ≤ cap * E := Nat.mul_le_mul_right E hlc
      obtain ⟨ν₂, d1, d2, d3, d4, d5⟩ := push_ro b3 b4 (B := ab) (base := ao) (ls := out.flatten) hB (by rw [hv.1, f1]; omega) (by
        intro i u hi
        have hi' : i < len * E := by
          rw [← f1, ← hv.1]
          exact (List.getElem?_eq_some_iff.1 hi).1
        obtain ⟨u', k1, k2⟩ := f2 i hi'
        refine ⟨u', ?_, hv.2 i u u' hi k1⟩
        simp only [World.cell?] at k2
        have hB' : W.heap[ab]? = some (.cells c ce fz) := hB
        rw [hB'] at k2
        simpa using k2)
      refine ⟨ν₂, _, [.slice (some ⟨h₁.size, 0, none⟩) len E], Inj.le_trans b1 d1, b2.trans d2, d3, d4, .cons ?_ (.nil _), ?_⟩
      · have := VR.slice (ν := ν₂) (o := 0) (n := len) (E := E) (cap := cap) d5 hlc (by simpa using hsz)
        simpa using this
      · unfold LRd
        rw [hu]
        exact ⟨hEq.symm, by simp, out, by simp, b5, by omega, fun c hc => ⟨(hlens c hc).1, (hlens c hc).2.mono d2⟩⟩
    · cases hv2

section
variable {H : Type} {enc : TypeId × Value → H} {W : World} {spare : Nat → Bool} {held : Bool}

theorem abs_of_trod (hsp : ∀ b, spare b = true) : ∀ (m : Nat) (t : TypeId), simpleT P m t = true → ∀ (fuel : Nat) (cs : List Value) (x : DataW H × List MemPlace), DataW.trod enc P W 0 spare held fuel t cs = some x → Abs P W m t cs
  | 0, t, hs => by simp [simpleT] at hs
  | m + 1, t, hs => by
    intro fuel cs x hx
    cases fuel with
    | zero => simp [DataW.trod] at hx
    | succ fuel =>
      have IH := abs_of_trod hsp m
      unfold simpleT at hs
      have plain1 : ∀ v : Value, cs = [v] → plain v = true → (∀ h, LRd P h (m + 1) t [v]) → Abs P W (m + 1) t cs := by
        rintro v rfl hp hl ν h hr ro
        exact ⟨ν, h, [v], Inj.le_refl ν, Ext.refl h, hr, ro, .cons (plain_VR ν v hp) (.nil ν), hl h⟩
      split at hs
      · rename_i hu
        obtain ⟨b, rfl, _⟩ := DataW.trod_bool hu hx
        exact plain1 _ rfl rfl fun h => by unfold LRd; rw [hu]; trivial
      · rename_i k hu
        obtain ⟨n, rfl, _, hw⟩ := DataW.trod_int hu hx
        exact plain1 _ rfl rfl fun h => by unfold LRd; rw [hu]; exact ⟨rfl, hw⟩
      · rename_i hu
        obtain ⟨s, rfl, _, hl⟩ := DataW.trod_string hu hx
        exact plain1 _ rfl rfl fun h => by unfold LRd; rw [hu]; exact hl
      · rename_i e hu
        simp only [Bool.and_eq_true, bne_iff_ne, ne_eq] at hs
        rcases DataW.trod_slice hu hx with ⟨rfl, _⟩ | ⟨a, len, cap, elems, rest, n, hn, rfl, _, _, hlc, hcap, hel, h1, h2, _⟩
        · exact plain1 _ rfl rfl fun h => by unfold LRd; rw [hu]; trivial
        · obtain ⟨h3, h4⟩ := h2 (hsp _)
          have cell : ∀ i, i < cap → ∃ xs y, W.cells? 0 (a.add (i * P.cellsOf e)) (P.cellsOf e) = some xs ∧ DataW.trod enc P W 0 spare held n e xs = some y := by
            intro i hi
            have : ∃ y, (W.cells? 0 (a.add (i * P.cellsOf e)) (P.cellsOf e)).bind (DataW.trod enc P W 0 spare held n e) = some y := by
              rcases Nat.lt_or_ge i len with hlt | hge
              · rw [h1 i hlt]
                exact ⟨elems[i]'(by omega), by simp⟩
              · have := h4 (i - len) (by omega)
                rw [show len + (i - len) = i by omega] at this
                rw [this]
                exact ⟨rest[i - len]'(by omega), by simp⟩
            obtain ⟨y, hy⟩ := this
            obtain ⟨xs, g1, g2⟩ := Option.bind_eq_some_iff.1 hy
            exact ⟨xs, y, g1, g2⟩
          refine abs_slice hu hs.1 hlc hcap (fun i hi => let ⟨xs, _, g, _⟩ := cell i hi; ⟨xs, g⟩) ?_
          intro i xs hi hxs
          obtain ⟨xs', y, g1, g2⟩ := cell i (by omega)
          rw [hxs] at g1
          cases g1
          exact IH e hs.2 n xs y g2
      · rename_i fs hu
        simp only [Bool.and_eq_true, beq_iff_eq, List.all_eq_true] at hs
        obtain ⟨xs, n, hn, _, hlen, hxs, hf⟩ := DataW.trod_struct hu hx
        intro ν h hr ro
        rw [← hlen] at hs
        obtain ⟨ν', h', out, b1, b2, b3, b4, b5, b6⟩ := abs_list (P := P) (W := W) (n := m) (fs.toList.map fun f => (f.type, (cs.drop f.offset).take (P.cellsOf f.type))) (by
          intro j hj
          obtain ⟨f, hfm, rfl⟩ := List.mem_map.1 hj
          obtain ⟨i, hi, rfl⟩ := List.getElem_of_mem hfm
          have hi' : i < fs.size := by simpa using hi
          have := hf i fs[i] (by simp [hi'])
          have hxi : i < xs.length := by omega
          rw [List.getElem?_eq_getElem hxi] at this
          simp only [Array.getElem_toList]
          exact IH _ (hs.2 _ (by simp)) n _ _ this) ν h hr ro
        have hv : VRs ν' out.flatten (fs.toList.map fun f => (cs.drop f.offset).take (P.cellsOf f.type)).flatten := by
          refine VRs.flatten (by simpa using b5) fun i x y hx hy => ?_
          rw [List.getElem?_map, Option.map_eq_some_iff] at hy
          obtain ⟨f, hf1, rfl⟩ := hy
          exact (b6 i (f.type, _) x (by rw [List.getElem?_map, hf1]; rfl) hx).1
        rw [chunks_fields fs.toList 0 hs.1, List.drop_zero] at hv
        refine ⟨ν', h', out.flatten, b1, b2, b3, b4, hv, ?_⟩
        unfold LRd
        rw [hu]
        refine ⟨out, rfl, by simpa using b5, fun i f p hfi hp => ?_⟩
        have hj : (fs.toList.map fun f => (f.type, (cs.drop f.offset).take (P.cellsOf f.type)))[i]? = some (f.type, (cs.drop f.offset).take (P.cellsOf f.type)) := by
          rw [List.getElem?_map, Array.getElem?_toList, hfi]; rfl
        obtain ⟨k1, k2⟩ := b6 i _ p hj hp
        refine ⟨?_, k2⟩
        rw [k1.1]
        have hle := (contig_le fs.toList 0 hs.1).2 f (by rw [← Array.getElem?_toList] at hfi; exact List.mem_of_getElem? hfi)
        simp only [List.length_take, List.length_drop]
        omega
      · rename_i k e hu
        simp only [Bool.and_eq_true, beq_iff_eq] at hs
        obtain ⟨xs, n, hn, _, hlen, hxs, hf⟩ := DataW.trod_array hu hx
        intro ν h hr ro
        rw [← hlen] at hs
        obtain ⟨ν', h', out, b1, b2, b3, b4, b5, b6⟩ := abs_list (P := P) (W := W) (n := m) ((List.range k).map fun i => (e, (cs.drop (i * P.cellsOf e)).take (P.cellsOf e))) (by
          intro j hj
          obtain ⟨i, hi, rfl⟩ := List.mem_map.1 hj
          have hi' := List.mem_range.1 hi
          have := hf i hi'
          rw [List.getElem?_eq_getElem (by omega)] at this
          exact IH _ hs.2 n _ _ this) ν h hr ro
        have hv : VRs ν' out.flatten ((List.range k).map fun i => (cs.drop (i * P.cellsOf e)).take (P.cellsOf e)).flatten := by
          refine VRs.flatten (by simpa using b5) fun i x y hx hy => ?_
          rw [List.getElem?_map, Option.map_eq_some_iff] at hy
          obtain ⟨f, hf1, rfl⟩ := hy
          exact (b6 i (e, _) x (by rw [List.getElem?_map, hf1]; rfl) hx).1
        rw [chunks_array (P.cellsOf e) k (by omega), hs.1, List.take_length] at hv
        refine ⟨ν', h', out.flatten, b1, b2, b3, b4, hv, ?_⟩
        unfold LRd
        rw [hu]
        refine ⟨out, rfl, by simpa using b5, fun p hp => ?_⟩
        obtain ⟨i, hi, rfl⟩ := List.getElem_of_mem hp
        have hi' : i < k := by simp at b5; omega
        obtain ⟨k1, k2⟩ := b6 i (e, (cs.drop (i * P.cellsOf e)).take (P.cellsOf e)) out[i] (by simp [hi']) (by simp [hi])
        refine ⟨?_, k2⟩
        rw [k1.1]
        have : i * P.cellsOf e + P.cellsOf e ≤ cs.length := by
          rw [← hs.1, ← Nat.succ_mul]
          exact Nat.mul_le_mul_right _ hi'
        simp only [List.length_take, List.length_drop]
        omega
      · cases hs
end

end Go.E1
