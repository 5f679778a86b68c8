/-
  What becomes of the two heaps' relation when something is made, written, or appended to.
-/
import Derived.Test.YtmopgljjpmepnaaE1Comp
namespace Go.E1
open Go

/-! ### Worlds -/

/-- Block 'B' becomes 'o'. -/
def wput (w : World) (B : Nat) (o : Obj) : World := { w with heap := w.heap.setIfInBounds B o }

theorem wput_same {w : World} {B : Nat} {o : Obj} (h : B < w.heap.size) : (wput w B o).heap[B]? = some o := by simp [wput, h]
theorem wput_other {w : World} {B k : Nat} {o : Obj} (h : k ≠ B) : (wput w B o).heap[k]? = w.heap[k]? := by
  simp [wput, Ne.symm h]

theorem cell?_of_heap {w : World} {B k : Nat} {c : Array Value} {e : TypeId} {fz : Nat × Nat} (h : w.heap[B]? = some (.cells c e fz)) : w.cell? ⟨B, k, none⟩ = c[k]? := by
  simp [World.cell?, h]

theorem frozen?_of_heap {w : World} {B k : Nat} {c : Array Value} {e : TypeId} {fz : Nat × Nat} (h : w.heap[B]? = some (.cells c e fz)) (hf : ¬ (fz.1 ≤ k ∧ k < fz.2)) : w.frozen? ⟨B, k, none⟩ = false := by
  obtain ⟨lo, hi⟩ := fz
  simp only [World.frozen?, h]
  simp at hf ⊢
  intro h1
  exact hf h1

theorem add_plain (B k i : Nat) : (⟨B, k, none⟩ : Addr).add i = ⟨B, k + i, none⟩ := by unfold Addr.add; split <;> simp_all

/-- The cells from 'k' on become these. -/
def aput (c : Array Value) (k : Nat) (vs : List Value) : Array Value := (splice c.toList k vs).toArray

theorem splice_nil (cs : List Value) (o : Nat) : splice cs o [] = cs := by simp [splice]
theorem splice_cons (cs : List Value) (o : Nat) (v : Value) (vs : List Value) (h : o < cs.length) : splice (cs.set o v) (o + 1) vs = splice cs o (v :: vs) := by
  simp only [splice, List.length_cons]
  rw [List.drop_set_of_lt (by omega), show o + 1 + vs.length = o + (vs.length + 1) by omega]
  have h1 : (cs.set o v).take (o + 1) = cs.take o ++ [v] := by
    apply List.ext_getElem?
    intro i
    rw [List.getElem?_take, List.getElem?_append]
    simp only [List.length_take, Nat.min_eq_left (Nat.le_of_lt h), List.getElem?_set, List.getElem?_take]
    by_cases h1 : i < o
    · have : ¬ o = i := by omega
      simp [h1, this, show i < o + 1 by omega]
    · by_cases h2 : i = o
      · subst h2; simp [h]
      · have : ¬ i < o + 1 := by omega
        simp only [this, h1, if_false]
        rw [List.getElem?_eq_none (by simp; omega)]
  rw [h1]
  simp
theorem length_splice (cs : List Value) (o : Nat) (vs : List Value) (h : o + vs.length ≤ cs.length) : (splice cs o vs).length = cs.length := by
  simp [splice]; omega
theorem getElem?_splice (cs : List Value) (o : Nat) (vs : List Value) (h : o + vs.length ≤ cs.length) (i : Nat) :
    (splice cs o vs)[i]? = if i < o then cs[i]? else if i < o + vs.length then vs[i - o]? else cs[i]? := by
  simp only [splice]
  rw [List.getElem?_append, List.getElem?_append]
  simp only [List.length_append, List.length_take, Nat.min_eq_left (show o ≤ cs.length by omega)]
  by_cases h1 : i < o
  · have : i < o + vs.length := by omega
    simp [h1, this]
  · by_cases h2 : i < o + vs.length
    · simp [h1, h2]
    · simp only [h1, h2, if_false, List.getElem?_drop]
      congr 1
      omega

theorem setCells_heap : ∀ (vs : List Value) (w : World) (B k : Nat) (c : Array Value) (e : TypeId) (fz : Nat × Nat), w.heap[B]? = some (.cells c e fz) → k + vs.length ≤ c.size →
    w.setCells B k vs = wput w B (.cells (aput c k vs) e fz)
  | [], w, B, k, c, e, fz, h, _ => by
    simp only [World.setCells, aput, splice_nil, wput]
    have hb : B < w.heap.size := by
      rcases Nat.lt_or_ge B w.heap.size with h' | h'
      · exact h'
      · simp [Array.getElem?_eq_none h'] at h
    have : w.heap.setIfInBounds B (.cells c.toList.toArray e fz) = w.heap := by
      apply Array.ext_getElem?
      intro i
      simp only [Array.getElem?_setIfInBounds]
      split
      · rename_i e'; subst e'; simp [hb] at h ⊢; simpa using h.symm
      · rfl
    rw [this]
  | v :: vs, w, B, k, c, e, fz, h, hl => by
    have hb : B < w.heap.size := by
      rcases Nat.lt_or_ge B w.heap.size with h' | h'
      · exact h'
      · simp [Array.getElem?_eq_none h'] at h
    have hk : k < c.size := by simp at hl; omega
    have h1 : w.setCell ⟨B, k, none⟩ v = wput w B (.cells (c.setIfInBounds k v) e fz) := by
      simp only [World.setCell, wput]
      congr 1
      apply Array.ext_getElem?
      intro i
      simp only [Array.getElem?_modify, Array.getElem?_setIfInBounds]
      by_cases hi : B = i
      · subst hi; simp [hb] at h ⊢; simp [h]
      · simp [hi]
    simp only [World.setCells, h1]
    rw [setCells_heap vs (wput w B (.cells (c.setIfInBounds k v) e fz)) B (k + 1) (c.setIfInBounds k v) e fz (wput_same hb) (by simp at hl ⊢; omega)]
    simp only [wput, aput]
    have h2 : (c.setIfInBounds k v).toList = c.toList.set k v := by simp
    rw [h2, splice_cons _ _ _ _ (by simpa using hk)]
    congr 1
    apply Array.ext_getElem?
    intro i
    simp only [Array.getElem?_setIfInBounds]
    split <;> simp_all

/-! ### Making -/

def Inj.put (ν : Inj) (b : Nat) (pl : Place) : Inj := fun c => if c = b then some pl else ν c
theorem Inj.put_same (ν : Inj) (b : Nat) (pl : Place) : ν.put b pl b = some pl := by simp [Inj.put]
theorem Inj.le_put {ν : Inj} {b : Nat} {pl : Place} (h : ν b = none) : ν.le (ν.put b pl) := fun c ql hc => by
  by_cases e : c = b
  · subst e; rw [h] at hc; cases hc
  · simpa [Inj.put, e] using hc

theorem HR.fresh {ν : Inj} {h : LHeap} {w : World} (hr : HR ν h w) : ν h.size = none := by
  cases e : ν h.size with
  | none => rfl
  | some pl => exact absurd (hr.dom _ _ e) (Nat.lt_irrefl _)

theorem ObjR.mono {ν ν' : Inj} (hle : Inj.le ν ν') {o : Option LObj} {pl : Place} {w w' : World} (hh : w'.heap[pl.B]? = w.heap[pl.B]?) (h : ObjR ν o pl w) : ObjR ν' o pl w' := by
  unfold ObjR at *
  split at h
  · obtain ⟨c, e, fz, h1, h2, h3, h4, h5, h6⟩ := h
    exact ⟨c, e, fz, hh ▸ h1, h2, h3, h4, fun i v hi => let ⟨v', a, b⟩ := h5 i v hi; ⟨v', a, b.mono hle⟩, h6⟩
  · obtain ⟨ents, clock, h1, h2, h3⟩ := h
    exact ⟨ents, clock, hh ▸ h1, h2, fun i e e' a b => let ⟨x, y⟩ := h3 i e e' a b; ⟨x.mono hle, y.mono hle⟩⟩
  · trivial

theorem alloc_get {w : World} {o : Obj} (k : Nat) (h : k < w.heap.size) : (w.alloc o).heap[k]? = w.heap[k]? := RowKit.Below.heap_alloc w o k h
theorem alloc_size {w : World} {o : Obj} : (w.alloc o).heap.size = w.heap.size + 1 := by
  show (w.heap.push o).size = _
  simp
theorem alloc_new {w : World} {o : Obj} : (w.alloc o).heap[w.heap.size]? = some o := by
  show (w.heap.push o)[w.heap.size]? = _
  simp

/-- A new block. 'cs'': the real cells, of which the first ones are the logical ones. -/
theorem HR.alloc {ν : Inj} {h : LHeap} {w : World} (hr : HR ν h w) (cs : List Value) (cs' : Array Value) (t : TypeId) (fz : Nat × Nat) (hlen : cs.length ≤ cs'.size)
    (hv : ∀ (i : Nat) v, cs[i]? = some v → ∃ v', cs'[i]? = some v' ∧ VR ν v v') (hfz : ∀ k, k < cs'.size → ¬ (fz.1 ≤ k ∧ k < fz.2)) :
    HR (ν.put h.size ⟨w.heap.size, 0, cs'.size⟩) (h.push (.cells cs true true)) (w.alloc (.cells cs' t fz)) ∧
    Step ν h w (ν.put h.size ⟨w.heap.size, 0, cs'.size⟩) (h.push (.cells cs true true)) (w.alloc (.cells cs' t fz)) := by
  have hle := Inj.le_put (pl := ⟨w.heap.size, 0, cs'.size⟩) hr.fresh
  have old : ∀ b pl, (ν.put h.size ⟨w.heap.size, 0, cs'.size⟩) b = some pl → b ≠ h.size → ν b = some pl := fun b pl hb hne => by simpa [Inj.put, hne] using hb
  have new : ∀ pl, (ν.put h.size ⟨w.heap.size, 0, cs'.size⟩) h.size = some pl → pl = ⟨w.heap.size, 0, cs'.size⟩ := fun pl hb => by rw [Inj.put_same] at hb; exact (Option.some.inj hb).symm
  refine ⟨⟨?_, ?_, ?_, ?_⟩, ⟨hle, rfl, rfl, rfl, by rw [alloc_size]; omega, by simp, ?_, ?_⟩⟩
  · intro b pl hb
    by_cases e : b = h.size
    · simp [e]
    · have := hr.dom b pl (old b pl hb e); simp; omega
  · intro b pl hb
    by_cases e : b = h.size
    · subst e
      have := new pl hb; subst this
      simp only [LHeap.get_push, if_pos]
      exact ⟨cs', t, fz, alloc_new, rfl, by simpa using hlen, fun _ => rfl, fun i v hi => let ⟨v', a, b⟩ := hv i v hi; ⟨v', by simpa using a, b.mono hle⟩, fun _ k hk => hfz k hk⟩
    · have hb' := old b pl hb e
      simp only [LHeap.get_push, e, if_false]
      exact (hr.obj b pl hb').mono hle (alloc_get _ (hr.real b pl hb'))
  · intro b c pl ql hb hc hne hB
    by_cases e : b = h.size
    · subst e
      have := new pl hb; subst this
      have := hr.real c ql (old c ql hc (Ne.symm hne))
      simp at hB; omega
    · by_cases e' : c = h.size
      · subst e'
        have := new ql hc; subst this
        have := hr.real b pl (old b pl hb e)
        simp at hB; omega
      · simp only [LHeap.get_push, e, e', if_false]
        exact hr.sep b c pl ql (old b pl hb e) (old c ql hc e') hne hB
  · intro b pl hb
    by_cases e : b = h.size
    · subst e
      have := new pl hb; subst this
      rw [alloc_size]; simp
    · have := hr.real b pl (old b pl hb e); rw [alloc_size]; omega
  · intro B hB _
    exact alloc_get B hB
  · intro b pl hb hw hlt
    by_cases e : b = h.size
    · subst e
      have := new pl hb; subst this
      simp at hlt
    · simp only [LHeap.get_push, e, if_false] at hw
      exact ⟨b, pl, old b pl hb e, rfl, hw⟩

/-- A new map. -/
theorem HR.allocMap {ν : Inj} {h : LHeap} {w : World} (hr : HR ν h w) (fin : Nat) :
    HR (ν.put h.size ⟨w.heap.size, 0, fin⟩) (h.push (.map [])) (w.alloc (.map #[] 0)) ∧
    Step ν h w (ν.put h.size ⟨w.heap.size, 0, fin⟩) (h.push (.map [])) (w.alloc (.map #[] 0)) := by
  have hle := Inj.le_put (pl := ⟨w.heap.size, 0, fin⟩) hr.fresh
  have old : ∀ b pl, (ν.put h.size ⟨w.heap.size, 0, fin⟩) b = some pl → b ≠ h.size → ν b = some pl := fun b pl hb hne => by simpa [Inj.put, hne] using hb
  have new : ∀ pl, (ν.put h.size ⟨w.heap.size, 0, fin⟩) h.size = some pl → pl = ⟨w.heap.size, 0, fin⟩ := fun pl hb => by rw [Inj.put_same] at hb; exact (Option.some.inj hb).symm
  refine ⟨⟨?_, ?_, ?_, ?_⟩, ⟨hle, rfl, rfl, rfl, by rw [alloc_size]; omega, by simp, ?_, ?_⟩⟩
  · intro b pl hb
    by_cases e : b = h.size
    · simp [e]
    · have := hr.dom b pl (old b pl hb e); simp; omega
  · intro b pl hb
    by_cases e : b = h.size
    · subst e
      have := new pl hb; subst this
      simp only [LHeap.get_push, if_pos]
      exact ⟨#[], 0, alloc_new, rfl, fun i e e' h => by simp at h⟩
    · have hb' := old b pl hb e
      simp only [LHeap.get_push, e, if_false]
      exact (hr.obj b pl hb').mono hle (alloc_get _ (hr.real b pl hb'))
  · intro b c pl ql hb hc hne hB
    by_cases e : b = h.size
    · subst e
      have := new pl hb; subst this
      have := hr.real c ql (old c ql hc (Ne.symm hne))
      simp at hB; omega
    · by_cases e' : c = h.size
      · subst e'
        have := new ql hc; subst this
        have := hr.real b pl (old b pl hb e)
        simp at hB; omega
      · simp only [LHeap.get_push, e, e', if_false]
        exact hr.sep b c pl ql (old b pl hb e) (old c ql hc e') hne hB
  · intro b pl hb
    by_cases e : b = h.size
    · subst e
      have := new pl hb; subst this
      rw [alloc_size]; simp
    · have := hr.real b pl (old b pl hb e); rw [alloc_size]; omega
  · intro B hB _
    exact alloc_get B hB
  · intro b pl hb hw hlt
    by_cases e : b = h.size
    · subst e
      have := new pl hb; subst this
      simp at hlt
    · simp only [LHeap.get_push, e, if_false] at hw
      exact ⟨b, pl, old b pl hb e, rfl, hw⟩

/-! ### Reading -/

theorem HR.cells {ν : Inj} {h : LHeap} {w : World} (hr : HR ν h w) {b : Nat} {pl : Place} {cs : List Value} {tip rw : Bool} (hb : ν b = some pl) (hg : h.get b = some (.cells cs tip rw)) :
    ∃ c e fz, w.heap[pl.B]? = some (.cells c e fz) ∧ c.size = pl.fin ∧ pl.base + cs.length ≤ pl.fin ∧ (tip = true → rw = true) ∧
      (∀ (i : Nat) v, cs[i]? = some v → ∃ v', c[pl.base + i]? = some v' ∧ VR ν v v') ∧ (rw = true → ∀ k, k < pl.fin → ¬ (fz.1 ≤ k ∧ k < fz.2)) := by
  have := hr.obj b pl hb
  rw [hg] at this
  exact this

theorem HR.load1 {ν : Inj} {h : LHeap} {w : World} (hr : HR ν h w) {b o : Nat} {v : Value} (hl : h.load1 b o = some v) {pl : Place} (hb : ν b = some pl) :
    ∃ v', w.cell? ⟨pl.B, pl.base + o, none⟩ = some v' ∧ VR ν v v' := by
  unfold LHeap.load1 at hl
  split at hl
  · rename_i cs tip rw hg
    obtain ⟨c, e, fz, h1, _, _, _, h5, _⟩ := hr.cells hb hg
    obtain ⟨v', a, b⟩ := h5 o v hl
    exact ⟨v', by rw [cell?_of_heap h1]; exact a, b⟩
  · cases hl

/-- The real cells that a run of logical ones stands for. -/
theorem HR.loadCells {ν : Inj} {h : LHeap} {w : World} (hr : HR ν h w) {b o n : Nat} {vs : List Value} (hl : h.loadCells b o n = some vs) {pl : Place} (hb : ν b = some pl) :
    vs.length = n ∧ ∃ vs', VRs ν vs vs' ∧ ∀ (j : Nat) v, vs'[j]? = some v → w.cell? ⟨pl.B, pl.base + o + j, none⟩ = some v := by
  unfold LHeap.loadCells at hl
  split at hl
  · rename_i cs tip rw hg
    split at hl
    · rename_i hle
      simp only [Option.some.injEq] at hl
      subst hl
      obtain ⟨c, e, fz, h1, h2, h3, _, h5, _⟩ := hr.cells hb hg
      refine ⟨by simp; omega, (c.toList.drop (pl.base + o)).take n, ⟨by simp; omega, ?_⟩, ?_⟩
      · intro i v v' hv hv'
        simp only [List.getElem?_take, List.getElem?_drop] at hv hv'
        split at hv
        · rename_i hi
          simp only [hi, if_true] at hv'
          obtain ⟨u, hu, hvr⟩ := h5 (o + i) v hv
          have : c.toList[pl.base + o + i]? = some u := by simpa [Nat.add_assoc] using hu
          rw [this] at hv'
          cases hv'
          exact hvr
        · cases hv
      · intro j v hj
        simp only [List.getElem?_take, List.getElem?_drop] at hj
        split at hj
        · rw [cell?_of_heap h1]; simpa using hj
        · cases hj
    · cases hl
  · cases hl

/-! ### Writing -/

theorem writable_sep {ν : Inj} {h : LHeap} {w : World} (hr : HR ν h w) {b c : Nat} {pl ql : Place} {cs : List Value} {tip : Bool} (hb : ν b = some pl) (hg : h.get b = some (.cells cs tip true))
    (hc : ν c = some ql) (hne : b ≠ c) (hB : pl.B = ql.B) {ds : List Value} {t r : Bool} (hgc : h.get c = some (.cells ds t r)) (k : Nat)
    (h1 : pl.base ≤ k) (h2 : k < pl.base + cs.length) (h3 : ql.base ≤ k) (h4 : k < ql.base + ds.length) : False := by
  have hs := hr.sep b c pl ql hb hc hne hB
  rw [hg, hgc] at hs
  obtain ⟨_, _, _, _, _, b3, _, _, _⟩ := hr.cells hb hg
  obtain ⟨_, _, _, _, _, c3, _, _, _⟩ := hr.cells hc hgc
  refine hs (.inl rfl) k h1 ?_ h3 ?_
  · simp only [LObj.ext]; split <;> omega
  · simp only [LObj.ext]; split <;> omega

/-- Cells of a block that may be written become others. -/
theorem HR.write {ν : Inj} {h : LHeap} {w : World} (hr : HR ν h w) {b o : Nat} {pl : Place} {cs : List Value} {tip : Bool} (hb : ν b = some pl) (hg : h.get b = some (.cells cs tip true))
    {vs vs' : List Value} (ho : o + vs.length ≤ cs.length) (hv : VRs ν vs vs') :
    HR ν (h.set b (.cells (splice cs o vs) tip true)) (w.setCells pl.B (pl.base + o) vs') ∧ Step ν h w ν (h.set b (.cells (splice cs o vs) tip true)) (w.setCells pl.B (pl.base + o) vs') := by
  obtain ⟨c, e, fz, h1, h2, h3, h4, h5, h6⟩ := hr.cells hb hg
  have hvl := hv.1
  have hreal := hr.real b pl hb
  have hw := setCells_heap vs' w pl.B (pl.base + o) c e fz h1 (by omega)
  have hsz : (aput c (pl.base + o) vs').size = c.size := by
    simp only [aput, List.size_toArray]
    rw [length_splice _ _ _ (by simp; omega)]
    simp
  have hget : ∀ (i : Nat), (aput c (pl.base + o) vs')[i]? = if i < pl.base + o then c[i]? else if i < pl.base + o + vs'.length then vs'[i - (pl.base + o)]? else c[i]? := by
    intro i
    simp only [aput, List.getElem?_toArray]
    rw [getElem?_splice _ _ _ (by simp; omega)]
    simp
  rw [hw]
  have hlen : (splice cs o vs).length = cs.length := length_splice _ _ _ ho
  refine ⟨⟨hr.dom, ?_, ?_, ?_⟩, ⟨Inj.le_refl ν, rfl, rfl, rfl, by simp [wput], by simp, ?_, ?_⟩⟩
  · intro x ql hx
    by_cases ex : x = b
    · subst ex
      rw [hb] at hx
      cases hx
      simp only [LHeap.get_set, if_pos]
      refine ⟨aput c (pl.base + o) vs', e, fz, wput_same hreal, by rw [hsz, h2], by rw [hlen]; exact h3, fun _ => rfl, ?_, h6⟩
      intro i v hi
      rw [getElem?_splice _ _ _ ho] at hi
      rw [hget]
      split at hi
      · rename_i hlt
        rw [if_pos (by omega)]
        exact h5 i v hi
      · rename_i hlt
        split at hi
        · rename_i hlt2
          rw [if_neg (by omega), if_pos (by omega)]
          obtain ⟨v', a, b⟩ := hv.get hi
          exact ⟨v', by rw [show pl.base + i - (pl.base + o) = i - o by omega]; exact a, b⟩
        · rename_i hlt2
          rw [if_neg (by omega), if_neg (by omega)]
          exact h5 i v hi
    · simp only [LHeap.get_set, ex, if_false]
      by_cases hB : ql.B = pl.B
      · have hox := hr.obj x ql hx
        cases hgx : h.get x with
        | none => trivial
        | some ox =>
          rw [hgx] at hox
          cases ox with
          | dead => trivial
          | map es => obtain ⟨ents, clock, k1, _⟩ := hox; rw [hB, h1] at k1; cases k1
          | cells ds t r =>
            obtain ⟨c', e', fz', k1, k2, k3, k4, k5, k6⟩ := hox
            rw [hB, h1] at k1
            cases k1
            refine ⟨aput c (pl.base + o) vs', e, fz, by rw [hB]; exact wput_same hreal, by rw [hsz, k2], k3, k4, ?_, k6⟩
            intro i v hi
            have hil : i < ds.length := by
              rcases Nat.lt_or_ge i ds.length with q | q
              · exact q
              · simp [List.getElem?_eq_none q] at hi
            rw [hget]
            by_cases hin : ql.base + i < pl.base + o
            · rw [if_pos hin]; exact k5 i v hi
            · by_cases hin2 : ql.base + i < pl.base + o + vs'.length
              · exact (writable_sep hr hb hg hx (Ne.symm ex) hB.symm hgx (ql.base + i) (by omega) (by omega) (by omega) (by omega)).elim
              · rw [if_neg hin, if_neg hin2]; exact k5 i v hi
      · exact (hr.obj x ql hx).mono (Inj.le_refl ν) (wput_other hB)
  · intro x y pl' ql' hx hy hne hB
    have hs := hr.sep x y pl' ql' hx hy hne hB
    by_cases ex : x = b
    · subst ex
      have ey : y ≠ x := Ne.symm hne
      simp only [LHeap.get_set, if_pos, ey, if_false]
      rw [hg] at hs
      cases hgy : h.get y with
      | none => trivial
      | some oy =>
        rw [hgy] at hs
        cases oy with
        | dead => trivial
        | map es => trivial
        | cells ds t r => simpa [Apart, LObj.ext, hlen] using hs
    · by_cases ey : y = b
      · subst ey
        simp only [LHeap.get_set, if_pos, ex, if_false]
        rw [hg] at hs
        cases hgx : h.get x with
        | none => trivial
        | some ox =>
          rw [hgx] at hs
          cases ox with
          | dead => trivial
          | map es => trivial
          | cells ds t r => simpa [Apart, LObj.ext, hlen] using hs
      · simp only [LHeap.get_set, ex, ey, if_false]
        exact hs
  · intro x ql hx
    have := hr.real x ql hx
    simpa [wput] using this
  · intro B hB hno
    by_cases eB : B = pl.B
    · have := hno b pl hb eB.symm
      rw [hg] at this
      simp [LObj.writable] at this
    · exact wput_other eB
  · intro x ql hx hwr _
    by_cases ex : x = b
    · subst ex; exact ⟨x, ql, hx, rfl, by rw [hg]; rfl⟩
    · simp only [LHeap.get_set, ex, if_false] at hwr
      exact ⟨x, ql, hx, rfl, hwr⟩

theorem HR.storeCells {ν : Inj} {h h' : LHeap} {w : World} (hr : HR ν h w) {b o : Nat} {pl : Place} (hb : ν b = some pl) {vs vs' : List Value} (hs : h.storeCells b o vs = some h') (hv : VRs ν vs vs') (P : Program) :
    (Go.storeCells ⟨pl.B, pl.base + o, none⟩ vs').run P w = .ok () (w.setCells pl.B (pl.base + o) vs') ∧ HR ν h' (w.setCells pl.B (pl.base + o) vs') ∧ Step ν h w ν h' (w.setCells pl.B (pl.base + o) vs') := by
  unfold LHeap.storeCells at hs
  split at hs
  · rename_i cs tip hg
    split at hs
    · rename_i hc
      obtain ⟨hle, hone⟩ := hc
      cases hs
      obtain ⟨c, e, fz, h1, h2, h3, h4, h5, h6⟩ := hr.cells hb hg
      have hvl := hv.1
      refine ⟨?_, hr.write hb hg hle hv⟩
      have := run_storeCells_cells (P := P) pl.B (pl.base + o) vs' 0 w (fun j hj => by
          rw [cell?_of_heap h1]; simp; omega) (fun j hj => frozen?_of_heap h1 (h6 rfl _ (by omega))) (hv.oneCells hone)
      simpa using this
    · cases hs
  · cases hs

end Go.E1
