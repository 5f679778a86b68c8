/-
  Appending: the old logical block dies, a new one has the old one's cells and the new ones.
-/
import Derived.Test.YtmopgljjpmepnaaE1Mem
namespace Go.E1
open Go

theorem HR.kill {ν : Inj} {h : LHeap} {w : World} (hr : HR ν h w) (b : Nat) : HR ν (h.set b .dead) w ∧ Step ν h w ν (h.set b .dead) w := by
  refine ⟨⟨hr.dom, ?_, ?_, hr.real⟩, ⟨Inj.le_refl ν, rfl, rfl, rfl, Nat.le_refl _, by simp, fun _ _ _ => rfl, ?_⟩⟩
  · intro x pl hx
    by_cases e : x = b
    · subst e; simp [ObjR]
    · simp only [LHeap.get_set, e, if_false]; exact hr.obj x pl hx
  · intro x y pl ql hx hy hne hB
    have hs := hr.sep x y pl ql hx hy hne hB
    by_cases e : x = b
    · subst e; simp [Apart]
    · by_cases e' : y = b
      · subst e'
        simp only [LHeap.get_set, if_pos, e, if_false]
        cases h.get x with
        | none => trivial
        | some o => cases o <;> trivial
      · simp only [LHeap.get_set, e, e', if_false]; exact hs
  · intro x pl hx hw _
    by_cases e : x = b
    · subst e; simp [LObj.writable] at hw
    · simp only [LHeap.get_set, e, if_false] at hw; exact ⟨x, pl, hx, rfl, hw⟩

/-- The free cells behind a block become its own. -/
theorem HR.grow {ν : Inj} {h : LHeap} {w : World} (hr : HR ν h w) {b : Nat} {pl : Place} {cs : List Value} (hb : ν b = some pl) (hg : h.get b = some (.cells cs true true))
    {vs vs' : List Value} (ho : pl.base + cs.length + vs.length ≤ pl.fin) (hv : VRs ν vs vs') :
    HR ν (h.set b (.cells (cs ++ vs) true true)) (w.setCells pl.B (pl.base + cs.length) vs') ∧ Step ν h w ν (h.set b (.cells (cs ++ vs) true true)) (w.setCells pl.B (pl.base + cs.length) vs') := by
  obtain ⟨c, e, fz, h1, h2, h3, h4, h5, h6⟩ := hr.cells hb hg
  have hvl := hv.1
  have hreal := hr.real b pl hb
  have hw := setCells_heap vs' w pl.B (pl.base + cs.length) c e fz h1 (by omega)
  have hsz : (aput c (pl.base + cs.length) vs').size = c.size := by
    simp only [aput, List.size_toArray]
    rw [length_splice _ _ _ (by simp; omega)]
    simp
  have hget : ∀ (i : Nat), (aput c (pl.base + cs.length) vs')[i]? = if i < pl.base + cs.length then c[i]? else if i < pl.base + cs.length + vs'.length then vs'[i - (pl.base + cs.length)]? else c[i]? := by
    intro i
    simp only [aput, List.getElem?_toArray]
    rw [getElem?_splice _ _ _ (by simp; omega)]
    simp
  rw [hw]
  refine ⟨⟨hr.dom, ?_, ?_, ?_⟩, ⟨Inj.le_refl ν, rfl, rfl, rfl, by simp [wput], by simp, ?_, ?_⟩⟩
  · intro x ql hx
    by_cases ex : x = b
    · subst ex
      rw [hb] at hx
      cases hx
      simp only [LHeap.get_set, if_pos]
      refine ⟨aput c (pl.base + cs.length) vs', e, fz, wput_same hreal, by rw [hsz, h2], by simp; omega, fun _ => rfl, ?_, h6⟩
      intro i v hi
      rw [List.getElem?_append] at hi
      rw [hget]
      split at hi
      · rename_i hlt
        rw [if_pos (by omega)]
        exact h5 i v hi
      · rename_i hlt
        have hil : i - cs.length < vs.length := by
          rcases Nat.lt_or_ge (i - cs.length) vs.length with q | q
          · exact q
          · simp [List.getElem?_eq_none q] at hi
        rw [if_neg (by omega), if_pos (by omega)]
        obtain ⟨v', a, b⟩ := hv.get hi
        exact ⟨v', by rw [show pl.base + i - (pl.base + cs.length) = i - cs.length by omega]; exact a, b⟩
    · simp only [LHeap.get_set, ex, if_false]
      by_cases hB : ql.B = pl.B
      · have hox := hr.obj x ql hx
        have hs := hr.sep b x pl ql hb hx (Ne.symm ex) hB.symm
        rw [hg] at hs
        cases hgx : h.get x with
        | none => trivial
        | some ox =>
          rw [hgx] at hox hs
          cases ox with
          | dead => trivial
          | map es => obtain ⟨ents, clock, k1, _⟩ := hox; rw [hB, h1] at k1; cases k1
          | cells ds t r =>
            obtain ⟨c', e', fz', k1, k2, k3, k4, k5, k6⟩ := hox
            rw [hB, h1] at k1
            cases k1
            refine ⟨aput c (pl.base + cs.length) vs', e, fz, by rw [hB]; exact wput_same hreal, by rw [hsz, k2], k3, k4, ?_, k6⟩
            intro i v hi
            have hil : i < ds.length := by
              rcases Nat.lt_or_ge i ds.length with q | q
              · exact q
              · simp [List.getElem?_eq_none q] at hi
            rw [hget]
            by_cases hin : ql.base + i < pl.base + cs.length
            · rw [if_pos hin]; exact k5 i v hi
            · by_cases hin2 : ql.base + i < pl.base + cs.length + vs'.length
              · refine (hs (.inl rfl) (ql.base + i) (by omega) (by simp [LObj.ext]; omega) (by omega) ?_).elim
                simp only [LObj.ext]; split <;> omega
              · rw [if_neg hin, if_neg hin2]; exact k5 i v hi
      · exact (hr.obj x ql hx).mono (Inj.le_refl ν) (wput_other hB)
  · intro x y pl' ql' hx hy hne hB
    have hs := hr.sep x y pl' ql' hx hy hne hB
    by_cases ex : x = b
    · subst ex
      have ey : y ≠ x := Ne.symm hne
      simp only [LHeap.get_set, if_pos, ey, if_false]
      rw [hg] at hs
      cases hgy : h.get y with
      | none => trivial
      | some oy =>
        rw [hgy] at hs
        cases oy with
        | dead => trivial
        | map es => trivial
        | cells ds t r => simpa [Apart, LObj.ext] using hs
    · by_cases ey : y = b
      · subst ey
        simp only [LHeap.get_set, if_pos, ex, if_false]
        rw [hg] at hs
        cases hgx : h.get x with
        | none => trivial
        | some ox =>
          rw [hgx] at hs
          cases ox with
          | dead => trivial
          | map es => trivial
          | cells ds t r => simpa [Apart, LObj.ext] using hs
      · simp only [LHeap.get_set, ex, ey, if_false]
        exact hs
  · intro x ql hx
    have := hr.real x ql hx
    simpa [wput] using this
  · intro B hB hno
    by_cases eB : B = pl.B
    · have := hno b pl hb eB.symm
      rw [hg] at this
      simp [LObj.writable] at this
    · exact wput_other eB
  · intro x ql hx hwr _
    by_cases ex : x = b
    · subst ex; exact ⟨x, ql, hx, rfl, by rw [hg]; rfl⟩
    · simp only [LHeap.get_set, ex, if_false] at hwr
      exact ⟨x, ql, hx, rfl, hwr⟩

/-- A block under another number, from a later cell on. -/
theorem HR.move {ν : Inj} {h : LHeap} {w : World} (hr : HR ν h w) {b o : Nat} {pl : Place} {cs : List Value} (hb : ν b = some pl) (hg : h.get b = some (.cells cs true true)) (ho : o ≤ cs.length) :
    HR (ν.put h.size ⟨pl.B, pl.base + o, pl.fin⟩) ((h.set b .dead).push (.cells (cs.drop o) true true)) w ∧
    Step ν h w (ν.put h.size ⟨pl.B, pl.base + o, pl.fin⟩) ((h.set b .dead).push (.cells (cs.drop o) true true)) w := by
  have hbs := hr.dom b pl hb
  have hbn : b ≠ h.size := by omega
  have hle := Inj.le_put (pl := ⟨pl.B, pl.base + o, pl.fin⟩) hr.fresh
  have old : ∀ x ql, (ν.put h.size ⟨pl.B, pl.base + o, pl.fin⟩) x = some ql → x ≠ h.size → ν x = some ql := fun x ql hx hne => by simpa [Inj.put, hne] using hx
  have new : ∀ ql, (ν.put h.size ⟨pl.B, pl.base + o, pl.fin⟩) h.size = some ql → ql = ⟨pl.B, pl.base + o, pl.fin⟩ := fun ql hx => by rw [Inj.put_same] at hx; exact (Option.some.inj hx).symm
  obtain ⟨c, e, fz, h1, h2, h3, h4, h5, h6⟩ := hr.cells hb hg
  have other : ∀ x ql, ν x = some ql → x ≠ b → ql.B = pl.B → Apart (some (.cells (cs.drop o) true true)) ⟨pl.B, pl.base + o, pl.fin⟩ (h.get x) ql ∧ Apart (h.get x) ql (some (.cells (cs.drop o) true true)) ⟨pl.B, pl.base + o, pl.fin⟩ := by
    intro x ql hx hne hB
    have hs := hr.sep b x pl ql hb hx (Ne.symm hne) hB.symm
    rw [hg] at hs
    cases hgx : h.get x with
    | none => exact ⟨trivial, trivial⟩
    | some ox =>
      rw [hgx] at hs
      cases ox with
      | dead => exact ⟨trivial, trivial⟩
      | map es => exact ⟨trivial, trivial⟩
      | cells ds t r =>
        have hs' := hs (.inl rfl)
        simp only [LObj.ext, if_true] at hs'
        constructor
        · intro _ k k1 k2 k3 k4
          simp only [LObj.ext, if_true] at k2
          simp only [LObj.ext] at k4
          have k1' : pl.base + o ≤ k := k1
          exact hs' k (by omega) k2 k3 k4
        · intro _ k k1 k2 k3 k4
          simp only [LObj.ext, if_true] at k4
          simp only [LObj.ext] at k2
          have k3' : pl.base + o ≤ k := k3
          exact hs' k (by omega) k4 k1 k2
  refine ⟨⟨?_, ?_, ?_, ?_⟩, ⟨hle, rfl, rfl, rfl, Nat.le_refl _, by simp, fun _ _ _ => rfl, ?_⟩⟩
  · intro x ql hx
    by_cases ex : x = h.size
    · simp [ex]
    · have := hr.dom x ql (old x ql hx ex); simp; omega
  · intro x ql hx
    by_cases ex : x = h.size
    · subst ex
      have := new ql hx; subst this
      simp only [LHeap.get_push, LHeap.size_set, if_pos]
      refine ⟨c, e, fz, h1, h2, by simp; omega, fun _ => rfl, ?_, h6⟩
      intro i v hi
      rw [List.getElem?_drop] at hi
      obtain ⟨v', a, b⟩ := h5 (o + i) v hi
      exact ⟨v', by rw [show pl.base + o + i = pl.base + (o + i) by omega]; exact a, b.mono hle⟩
    · simp only [LHeap.get_push, LHeap.size_set, ex, if_false, LHeap.get_set]
      by_cases eb : x = b
      · simp [eb, ObjR]
      · simp only [eb, if_false]
        exact (hr.obj x ql (old x ql hx ex)).mono hle rfl
  · intro x y pl' ql' hx hy hne hB
    by_cases ex : x = h.size
    · subst ex
      have := new pl' hx; subst this
      have hy' := old y ql' hy (Ne.symm hne)
      simp only [LHeap.get_push, LHeap.size_set, if_pos, Ne.symm hne, if_false, LHeap.get_set]
      by_cases eb : y = b
      · simp [eb, Apart]
      · simp only [eb, if_false]
        exact (other y ql' hy' eb hB.symm).1
    · by_cases ey : y = h.size
      · subst ey
        have := new ql' hy; subst this
        have hx' := old x pl' hx ex
        simp only [LHeap.get_push, LHeap.size_set, if_pos, ex, if_false, LHeap.get_set]
        by_cases eb : x = b
        · simp [eb, Apart]
        · simp only [eb, if_false]
          exact (other x pl' hx' eb hB).2
      · have hx' := old x pl' hx ex
        have hy' := old y ql' hy ey
        simp only [LHeap.get_push, LHeap.size_set, ex, ey, if_false, LHeap.get_set]
        have hs := hr.sep x y pl' ql' hx' hy' hne hB
        by_cases e1 : x = b
        · simp [e1, Apart]
        · by_cases e2 : y = b
          · simp only [e2, e1, if_false, if_true]
            cases h.get x with
            | none => trivial
            | some o => cases o <;> trivial
          · simp only [e1, e2, if_false]; exact hs
  · intro x ql hx
    by_cases ex : x = h.size
    · subst ex
      have := new ql hx; subst this
      exact hr.real b pl hb
    · exact hr.real x ql (old x ql hx ex)
  · intro x ql hx hw hlt
    by_cases ex : x = h.size
    · subst ex
      have := new ql hx; subst this
      exact ⟨b, pl, hb, rfl, by rw [hg]; rfl⟩
    · simp only [LHeap.get_push, LHeap.size_set, ex, if_false, LHeap.get_set] at hw
      by_cases eb : x = b
      · simp [eb, LObj.writable] at hw
      · simp only [eb, if_false] at hw
        exact ⟨x, ql, old x ql hx ex, rfl, hw⟩

end Go.E1
