/-
  Slicing, making, appending, copying.
-/
import Derived.Test.YtmopgljjpmepnaaE1Snd5
import Derived.Deep.Upon
namespace Go.E1
open Go

section
variable {P : Program} {q : EqF} {o : Oper} {ρ : Operand → Value} {ν : Inj} {h h' : LHeap} {w : World} {v : Value} {rd : LO → Option Value}

theorem sub_slice {e : Nat} {x : LO} {lo hi mx : Option LO} {lv : LOp Value} (hs : (LOp.slice e x lo hi mx).sub rd = some lv) :
    ∃ x' lo' hi' mx', rd x = some x' ∧ LOp.optM rd lo = some lo' ∧ LOp.optM rd hi = some hi' ∧ LOp.optM rd mx = some mx' ∧ lv = .slice e x' lo' hi' mx' := by
  simp only [LOp.sub] at hs
  split at hs
  · rename_i a b c d h1 h2 h3 h4; exact ⟨a, b, c, d, h1, h2, h3, h4, (Option.some.inj hs).symm⟩
  · cases hs
theorem sub_sliceArr {n e : Nat} {x : LO} {lo hi mx : Option LO} {lv : LOp Value} (hs : (LOp.sliceArr n e x lo hi mx).sub rd = some lv) :
    ∃ x' lo' hi' mx', rd x = some x' ∧ LOp.optM rd lo = some lo' ∧ LOp.optM rd hi = some hi' ∧ LOp.optM rd mx = some mx' ∧ lv = .sliceArr n e x' lo' hi' mx' := by
  simp only [LOp.sub] at hs
  split at hs
  · rename_i a b c d h1 h2 h3 h4; exact ⟨a, b, c, d, h1, h2, h3, h4, (Option.some.inj hs).symm⟩
  · cases hs
theorem sub_sliceStr {x : LO} {lo hi : Option LO} {lv : LOp Value} (hs : (LOp.sliceStr x lo hi).sub rd = some lv) :
    ∃ x' lo' hi', rd x = some x' ∧ LOp.optM rd lo = some lo' ∧ LOp.optM rd hi = some hi' ∧ lv = .sliceStr x' lo' hi' := by
  simp only [LOp.sub] at hs
  split at hs
  · rename_i a b c h1 h2 h3; exact ⟨a, b, c, h1, h2, h3, (Option.some.inj hs).symm⟩
  · cases hs

/-- A bound: nothing, or a number. -/
def BoundR (l : Option Value) (r : Option Value) : Prop :=
  match l with
  | none => r = none
  | some v => ∀ k n, v = .int k n → r = some (.int k n)

theorem opt_BoundR {x : Option Operand} {lx : Option LO} {y : Option Value} (h1 : opt cLO x = some lx) (h2 : LOp.optM rd lx = some y) (hv : ∀ z, x = some z → ∀ lx v, cLO z = some lx → rd lx = some v → VR ν v (ρ z)) :
    BoundR y (x.map ρ) := by
  cases x with
  | none =>
    simp only [opt, Option.some.injEq] at h1
    subst h1
    simp only [LOp.optM, Option.some.injEq] at h2
    subst h2
    rfl
  | some z =>
    obtain ⟨l, hl, rfl⟩ := map_some h1
    obtain ⟨u, hu, rfl⟩ := map_some h2
    intro k n he
    subst he
    have := hv z rfl l _ hl hu
    simp [this.int_inv]

theorem lo1_spec {y : Option Value} {a : Option Nat} (h : lo1 y = some a) : (y = none ∧ a = none) ∨ ∃ (k : IntKind) (i : Int), y = some (.int k i) ∧ 0 ≤ i ∧ a = some i.toNat := by
  unfold lo1 at h
  split at h
  · cases h; exact .inl ⟨rfl, rfl⟩
  · rename_i k i
    split at h
    · rename_i h0; cases h; exact .inr ⟨k, i, rfl, h0, rfl⟩
    · cases h
  · cases h

theorem run_sliceBound {k : IntKind} {i : Int} {y : Nat} {c : BoundsCode} (h0 : 0 ≤ i) (h1 : i.toNat ≤ y) : (Instr.sliceBound (.int k i) y c).run P w = .ok i.toNat w := by
  have : i ≤ (y : Int) := by omega
  simp [Instr.sliceBound, asIntOf, h0, this]

theorem run_sliceBounds {b : Bool} {len cap : Nat} {lo hi : Option Value} {rlo rhi : Option Value} {l1 h1 : Option Nat} (hl : lo1 lo = some l1) (hh : lo1 hi = some h1) (rl : BoundR lo rlo) (rh : BoundR hi rhi)
    (hcap : h1.getD len ≤ cap) (hle : l1.getD 0 ≤ h1.getD len) : (Instr.sliceBounds b len cap rlo rhi none).run P w = .ok (l1.getD 0, h1.getD len, cap) w := by
  rcases lo1_spec hh with ⟨rfl, rfl⟩ | ⟨k, i, rfl, hi0, rfl⟩
  · have e2 : rhi = none := rh
    subst e2
    rcases lo1_spec hl with ⟨rfl, rfl⟩ | ⟨k', i', rfl, hi0', rfl⟩
    · have e1 : rlo = none := rl
      subst e1
      simp [Instr.sliceBounds]
    · have e1 := rl k' i' rfl
      subst e1
      simp at hle
      simp [Instr.sliceBounds, run_sliceBound hi0' (show i'.toNat ≤ len by omega)]
  · have e2 := rh k i rfl
    subst e2
    simp at hcap hle
    rcases lo1_spec hl with ⟨rfl, rfl⟩ | ⟨k', i', rfl, hi0', rfl⟩
    · have e1 : rlo = none := rl
      subst e1
      simp [Instr.sliceBounds, run_sliceBound hi0 (show i.toNat ≤ cap by omega)]
    · have e1 := rl k' i' rfl
      subst e1
      simp at hle
      simp [Instr.sliceBounds, run_sliceBound hi0 (show i.toNat ≤ cap by omega), run_sliceBound hi0' (show i'.toNat ≤ i.toNat by omega)]

theorem run_sliceBounds3 {b : Bool} {len cap : Nat} {lo hi : Option Value} {rlo rhi : Option Value} {l1 : Option Nat} {h1 : Nat} {km : IntKind} {m : Int} (hl : lo1 lo = some l1) (hh : lo1 hi = some (some h1)) (rl : BoundR lo rlo) (rh : BoundR hi rhi)
    (hcap : h1 ≤ cap) (hle : l1.getD 0 ≤ h1) (hm : m = (h1 : Nat)) : (Instr.sliceBounds b len cap rlo rhi (some (.int km m))).run P w = .ok (l1.getD 0, h1, h1) w := by
  subst hm
  rcases lo1_spec hh with ⟨rfl, hn⟩ | ⟨k, i, rfl, hi0, hn⟩
  · cases hn
  · cases hn
    obtain ⟨n, rfl⟩ := Int.eq_ofNat_of_zero_le hi0
    simp only [Int.toNat_natCast] at *
    have e2 := rh k _ rfl
    subst e2
    have hb := run_sliceBound (P := P) (w := w) (k := km) (c := if b = true then .slice3Acap else .slice3Alen) (show 0 ≤ ((n : Nat) : Int) by omega) (show ((n : Nat) : Int).toNat ≤ cap by simpa using hcap)
    have hb2 := run_sliceBound (P := P) (w := w) (k := k) (y := n) (c := .slice3B) (show 0 ≤ ((n : Nat) : Int) by omega) (by simp)
    simp only [Int.toNat_natCast] at hb hb2
    rcases lo1_spec hl with ⟨rfl, rfl⟩ | ⟨k', i', rfl, hi0', rfl⟩
    · have e1 : rlo = none := rl
      subst e1
      simp [Instr.sliceBounds, hb, hb2]
    · have e1 := rl k' i' rfl
      subst e1
      simp only [Option.getD_some] at hle
      simp [Instr.sliceBounds, hb, hb2, run_sliceBound hi0' hle]

/-- What a slice of a slice is. -/
theorem VR.reslice {a : Option Addr} {n E l hh m : Nat} {x : Value} (hx : VR ν (.slice a n E) x) (h1 : l ≤ hh) (h2 : hh ≤ n) :
    ∃ a' cap, x = .slice a' n cap ∧ n ≤ cap ∧ ((m = hh ∨ m = cap) → m ≤ cap →
      VR ν (.slice (a.map fun p => ⟨p.block, p.off + l * E, p.spot⟩) (hh - l) E) (.slice (if m = l then a' else a'.map (·.add (l * E))) (hh - l) (m - l))) := by
  cases hx with
  | snil =>
    refine ⟨none, 0, rfl, Nat.le_refl _, ?_⟩
    intro hm hle
    have e1 : hh = 0 := by omega
    have e2 : m = 0 := by omega
    subst e1; subst e2
    have e3 : l = 0 := by omega
    subst e3
    exact .snil
  | slice hb hle hfin =>
    rename_i b o cap pl
    refine ⟨_, cap, rfl, hle, ?_⟩
    intro hm hmc
    by_cases e : m = l
    · subst e
      have : hh - m = 0 := by omega
      rw [this]
      simp only [Nat.sub_self, if_pos]
      exact .sempty
    · rw [if_neg e]
      simp only [Option.map_some, add_plain]
      have hadd : pl.base + o + l * E = pl.base + (o + l * E) := by omega
      rw [hadd]
      refine .slice hb (by omega) ?_
      have : (l + (m - l)) * E ≤ cap * E := Nat.mul_le_mul_right _ (by omega)
      rw [Nat.add_mul] at this
      omega
  | sempty =>
    refine ⟨_, 0, rfl, Nat.le_refl _, ?_⟩
    intro hm hle
    have e1 : hh = 0 := by omega
    have e2 : m = 0 := by omega
    subst e1; subst e2
    have e3 : l = 0 := by omega
    subst e3
    exact .sempty

theorem good_slice {t : TypeId} {x : Operand} {lo hi mx : Option Operand} (ho : o.op = .slice t x lo hi mx) {lop : LOp LO} {lv : LOp Value} (hc : cOp P (.slice t x lo hi mx) = some lop) (hs : lop.sub rd = some lv) (hx : lexec q lv h = some (v, h'))
    (hr : HR ν h w) (hv : OpsR ν (.slice t x lo hi mx) rd ρ) : Good P o ρ ν h w v h' := by
  have hvx := hv x (by simp [Op.operands])
  have hvlo : ∀ z, lo = some z → ∀ lx v, cLO z = some lx → rd lx = some v → VR ν v (ρ z) := fun z hz => hv z (by simp [Op.operands, hz])
  have hvhi : ∀ z, hi = some z → ∀ lx v, cLO z = some lx → rd lx = some v → VR ν v (ρ z) := fun z hz => hv z (by simp [Op.operands, hz])
  have hvmx : ∀ z, mx = some z → ∀ lx v, cLO z = some lx → rd lx = some v → VR ν v (ρ z) := fun z hz => hv z (by simp [Op.operands, hz])
  simp only [cOp] at hc
  split at hc
  · rename_i e lx llo lhi lmx hu ha hlo hhi hmx
    split at hc
    · rename_i n hn
      cases hc
      obtain ⟨x', lo', hi', mx', h1, h2, h3, h4, rfl⟩ := sub_slice hs
      have hva := hvx lx x' ha h1
      have blo := opt_BoundR (ρ := ρ) (ν := ν) hlo h2 hvlo
      have bhi := opt_BoundR (ρ := ρ) (ν := ν) hhi h3 hvhi
      have bmx := opt_BoundR (ρ := ρ) (ν := ν) hmx h4 hvmx
      simp only [lexec] at hx
      split at hx
      · rename_i a len E l1 u1 hl1 hu1
        have em : mx.map ρ = none := bmx
        split at hx
        · rename_i hE
          split at hx
          · rename_i hb
            obtain ⟨hb1, hb2⟩ := hb
            simp only [Option.some.injEq, Prod.mk.injEq] at hx
            obtain ⟨rfl, rfl⟩ := hx
            obtain ⟨a', cap, he, hcap, hvr⟩ := hva.reslice (m := 0) hb2 hb1
            obtain ⟨a2, cap2, he2, hcap2, hvr⟩ := hva.reslice (m := cap) hb2 hb1
            have e12 := he.symm.trans he2
            simp only [Value.slice.injEq, true_and] at e12
            obtain ⟨rfl, rfl⟩ := e12
            have hvr := hvr (.inr rfl) (Nat.le_refl _)
            have hfix : VR ν (.slice (a.map fun p => ⟨p.block, p.off + l1.getD 0 * n, p.spot⟩) (u1.getD len - l1.getD 0) E) (.slice (if cap = l1.getD 0 then a' else a'.map (·.add (l1.getD 0 * n))) (u1.getD len - l1.getD 0) (cap - l1.getD 0)) := by
              rcases hE with rfl | rfl
              · exact hvr
              · have : a' = none := by
                  rw [he] at hva; cases hva; rfl
                subst this
                simpa using hvr
            refine Good.pure hr ?_ hfix
            have hrun := run_sliceBounds (P := P) (w := w) (b := true) (cap := cap) hl1 hu1 blo bhi (by omega) hb2
            simp [execOp, ho, Instr.sliceAt, run_underlying hu, Instr.slice, he, em, hrun, run_sizeOf hn]
          · cases hx
        · cases hx
      · rename_i a len E l1 u1 km m hl1 hu1
        split at hx
        · rename_i hE
          split at hx
          · rename_i hb
            obtain ⟨hb1, hb2, hb3⟩ := hb
            simp only [Option.some.injEq, Prod.mk.injEq] at hx
            obtain ⟨rfl, rfl⟩ := hx
            have em : mx.map ρ = some (.int km m) := bmx km m rfl
            obtain ⟨a', cap, he, hcap, hvr⟩ := hva.reslice (m := u1) hb2 hb1
            have hvr := hvr (.inl rfl) (by omega)
            have hfix : VR ν (.slice (a.map fun p => ⟨p.block, p.off + l1.getD 0 * n, p.spot⟩) (u1 - l1.getD 0) E) (.slice (if u1 = l1.getD 0 then a' else a'.map (·.add (l1.getD 0 * n))) (u1 - l1.getD 0) (u1 - l1.getD 0)) := by
              rcases hE with rfl | rfl
              · exact hvr
              · have : a' = none := by
                  rw [he] at hva; cases hva; rfl
                subst this
                simpa using hvr
            refine Good.pure hr ?_ hfix
            have hrun := run_sliceBounds3 (P := P) (w := w) (b := true) (len := len) (cap := cap) (km := km) hl1 hu1 blo bhi (by omega) hb2 hb3
            simp [execOp, ho, Instr.sliceAt, run_underlying hu, Instr.slice, he, em, hrun, run_sizeOf hn]
          · cases hx
        · cases hx
      · cases hx
    · cases hc
  · rename_i lx llo lhi hu ha hlo hhi hmx
    cases hc
    obtain ⟨x', lo', hi', h1, h2, h3, rfl⟩ := sub_sliceStr hs
    have hva := hvx lx x' ha h1
    have blo := opt_BoundR (ρ := ρ) (ν := ν) hlo h2 hvlo
    have bhi := opt_BoundR (ρ := ρ) (ν := ν) hhi h3 hvhi
    have em : mx = none := by
      cases mx with
      | none => rfl
      | some z => obtain ⟨_, _, hh⟩ := map_some hmx; cases hh
    subst em
    simp only [lexec] at hx
    split at hx
    · rename_i s l1 u1 hl1 hu1
      split at hx
      · rename_i hb
        obtain ⟨hb1, hb2⟩ := hb
        simp only [Option.some.injEq, Prod.mk.injEq] at hx
        obtain ⟨rfl, rfl⟩ := hx
        refine Good.pure hr ?_ (.string _)
        have hrun := run_sliceBounds (P := P) (w := w) (b := false) (len := s.size) (cap := s.size) hl1 hu1 blo bhi hb1 hb2
        simp [execOp, ho, Instr.sliceAt, run_underlying hu, Instr.slice, hva.str_inv, hrun]
      · cases hx
    · cases hx
  · rename_i n e lx llo lhi lmx hu ha hlo hhi hmx
    split at hc
    · rename_i k hk
      split at hc
      · cases hc
      · rename_i hk0
        cases hc
        obtain ⟨x', lo', hi', mx', h1, h2, h3, h4, rfl⟩ := sub_sliceArr hs
        have hva := hvx lx x' ha h1
        have blo := opt_BoundR (ρ := ρ) (ν := ν) hlo h2 hvlo
        have bhi := opt_BoundR (ρ := ρ) (ν := ν) hhi h3 hvhi
        have bmx := opt_BoundR (ρ := ρ) (ν := ν) hmx h4 hvmx
        simp only [lexec] at hx
        split at hx
        · rename_i b j l1 u1 hl1 hu1
          have em : mx.map ρ = none := bmx
          split at hx
          · rename_i cs tip rw hg
            split at hx
            · rename_i hb
              obtain ⟨hb0, hb1, hb2⟩ := hb
              simp only [Option.some.injEq, Prod.mk.injEq] at hx
              obtain ⟨rfl, rfl⟩ := hx
              obtain ⟨pl, hbl, he⟩ := hva.ptr_inv
              obtain ⟨_, _, _, _, _, h3', _, _, _⟩ := hr.cells hbl hg
              have hrun := run_sliceBounds (P := P) (w := w) (b := false) (len := n) (cap := n) hl1 hu1 blo bhi hb1 hb2
              have hres : VR ν (.slice (some ⟨b, j + l1.getD 0 * k, none⟩) (u1.getD n - l1.getD 0) k) (.slice (some (if n = l1.getD 0 then ⟨pl.B, pl.base + j, none⟩ else (⟨pl.B, pl.base + j, none⟩ : Addr).add (l1.getD 0 * k))) (u1.getD n - l1.getD 0) (n - l1.getD 0)) := by
                by_cases e0 : n = l1.getD 0
                · have : u1.getD n - l1.getD 0 = 0 := by omega
                  rw [this, if_pos e0]
                  have : n - l1.getD 0 = 0 := by omega
                  rw [this]
                  exact .sempty
                · rw [if_neg e0, add_plain, Nat.add_assoc]
                  refine .slice hbl (by omega) ?_
                  have : (l1.getD 0 + (n - l1.getD 0)) * k ≤ n * k := Nat.mul_le_mul_right _ (by omega)
                  rw [Nat.add_mul] at this
                  omega
              refine Good.pure hr ?_ hres
              simp [execOp, ho, Instr.sliceAt, run_underlying hu, Instr.sureAddr, he, em, hrun, run_sizeOf hk]
            · cases hx
          · cases hx
        · cases hx
    · cases hc
  · cases hc

end
end Go.E1
