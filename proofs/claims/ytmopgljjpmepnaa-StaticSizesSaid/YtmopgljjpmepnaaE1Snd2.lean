/-
  Loads, stores, numbers, conversions, addresses.
-/
import Derived.Test.YtmopgljjpmepnaaE1Snd
import Derived.Laws.Strings
namespace Go.E1
open Go

section
variable {P : Program} {q : EqF} {o : Oper} {ρ : Operand → Value} {ν : Inj} {h h' : LHeap} {w : World} {v : Value} {rd : LO → Option Value}

theorem sub_store {n : Nat} {lx ly : LO} {lv : LOp Value} (hs : (LOp.store n lx ly).sub rd = some lv) : ∃ x y, rd lx = some x ∧ rd ly = some y ∧ lv = .store n x y := by
  simp only [LOp.sub] at hs
  split at hs
  · rename_i x y hx hy; exact ⟨x, y, hx, hy, (Option.some.inj hs).symm⟩
  · cases hs
theorem sub_bin {op : BinOp} {t : EqT} {lx ly : LO} {lv : LOp Value} (hs : (LOp.bin op t lx ly).sub rd = some lv) : ∃ x y, rd lx = some x ∧ rd ly = some y ∧ lv = .bin op t x y := by
  simp only [LOp.sub] at hs
  split at hs
  · rename_i x y hx hy; exact ⟨x, y, hx, hy, (Option.some.inj hs).symm⟩
  · cases hs
theorem sub_makeSlice {e b : Nat} {z : List Value} {lx ly : LO} {lv : LOp Value} (hs : (LOp.makeSlice e b z lx ly).sub rd = some lv) : ∃ x y, rd lx = some x ∧ rd ly = some y ∧ lv = .makeSlice e b z x y := by
  simp only [LOp.sub] at hs
  split at hs
  · rename_i x y hx hy; exact ⟨x, y, hx, hy, (Option.some.inj hs).symm⟩
  · cases hs
theorem sub_idxAddrA {l e : Nat} {lx ly : LO} {lv : LOp Value} (hs : (LOp.idxAddrA l e lx ly).sub rd = some lv) : ∃ x y, rd lx = some x ∧ rd ly = some y ∧ lv = .idxAddrA l e x y := by
  simp only [LOp.sub] at hs
  split at hs
  · rename_i x y hx hy; exact ⟨x, y, hx, hy, (Option.some.inj hs).symm⟩
  · cases hs
theorem sub_idxAddrS {e : Nat} {lx ly : LO} {lv : LOp Value} (hs : (LOp.idxAddrS e lx ly).sub rd = some lv) : ∃ x y, rd lx = some x ∧ rd ly = some y ∧ lv = .idxAddrS e x y := by
  simp only [LOp.sub] at hs
  split at hs
  · rename_i x y hx hy; exact ⟨x, y, hx, hy, (Option.some.inj hs).symm⟩
  · cases hs
theorem sub_idxA1 {l : Nat} {lx ly : LO} {lv : LOp Value} (hs : (LOp.idxA1 l lx ly).sub rd = some lv) : ∃ x y, rd lx = some x ∧ rd ly = some y ∧ lv = .idxA1 l x y := by
  simp only [LOp.sub] at hs
  split at hs
  · rename_i x y hx hy; exact ⟨x, y, hx, hy, (Option.some.inj hs).symm⟩
  · cases hs
theorem sub_idxAN {l e : Nat} {lx ly : LO} {lv : LOp Value} (hs : (LOp.idxAN l e lx ly).sub rd = some lv) : ∃ x y, rd lx = some x ∧ rd ly = some y ∧ lv = .idxAN l e x y := by
  simp only [LOp.sub] at hs
  split at hs
  · rename_i x y hx hy; exact ⟨x, y, hx, hy, (Option.some.inj hs).symm⟩
  · cases hs
theorem sub_idxStr {lx ly : LO} {lv : LOp Value} (hs : (LOp.idxStr lx ly).sub rd = some lv) : ∃ x y, rd lx = some x ∧ rd ly = some y ∧ lv = .idxStr x y := by
  simp only [LOp.sub] at hs
  split at hs
  · rename_i x y hx hy; exact ⟨x, y, hx, hy, (Option.some.inj hs).symm⟩
  · cases hs
theorem sub_append {e b : Nat} {lx ly : LO} {lv : LOp Value} (hs : (LOp.append e b lx ly).sub rd = some lv) : ∃ x y, rd lx = some x ∧ rd ly = some y ∧ lv = .append e b x y := by
  simp only [LOp.sub] at hs
  split at hs
  · rename_i x y hx hy; exact ⟨x, y, hx, hy, (Option.some.inj hs).symm⟩
  · cases hs
theorem sub_copy {e : Nat} {lx ly : LO} {lv : LOp Value} (hs : (LOp.copy e lx ly).sub rd = some lv) : ∃ x y, rd lx = some x ∧ rd ly = some y ∧ lv = .copy e x y := by
  simp only [LOp.sub] at hs
  split at hs
  · rename_i x y hx hy; exact ⟨x, y, hx, hy, (Option.some.inj hs).symm⟩
  · cases hs

theorem VR.ptr_inv {b k : Nat} {x : Value} (hx : VR ν (.pointer (some ⟨b, k, none⟩)) x) : ∃ pl, ν b = some pl ∧ x = .pointer (some ⟨pl.B, pl.base + k, none⟩) := by
  cases hx with
  | ptr hb => exact ⟨_, hb, rfl⟩

theorem run_load_cell {a : Addr} {x : Value} (hc : w.cell? a = some x) : (load a).run P w = .ok x w := by
  simp [hc]

theorem good_load {t : TypeId} {a : Operand} (ho : o.op = .load t a) {lo : LOp LO} {lv : LOp Value} (hc : cOp P (.load t a) = some lo) (hs : lo.sub rd = some lv) (hx : lexec q lv h = some (v, h'))
    (hr : HR ν h w) (hv : OpsR ν (.load t a) rd ρ) : Good P o ρ ν h w v h' := by
  simp only [cOp] at hc
  split at hc
  · rename_i la n ha hagg hn
    cases hc
    obtain ⟨y, hy, rfl⟩ := rd1 hs
    have hva := hv a (by simp [Op.operands]) la y ha hy
    simp only [lexec] at hx
    split at hx
    · rename_i b k
      obtain ⟨cs, hcs, hx⟩ := map_some hx
      simp only [Prod.mk.injEq] at hx
      obtain ⟨rfl, rfl⟩ := hx
      obtain ⟨pl, hb, he⟩ := hva.ptr_inv
      obtain ⟨hl, vs', hvr, hcell⟩ := hr.loadCells hcs hb
      have hlen : vs'.length = n := by rw [← hvr.1, hl]
      have hrun := run_loadCells_list (P := P) w ⟨pl.B, pl.base + k, none⟩ vs' (fun j x hj => by rw [add_plain]; exact hcell j x hj)
      refine Good.pure hr (v' := .agg vs'.toArray) ?_ (VRs.agg (by simpa using hvr))
      simp [execOp, ho, Instr.loadAt, loadVar, Instr.sureAddr, he, run_isAgg hagg, run_sizeOf hn, ← hlen, hrun]
    · cases hx
  · rename_i la n ha hagg hn
    cases hc
    obtain ⟨y, hy, rfl⟩ := rd1 hs
    have hva := hv a (by simp [Op.operands]) la y ha hy
    simp only [lexec] at hx
    split at hx
    · rename_i b k
      obtain ⟨x, hxl, hx⟩ := map_some hx
      simp only [Prod.mk.injEq] at hx
      obtain ⟨rfl, rfl⟩ := hx
      obtain ⟨pl, hb, he⟩ := hva.ptr_inv
      obtain ⟨x', hcell, hvr⟩ := hr.load1 hxl hb
      refine Good.pure hr (v' := x') ?_ hvr
      simp [execOp, ho, Instr.loadAt, loadVar, Instr.sureAddr, he, run_isAgg hagg, hcell]
    · cases hx
  · cases hc

theorem good_store {t : TypeId} {a x : Operand} (ho : o.op = .store t a x) {lo : LOp LO} {lv : LOp Value} (hc : cOp P (.store t a x) = some lo) (hs : lo.sub rd = some lv) (hx : lexec q lv h = some (v, h'))
    (hr : HR ν h w) (hv : OpsR ν (.store t a x) rd ρ) : Good P o ρ ν h w v h' := by
  simp only [cOp] at hc
  split at hc
  · rename_i la lx n ha hx' hn
    cases hc
    obtain ⟨y, z, hy, hz, rfl⟩ := sub_store hs
    have hva := hv a (by simp [Op.operands]) la y ha hy
    have hvx := hv x (by simp [Op.operands]) lx z hx' hz
    simp only [lexec] at hx
    split at hx
    · rename_i b k
      split at hx
      · rename_i hsz
        obtain ⟨h2, hst, hx⟩ := map_some hx
        simp only [Prod.mk.injEq] at hx
        obtain ⟨rfl, rfl⟩ := hx
        obtain ⟨pl, hb, he⟩ := hva.ptr_inv
        have hcells := VRs.cells hvx
        obtain ⟨hrun, hh, hstep⟩ := hr.storeCells hb hst hcells P
        have hsz' : (ρ x).cells.size = n := by have := hcells.1; simp at this; omega
        refine ⟨ν, undef, _, .inr ⟨?_, rfl⟩, VRs.tuple (.nil ν), hh, hstep⟩
        simp [execOp, ho, Instr.storeAt, storeVar, Instr.sureAddr, he, run_sizeOf hn, hsz', hrun]
      · cases hx
    · cases hx
  · cases hc

theorem good_nilCheck {a : Operand} (ho : o.op = .nilCheck a) {lo : LOp LO} {lv : LOp Value} (hc : (cLO a).map LOp.nilCheck = some lo) (hs : lo.sub rd = some lv) (hx : lexec q lv h = some (v, h'))
    (hr : HR ν h w) (hv : ∀ lx v, cLO a = some lx → rd lx = some v → VR ν v (ρ a)) : Good P o ρ ν h w v h' := by
  obtain ⟨la, ha, rfl⟩ := map_some hc
  obtain ⟨y, hy, rfl⟩ := rd1 hs
  have hva := hv la y ha hy
  simp only [lexec] at hx
  split at hx
  · simp only [Option.some.injEq, Prod.mk.injEq] at hx
    obtain ⟨rfl, rfl⟩ := hx
    refine Good.pure hr (v' := ρ a) ?_ hva
    cases hva' : ρ a <;> rw [hva'] at hva <;> cases hva
    simp [execOp, ho, hva']
  · rename_i f fi c
    split at hx
    · simp only [Option.some.injEq, Prod.mk.injEq] at hx
      obtain ⟨rfl, rfl⟩ := hx
      refine Good.pure hr (v' := ρ a) ?_ hva
      cases hva' : ρ a <;> rw [hva'] at hva <;> cases hva
      simp [execOp, ho, hva']
    · cases hx
  · cases hx

/-! Numbers. -/

theorem run_ibin {op : BinOp} {k : IntKind} {a b : Int} {x : Value} (hx : ibin op k a b = some x) (hsh : BinOp.isShift op = false) (t : TypeId) : (binOp op t (.int k a) (.int k b)).run P w = .ok x w := by
  cases op <;> simp [ibin, BinOp.isShift] at hx hsh <;>
    first
      | (subst hx; simp [binOp, Op.intArith, Op.intBits, Op.intCmp])
      | (obtain ⟨h0, rfl⟩ := hx; simp [binOp, Op.intDiv, h0])

theorem run_ishift {op : BinOp} {k k' : IntKind} {a b : Int} {x : Value} (hx : ishift op k a b = some x) (t : TypeId) : (binOp op t (.int k a) (.int k' b)).run P w = .ok x w := by
  unfold ishift at hx
  split at hx
  · cases hx
  · rename_i h0
    cases op <;> simp at hx <;> (subst hx; simp [binOp, Op.shift, h0])

theorem bytes_toList (s : ByteArray) : s.toList = s.data.toList := by
  exact ByteArray.toList_eq s

theorem run_sbin {op : BinOp} {a b : ByteArray} {x : Value} (hx : sbin op a b = some x) (t : TypeId) : (binOp op t (.string a) (.string b)).run P w = .ok x w := by
  cases op <;> simp [sbin] at hx
  case add =>
    obtain ⟨h0, rfl⟩ := hx
    have : ¬ (((a.size + b.size : Nat) : Int) > IntKind.i64.max) := by
      simp [IntKind.max, IntKind.signed, IntKind.bits]; omega
    simp [binOp, Op.stringOp]
    omega
  case eql => subst hx; simp [binOp, Op.stringOp, bytes_toList]
  case neq => subst hx; simp [binOp, Op.stringOp, bytes_toList]

end
end Go.E1
