/-
  Slices, addresses, parts.
-/
import Derived.Test.YtmopgljjpmepnaaE1Snd4
namespace Go.E1
open Go

section
variable {P : Program} {q : EqF} {o : Oper} {ρ : Operand → Value} {ν : Inj} {h h' : LHeap} {w : World} {v : Value} {rd : LO → Option Value}

theorem sizeP_spec {t : TypeId} {n : Nat} (hn : sizeP P t = some n) : ∃ i, P.info? t = some i ∧ i.size = n := by
  unfold sizeP at hn
  obtain ⟨i, a, b⟩ := map_some hn
  exact ⟨i, a, b⟩

theorem good_fieldAddr {t : TypeId} {x : Operand} {k : Nat} (ho : o.op = .fieldAddr t x k) {lo : LOp LO} {lv : LOp Value} (hc : cOp P (.fieldAddr t x k) = some lo) (hs : lo.sub rd = some lv) (hx : lexec q lv h = some (v, h'))
    (hr : HR ν h w) (hv : OpsR ν (.fieldAddr t x k) rd ρ) : Good P o ρ ν h w v h' := by
  simp only [cOp] at hc
  split at hc
  · rename_i fs lx hu ha
    split at hc
    · rename_i f hf
      split at hc
      · rename_i n hn
        split at hc
        · cases hc
        · rename_i h0
          cases hc
          obtain ⟨y, hy, rfl⟩ := rd1 hs
          have hva := hv x (by simp [Op.operands]) lx y ha hy
          simp only [lexec] at hx
          split at hx
          · rename_i b j
            simp only [Option.some.injEq, Prod.mk.injEq] at hx
            obtain ⟨rfl, rfl⟩ := hx
            obtain ⟨pl, hb, he⟩ := hva.ptr_inv
            refine Good.pure hr (v' := .pointer (some ⟨pl.B, pl.base + (j + f.offset), none⟩)) ?_ (.ptr hb)
            simp [execOp, ho, Instr.fieldAt, run_underlying hu, hf, Instr.sureAddr, he, fieldPlace, run_sizeOf hn, h0, add_plain, Nat.add_assoc]
          · cases hx
      · cases hc
    · cases hc
  · cases hc

theorem VRs.extract {c c' : Array Value} (h : VRs ν c.toList c'.toList) (a b : Nat) : VR ν (.agg (c.extract a b)) (.agg (c'.extract a b)) := by
  refine VRs.agg ?_
  simp only [Array.toList_extract, List.extract]
  exact (h.drop a).take (b - a)

theorem run_part1 {t : TypeId} {c : Array Value} {k : Nat} {x : Value} (ha : isAggP P t = some false) (hx : c[k]? = some x) (w : World) : (part t c k).run P w = .ok x w := by
  simp [part, run_isAgg ha, hx]
theorem run_partN {t : TypeId} {c : Array Value} {k n : Nat} (ha : isAggP P t = some true) (hn : sizeP P t = some n) (w : World) : (part t c k).run P w = .ok (.agg (c.extract k (k + n))) w := by
  simp [part, run_isAgg ha, run_sizeOf hn]

theorem good_field {t : TypeId} {x : Operand} {k : Nat} (ho : o.op = .field t x k) {lo : LOp LO} {lv : LOp Value} (hc : cOp P (.field t x k) = some lo) (hs : lo.sub rd = some lv) (hx : lexec q lv h = some (v, h'))
    (hr : HR ν h w) (hv : OpsR ν (.field t x k) rd ρ) : Good P o ρ ν h w v h' := by
  simp only [cOp] at hc
  split at hc
  · rename_i fs lx hu ha
    split at hc
    · rename_i f hf
      split at hc
      · rename_i n hagg hn
        cases hc
        obtain ⟨y, hy, rfl⟩ := rd1 hs
        have hva := hv x (by simp [Op.operands]) lx y ha hy
        simp only [lexec] at hx
        split at hx
        · rename_i cs
          split at hx
          · simp only [Option.some.injEq, Prod.mk.injEq] at hx
            obtain ⟨rfl, rfl⟩ := hx
            obtain ⟨cs', he⟩ := hva.agg_inv
            rw [he] at hva
            refine Good.pure hr ?_ ((VRs.of_agg hva).extract f.offset (f.offset + n))
            simp [execOp, ho, Instr.field, run_underlying hu, hf, asAgg, he, run_partN hagg hn]
          · cases hx
        · cases hx
      · rename_i n hagg hn
        cases hc
        obtain ⟨y, hy, rfl⟩ := rd1 hs
        have hva := hv x (by simp [Op.operands]) lx y ha hy
        simp only [lexec] at hx
        split at hx
        · rename_i cs
          obtain ⟨z, hz, hx⟩ := map_some hx
          simp only [Prod.mk.injEq] at hx
          obtain ⟨rfl, rfl⟩ := hx
          obtain ⟨cs', he⟩ := hva.agg_inv
          rw [he] at hva
          obtain ⟨z', hz', hvr⟩ := (VRs.of_agg hva).get (i := f.offset) (by simpa using hz)
          refine Good.pure hr ?_ hvr
          simp [execOp, ho, Instr.field, run_underlying hu, hf, asAgg, he, run_part1 hagg (show cs'[f.offset]? = some z' by simpa using hz')]
        · cases hx
      · cases hc
    · cases hc
  · cases hc

theorem good_indexAddr {t : TypeId} {x i : Operand} (ho : o.op = .indexAddr t x i) {lo : LOp LO} {lv : LOp Value} (hc : cOp P (.indexAddr t x i) = some lo) (hs : lo.sub rd = some lv) (hx : lexec q lv h = some (v, h'))
    (hr : HR ν h w) (hv : OpsR ν (.indexAddr t x i) rd ρ) : Good P o ρ ν h w v h' := by
  simp only [cOp] at hc
  split at hc
  · rename_i len e lx li hu ha hi
    obtain ⟨n, hn, rfl⟩ := map_some hc
    obtain ⟨y, z, hy, hz, rfl⟩ := sub_idxAddrA hs
    have hva := hv x (by simp [Op.operands]) lx y ha hy
    have hvi := hv i (by simp [Op.operands]) li z hi hz
    simp only [lexec] at hx
    split at hx
    · rename_i b j k ii
      split at hx
      · rename_i hb'
        simp only [Option.some.injEq, Prod.mk.injEq] at hx
        obtain ⟨rfl, rfl⟩ := hx
        obtain ⟨pl, hb, he⟩ := hva.ptr_inv
        refine Good.pure hr (v' := .pointer (some ⟨pl.B, pl.base + (j + ii.toNat * n), none⟩)) ?_ (.ptr hb)
        simp [execOp, ho, Instr.indexAt, asIntOf, hvi.int_inv, run_underlying hu, Instr.sureAddr, he, hb', run_sizeOf hn, add_plain, Nat.add_assoc]
      · cases hx
    · cases hx
  · rename_i e lx li hu ha hi
    obtain ⟨n, hn, rfl⟩ := map_some hc
    obtain ⟨y, z, hy, hz, rfl⟩ := sub_idxAddrS hs
    have hva := hv x (by simp [Op.operands]) lx y ha hy
    have hvi := hv i (by simp [Op.operands]) li z hi hz
    simp only [lexec] at hx
    split at hx
    · rename_i b j m E k ii
      split at hx
      · rename_i hb'
        obtain ⟨h1, h2, h3⟩ := hb'
        simp only [Option.some.injEq, Prod.mk.injEq] at hx
        obtain ⟨rfl, rfl⟩ := hx
        have key : ∃ pl cap, ν b = some pl ∧ ρ x = .slice (some ⟨pl.B, pl.base + j, none⟩) m cap := by
          generalize ρ x = z at hva ⊢
          cases hva with
          | slice hb _ _ => exact ⟨_, _, hb, rfl⟩
          | sempty => omega
        obtain ⟨pl, cap, hb, he⟩ := key
        refine Good.pure hr (v' := .pointer (some ⟨pl.B, pl.base + (j + ii.toNat * n), none⟩)) ?_ (.ptr hb)
        simp [execOp, ho, Instr.indexAt, asIntOf, hvi.int_inv, run_underlying hu, he, h1, h2, run_sizeOf hn, add_plain, Nat.add_assoc]
      · cases hx
    · cases hx
  · cases hc

theorem good_index {t : TypeId} {x i : Operand} (ho : o.op = .index t x i) {lo : LOp LO} {lv : LOp Value} (hc : cOp P (.index t x i) = some lo) (hs : lo.sub rd = some lv) (hx : lexec q lv h = some (v, h'))
    (hr : HR ν h w) (hv : OpsR ν (.index t x i) rd ρ) : Good P o ρ ν h w v h' := by
  simp only [cOp] at hc
  split at hc
  · rename_i len e lx li hu ha hi
    split at hc
    · rename_i n hagg hn
      cases hc
      obtain ⟨y, z, hy, hz, rfl⟩ := sub_idxAN hs
      have hva := hv x (by simp [Op.operands]) lx y ha hy
      have hvi := hv i (by simp [Op.operands]) li z hi hz
      simp only [lexec] at hx
      split at hx
      · rename_i cs k ii
        split at hx
        · rename_i hb'
          obtain ⟨h1, h2, h3⟩ := hb'
          simp only [Option.some.injEq, Prod.mk.injEq] at hx
          obtain ⟨rfl, rfl⟩ := hx
          obtain ⟨cs', he⟩ := hva.agg_inv
          rw [he] at hva
          refine Good.pure hr ?_ ((VRs.of_agg hva).extract (ii.toNat * n) (ii.toNat * n + n))
          simp [execOp, ho, Instr.index, asIntOf, hvi.int_inv, run_underlying hu, he, h1, h2, run_sizeOf hn, run_partN hagg hn]
        · cases hx
      · cases hx
    · rename_i hagg hn
      cases hc
      obtain ⟨y, z, hy, hz, rfl⟩ := sub_idxA1 hs
      have hva := hv x (by simp [Op.operands]) lx y ha hy
      have hvi := hv i (by simp [Op.operands]) li z hi hz
      simp only [lexec] at hx
      split at hx
      · rename_i cs k ii
        split at hx
        · rename_i hb'
          obtain ⟨h1, h2⟩ := hb'
          obtain ⟨z, hz, hx⟩ := map_some hx
          simp only [Prod.mk.injEq] at hx
          obtain ⟨rfl, rfl⟩ := hx
          obtain ⟨cs', he⟩ := hva.agg_inv
          rw [he] at hva
          obtain ⟨z', hz', hvr⟩ := (VRs.of_agg hva).get (i := ii.toNat) (by simpa using hz)
          refine Good.pure hr ?_ hvr
          simp [execOp, ho, Instr.index, asIntOf, hvi.int_inv, run_underlying hu, he, h1, h2, run_sizeOf hn, run_part1 hagg (show cs'[ii.toNat]? = some z' by simpa using hz')]
        · cases hx
      · cases hx
    · cases hc
  · rename_i lx li hu ha hi
    cases hc
    obtain ⟨y, z, hy, hz, rfl⟩ := sub_idxStr hs
    have hva := hv x (by simp [Op.operands]) lx y ha hy
    have hvi := hv i (by simp [Op.operands]) li z hi hz
    simp only [lexec] at hx
    split at hx
    · rename_i s k ii
      split at hx
      · rename_i h1
        obtain ⟨z, hz, hx⟩ := map_some hx
        simp only [Prod.mk.injEq] at hx
        obtain ⟨rfl, rfl⟩ := hx
        refine Good.pure hr ?_ (.int _ _)
        have hz' : s[ii.toNat]? = some z := by
          have h0 : s.data[ii.toNat]? = some z := by simpa using hz
          obtain ⟨hlt, he⟩ := Array.getElem?_eq_some_iff.1 h0
          rw [getElem?_pos s ii.toNat hlt]
          exact congrArg some he
        simp [execOp, ho, Instr.index, asIntOf, hvi.int_inv, run_underlying hu, hva.str_inv, h1, hz']
      · cases hx
    · cases hx
  · cases hc

theorem good_extract {x : Operand} {i : Nat} (ho : o.op = .extract x i) {lo : LOp LO} {lv : LOp Value} (hc : (cLO x).map (LOp.extract i) = some lo) (hs : lo.sub rd = some lv) (hx : lexec q lv h = some (v, h'))
    (hr : HR ν h w) (hv : ∀ lx v, cLO x = some lx → rd lx = some v → VR ν v (ρ x)) : Good P o ρ ν h w v h' := by
  obtain ⟨lx, a, rfl⟩ := map_some hc
  obtain ⟨y, b, rfl⟩ := rd1 hs
  have hva := hv lx y a b
  simp only [lexec] at hx
  split at hx
  · rename_i vs
    obtain ⟨z, hz, hx⟩ := map_some hx
    simp only [Prod.mk.injEq] at hx
    obtain ⟨rfl, rfl⟩ := hx
    have key : ∃ vs' z', ρ x = .tuple vs' ∧ vs'[i]? = some z' ∧ VR ν z z' := by
      generalize ρ x = u at hva ⊢
      cases hva with
      | tuple hsz hh =>
        rename_i vs'
        have hlt : i < vs.size := by
          rcases Nat.lt_or_ge i vs.size with hl | hl
          · exact hl
          · simp [Array.getElem?_eq_none hl] at hz
        have h1 : vs'[i]? = some (vs'[i]'(hsz ▸ hlt)) := by simp [← hsz, hlt]
        exact ⟨vs', _, rfl, h1, hh i z _ hz h1⟩
    obtain ⟨vs', z', he, hz', hvr⟩ := key
    refine Good.pure hr ?_ hvr
    simp [execOp, ho, Instr.extract, he, hz']
  · cases hx

end
end Go.E1
