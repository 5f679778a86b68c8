/-
  Copying; the least and the greatest; all operations together.
-/
import Derived.Test.YtmopgljjpmepnaaE1Snd7
namespace Go.E1
open Go

section
variable {P : Program} {q : EqF} {o : Oper} {ρ : Operand → Value} {ν : Inj} {h h' : LHeap} {w : World} {v : Value} {rd : LO → Option Value}

theorem good_copy {args : Array Operand} {ts : Array TypeId} (ho : o.op = .call { callee := .builtin .copy, args, argTypes := ts }) {l : List LO} {lo : LOp LO} {lv : LOp Value} (hl : LOp.listM cLO args.toList = some l)
    (hc : cBuiltin P .copy ts l = some lo) (hs : lo.sub rd = some lv) (hx : lexec q lv h = some (v, h')) (hr : HR ν h w) (hv : OpsR ν o.op rd ρ) : Good P o ρ ν h w v h' := by
  rcases l with _ | ⟨x, _ | ⟨y, _ | ⟨z, l⟩⟩⟩
  · simp [cBuiltin] at hc
  · simp [cBuiltin] at hc
  · obtain ⟨D, S, rfl, hD, hS⟩ := listM2 hl
    have hvD := hv D (by rw [ho]; simp [Op.operands, Call.operands]) x
    have hvS := hv S (by rw [ho]; simp [Op.operands, Call.operands]) y
    have hb : ∀ c, builtin .copy ts o.type c (#[D, S].map ρ) = (do pure (.value (← Builtin.copy_ ts o.type #[ρ D, ρ S]))) := fun c => by simp [builtin]
    have key : ∃ t e n, ts[0]? = some t ∧ P.underlying t = some (.slice e) ∧ sizeP P e = some n ∧ n ≠ 0 ∧ lo = .copy n x y := by
      simp only [cBuiltin] at hc
      cases h0 : ts[0]? with
      | none => simp [h0] at hc
      | some t =>
        rw [h0] at hc
        simp only [Option.bind_some] at hc
        split at hc
        · rename_i e hu
          split at hc
          · rename_i n hn
            split at hc
            · cases hc
            · rename_i hn0
              cases hc
              exact ⟨t, e, n, rfl, hu, hn, hn0, rfl⟩
          · cases hc
        · cases hc
    obtain ⟨t, e, n, ht0, hu, hn, hn0, rfl⟩ := key
    obtain ⟨i, hi, rfl⟩ := sizeP_spec hn
    obtain ⟨d, s, hs1, hs2, rfl⟩ := sub_copy hs
    have hvd := hvD d hD hs1
    have hvs := hvS s hS hs2
    simp only [lexec] at hx
    have hlen : ∀ {m : Nat} {cs : List Value}, h.firstCells i.size s = some (m, cs) → (Builtin.lenOf (ρ S)).run P w = .ok m w := by
      intro m cs hf
      unfold LHeap.firstCells at hf
      split at hf
      · cases hf
        generalize ρ S = u at hvs ⊢
        cases hvs; rfl
      · rename_i b0 k0 n0 E0
        split at hf
        · have hm : m = n0 := by
            split at hf
            · rename_i h0; cases hf; exact h0.symm
            · obtain ⟨_, _, hh⟩ := map_some hf; cases hh; rfl
          subst hm
          obtain ⟨p, c, he, _⟩ := hvs.slice_inv
          rw [he]; rfl
        · cases hf
      · split at hf
        · cases hf; rw [hvs.str_inv]; rfl
        · cases hf
      · cases hf
    have hfirst0 : (Builtin.firstCells i.size 0 (ρ S)).run P w = .ok #[] w := by
      have : ∃ r, h.firstCells i.size s = some r := by
        cases hf : h.firstCells i.size s with
        | some r => exact ⟨r, rfl⟩
        | none =>
          rw [hf] at hx
          split at hx
          · rename_i hh; cases hh
          · rename_i hh; cases hh
          · cases hx
      obtain ⟨⟨m, cs⟩, hf⟩ := this
      unfold LHeap.firstCells at hf
      split at hf
      · have : ρ S = .slice none 0 0 := by
          generalize ρ S = u at hvs ⊢
          cases hvs; rfl
        rw [this]
        exact run_firstCells_none w i.size 0 0 0
      · obtain ⟨p, c, he, hp⟩ := hvs.slice_inv
        rw [he]
        cases p with
        | none => simp at hp
        | some p => exact run_firstCells_some w i.size 0 p _ c [] (by simp) (by simp)
      · rw [hvs.str_inv]
        simp [Builtin.firstCells]
      · cases hf
    split at hx
    · rename_i E r hf
      obtain ⟨m, cs⟩ := r
      simp only [Option.some.injEq, Prod.mk.injEq] at hx
      obtain ⟨rfl, rfl⟩ := hx
      have he : ρ D = .slice none 0 0 := by
        generalize ρ D = u at hvd ⊢
        cases hvd; rfl
      refine Good.pure hr (bi_run ho hb ?_) (.int _ _)
      simp [Builtin.copy_, ht0, run_underlying hu, he, hlen hf, sizeOf, typeInfo, hi, hfirst0, goInt]
    · rename_i b k dn E m cs hf
      split at hx
      · rename_i hE
        subst hE
        split at hx
        · rename_i hmin
          simp only [Option.some.injEq, Prod.mk.injEq] at hx
          obtain ⟨rfl, rfl⟩ := hx
          obtain ⟨p, c, he, hp⟩ := hvd.slice_inv
          cases p with
          | none => simp at hp
          | some p =>
            refine Good.pure hr (bi_run ho hb ?_) (.int _ _)
            have hmin' : Nat.min m dn = 0 := hmin
            simp [Builtin.copy_, ht0, run_underlying hu, he, hlen hf, sizeOf, typeInfo, hi, hmin', hfirst0, goInt, Go.storeCells]
        · rename_i hmin
          obtain ⟨h2, hst, hx⟩ := map_some hx
          simp only [Prod.mk.injEq] at hx
          obtain ⟨rfl, rfl⟩ := hx
          have hDx : ∃ pl cap, ν b = some pl ∧ ρ D = .slice (some ⟨pl.B, pl.base + k, none⟩) dn cap := by
            generalize ρ D = u at hvd ⊢
            cases hvd with
            | slice hb _ _ => exact ⟨_, _, hb, rfl⟩
            | sempty => exact absurd (Nat.min_zero m) hmin
          obtain ⟨pl, cap, hbp, he⟩ := hDx
          have hcl := firstCells_len hf
          have hmm : min m dn ≤ m := Nat.min_le_left _ _
          -- the source's first cells, really
          have hsrc : ∃ cs', VRs ν cs cs' ∧ (Builtin.firstCells i.size (min m dn) (ρ S)).run P w = .ok (cs'.take (min m dn * i.size)).toArray w := by
            unfold LHeap.firstCells at hf
            split at hf
            · cases hf; exact absurd (Nat.zero_min dn) hmin
            · rename_i b2 k2 sn E2
              split at hf
              · rename_i hE2
                subst hE2
                split at hf
                · cases hf; exact absurd (Nat.zero_min dn) hmin
                · obtain ⟨vs, hvs', hh⟩ := map_some hf
                  cases hh
                  generalize ρ S = u at hvs ⊢
                  cases hvs with
                  | slice hb2 hle hfin =>
                    rename_i cap2 pl2
                    obtain ⟨hl, cs', hvr, hcell⟩ := hr.loadCells hvs' hb2
                    refine ⟨cs', hvr, ?_⟩
                    have hmul : min m dn * i.size ≤ m * i.size := Nat.mul_le_mul_right _ hmm
                    refine run_firstCells_some w i.size (min m dn) _ m cap2 _ ?_ ?_
                    · rw [List.length_take, ← hvr.1, hl]; omega
                    · intro j u hj
                      rw [List.getElem?_take] at hj
                      split at hj
                      · rw [add_plain]; exact hcell j u hj
                      · cases hj
                  | sempty => exact absurd (Nat.zero_min dn) hmin
              · cases hf
            · rename_i str
              split at hf
              · rename_i h1
                cases hf
                rw [hvs.str_inv]
                refine ⟨byteCells str, ?_, ?_⟩
                · refine ⟨by simp [byteCells], ?_⟩
                  intro i v v' h1 h2
                  have : (byteCells str)[i]? = some v := h1
                  rw [this] at h2
                  cases h2
                  simp only [List.getElem?_map, Option.map_eq_some_iff] at h1
                  obtain ⟨b, _, rfl⟩ := h1
                  exact .int _ _
                · rw [h1]
                  simp only [Builtin.firstCells, Nat.mul_one, Sem.run_pure]
                  congr 1
                  apply Array.ext'
                  simp [byteCells]
              · cases hf
            · cases hf
          obtain ⟨cs', hvr, hfst⟩ := hsrc
          obtain ⟨hrun, hh, hstep⟩ := hr.storeCells hbp hst (hvr.take (min m dn * i.size)) P
          refine ⟨ν, _, _, .inl (bi_run ho hb ?_), .int _ _, hh, hstep⟩
          have hfst' : (Builtin.firstCells i.size (Nat.min m dn) (ρ S)).run P w = .ok (cs'.take (min m dn * i.size)).toArray w := hfst
          have hrun' : (Go.storeCells ⟨pl.B, pl.base + k, none⟩ (cs'.take (min m dn * i.size))).run P w = .ok () (w.setCells pl.B (pl.base + k) (cs'.take (min m dn * i.size))) := hrun
          simp [Builtin.copy_, ht0, run_underlying hu, he, hlen hf, sizeOf, typeInfo, hi, hfst', hrun', goInt]
      · cases hx
    · cases hx
  · simp [cBuiltin] at hc

end
end Go.E1
