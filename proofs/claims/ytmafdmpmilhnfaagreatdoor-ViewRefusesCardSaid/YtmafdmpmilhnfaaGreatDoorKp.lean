/-
 The table of streams' states, out of what a row lists.
-/
import Derived.Test.YtmafdmpmilhnfaaGreatDoorRows
import Derived.Test.YtmafdmpmilhnfaaGreatDoorKc
import Derived.Lib.LaidTab
namespace Go.E1
open Go Go.Lib Go.Proofs

theorem flat_rows {f : Int → Value} {m : Nat} : ∀ (rows : List (List Int)) (cs : List Value), cs.length = rows.length * m → (∀ (i : Nat) (row : List Int), rows[i]? = some row → (cs.drop (i * m)).take m = row.map f) → cs = rows.flatten.map f
 | [], cs, hl, _ => by
  have : cs.length = 0 := by simpa using hl
  rw [List.length_eq_zero_iff.1 this]; rfl
 | row :: rows, cs, hl, h => by
  rw [List.length_cons, Nat.add_mul, Nat.one_mul] at hl
  have h0 := h 0 row rfl
  rw [Nat.zero_mul, List.drop_zero] at h0
  have ih := flat_rows (f := f) (m := m) rows (cs.drop m) (by rw [List.length_drop]; omega) fun i r hr => by
   have := h (i + 1) r hr
   rw [Nat.add_mul, Nat.one_mul, Nat.add_comm, ← List.drop_drop] at this
   exact this
  rw [List.flatten_cons, List.map_append, ← h0, ← ih, List.take_append_drop]

theorem cells_of_grid {H : Type} {enc : TypeId × Value → H} {P : Program} {w : World} {base : Nat} {sp : Nat → Bool} {held : Bool} {fuel : Nat} {t e s : TypeId} {n m : Nat} {k : IntKind} {cs : List Value} {rows : List (List Int)} {p : List MemPlace}
  (ht : P.underlying t = some (.array n e)) (he : P.underlying e = some (.array m s)) (hs : P.underlying s = some (.int k)) (hcs : P.cellsOf s = 1) (hce : P.cellsOf e = m) (hct : P.cellsOf t = n * m)
  (h : DataW.trod enc P w base sp held fuel t cs = some (.agg (rows.map fun r => tabData k r), p)) : cs = rows.flatten.map fun z => Value.int k z := by
 cases fuel with
 | zero => simp [DataW.trod] at h
 | succ fuel =>
  simp only [DataW.trod, ht, hce, hct] at h
  split at h
  ·rename_i hl
   obtain ⟨xs, hm, hx⟩ := Option.map_eq_some_iff.1 h
   have hxs : xs.map (·.1) = rows.map fun r => (tabData k r : DataW H) := by
    have := congrArg Prod.fst hx
    simpa using this
   have hxl : xs.length = n := by simpa using mapM_length hm
   have hrl : rows.length = n := by
    have := congrArg List.length hxs
    simp at this
    omega
   refine flat_rows rows cs (by rw [hrl]; simpa using hl) fun i row hr => ?_
   have hi : i < n := by
    rcases Nat.lt_or_ge i rows.length with q | q
    ·omega
    ·rw [List.getElem?_eq_none q] at hr; cases hr
   obtain ⟨b, hb, hf⟩ := mapM_at hm i i (by simp [hi])
   obtain ⟨b1, b2⟩ := b
   have h2 : (xs.map (·.1))[i]? = some b1 := by simp [hb]
   rw [hxs, List.getElem?_map, hr] at h2
   cases h2
   exact cells_of_tab he hs hcs hce hf
  ·cases h

theorem gridIs_of_head {P : Program} {W : World} {name : String} {k : IntKind} {rows : List (List Int)} {rest : List (String × DataW Unit)} {g : Nat} {t e s : TypeId} {n m : Nat}
  (hg : P.globalNamed name = some g) (hty : (P.globals[g]?).map (·.type) = some t) (ht : P.underlying t = some (.array n e)) (he : P.underlying e = some (.array m s)) (hs : P.underlying s = some (.int k)) (hcs : P.cellsOf s = 1) (hce : P.cellsOf e = m) (hct : P.cellsOf t = n * m)
  (h : laidMet P ((name, .agg (rows.map fun r => tabData k r)) :: rest) W) : TabIs P W name k rows.flatten := by
 obtain ⟨ps, ⟨g', t', cs, fuel, p, q, hg', ht', hvar, hd, _, _⟩, _⟩ := h
 obtain rfl := Option.some.inj (hg.symm.trans hg')
 obtain rfl := Option.some.inj (hty.symm.trans ht')
 unfold TabIs
 rw [hvar, ← cells_of_grid ht he hs hcs hce hct hd]

def stateRows : List (List Int) := [[1, -1, -1, -1, -2, -2, -2, -2, -2], [1, 1, 3, 4, 1, 1, 2, 4, 1], [2, 2, 4, 4, -3, -3, -3, 4, 2], [-1, -1, -1, 4, 3, 3, 4, 4, 3], [-1, -1, -1, -1, -3, -3, -3, 4, 4]]
theorem state_rows : stateRows.flatten = stateTab := rfl
theorem gTab : Tryz.prog.globalNamed "squint/state.table" = some 0 := by kernel_rfl
theorem table {W : World} (h : laidMet Tryz.prog [("squint/state.table", Go.Proofs.YtmafdmpmilhnfaaGreatDoor.Rows.laid_squint_state_table)] W) : TabIs Tryz.prog W "squint/state.table" .i64 stateTab := by
 rw [← state_rows]
 exact gridIs_of_head (rest := []) gTab (by kernel_rfl : (Tryz.prog.globals[0]?).map (·.type) = some 348) Tryz.underlying348 Tryz.underlying347 Tryz.underlying299 (by kernel_rfl) (by kernel_rfl) (by kernel_rfl) h
theorem globs {W : World} (h : laidMetH Tryz.prog [("squint/state.table", Go.Proofs.YtmafdmpmilhnfaaGreatDoor.Rows.laid_squint_state_table)] W) : GlW W := by
 have h' : laidMet Tryz.prog [("squint/state.table", Go.Proofs.YtmafdmpmilhnfaaGreatDoor.Rows.laid_squint_state_table)] W := h
 intro g cs hg
 unfold glob at hg
 split at hg
 ·rename_i e
  subst e
  cases hg
  have hv := table h'
  unfold TabIs World.var? at hv
  rw [gTab] at hv
  simp only [Option.bind_some] at hv
  split at hv
  ·rename_i c t f hc
   cases hv
   exact ⟨_, t, f, hc, by simp, fun i v hi => by simpa using hi⟩
  ·cases hv
 ·cases hg
end Go.E1
