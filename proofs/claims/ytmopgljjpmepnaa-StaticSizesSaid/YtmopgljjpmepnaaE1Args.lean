/-
  A law's arguments: from the row's readings to logical arguments, and from the engine's answer to the row's condition.
-/
import Derived.Test.YtmopgljjpmepnaaE1Read
import Derived.Carry
namespace Go.E1
open Go Go.RowKit Go.ChangeShapes

section
variable (P : Program)
/-- What a logical argument looks like. -/
def LArg (h : LHeap) (m : Nat) (t : TypeId) (lv : Value) : Prop :=
  (isAggP P t = some true ∧ ∃ a, lv = .agg a ∧ LRd P h m t a.toList) ∨ (isAggP P t = some false ∧ LRd P h m t [lv])

def LArgs (h : LHeap) (m : Nat) : List TypeId → List Value → Prop
  | [], [] => True
  | t :: ts, v :: vs => LArg P h m t v ∧ LArgs h m ts vs
  | _, _ => False
end

variable {P : Program}

theorem LArg.mono {h h' : LHeap} (hx : Ext h h') {m : Nat} {t : TypeId} {v : Value} (a : LArg P h m t v) : LArg P h' m t v := by
  rcases a with ⟨h1, a, rfl, h2⟩ | ⟨h1, h2⟩
  · exact .inl ⟨h1, a, rfl, h2.mono hx⟩
  · exact .inr ⟨h1, h2.mono hx⟩

theorem okForm {W : World} {r : Reach} {base m : Nat} {t : TypeId} {v : Value} (hs : simpleT P m t = true) (hv : Value.okWide P W r base t v) : (isAggP P t = some true ∧ ∃ a, v = .agg a) ∨ (isAggP P t = some false ∧ v.cells = #[v]) := by
  cases m with
  | zero => simp [simpleT] at hs
  | succ m =>
    unfold simpleT at hs
    split at hs
    · rename_i hu
      refine .inr ⟨by simp [isAggP, hu], ?_⟩
      simp only [Value.okWide, hu, Cell.okWide, Cell.ok] at hv
      cases v <;> first | rfl | (simp at hv; done)
    · rename_i hu
      refine .inr ⟨by simp [isAggP, hu], ?_⟩
      simp only [Value.okWide, hu, Cell.okWide, Cell.ok] at hv
      cases v <;> first | rfl | (simp at hv; done)
    · rename_i hu
      refine .inr ⟨by simp [isAggP, hu], ?_⟩
      simp only [Value.okWide, hu, Cell.okWide, Cell.ok] at hv
      cases v <;> first | rfl | (simp at hv; done)
    · rename_i hu
      refine .inr ⟨by simp [isAggP, hu], ?_⟩
      simp only [Value.okWide, hu, Cell.okWide, Cell.ok] at hv
      cases v <;> first | rfl | (simp at hv; done)
    · rename_i hu
      refine .inl ⟨by simp [isAggP, hu], ?_⟩
      simp only [Value.okWide, hu] at hv
      obtain ⟨cs, h1, _⟩ := hv
      exact ⟨cs, h1⟩
    · rename_i hu
      refine .inl ⟨by simp [isAggP, hu], ?_⟩
      simp only [Value.okWide, hu] at hv
      obtain ⟨cs, h1, _⟩ := hv
      exact ⟨cs, h1⟩
    · cases hs

section
variable {H : Type} {enc : TypeId × Value → H} {W : World}

theorem args_abs {r : Reach} {base m : Nat} : ∀ (ts : List TypeId) (vs : List Value) (ds : List (DataW H)) (ps : List MemPlace), DataW.TrodAll enc P W 0 (fun _ => true) true ts vs ds ps →
    (∀ (j : Nat) (t : TypeId) (v : Value), ts[j]? = some t → vs[j]? = some v → Value.okWide P W r base t v) → (ts.all fun t => simpleT P m t) = true →
    ∀ (ν : Inj) (h : LHeap), HR ν h W → RO ν h → ∃ (ν' : Inj) (h' : LHeap) (lvs : List Value), ν.le ν' ∧ Ext h h' ∧ HR ν' h' W ∧ RO ν' h' ∧ VRs ν' lvs vs ∧ LArgs P h' m ts lvs
  | [], vs, ds, ps, hA, _, _, ν, h, hr, ro => by
    obtain ⟨rfl, _, _⟩ := trodAll_nil hA
    exact ⟨ν, h, [], Inj.le_refl ν, Ext.refl h, hr, ro, .nil ν, trivial⟩
  | t :: ts, vs, ds, ps, hA, hok, hs, ν, h, hr, ro => by
    obtain ⟨v, vs', d, ds', p, q, rfl, rfl, rfl, ⟨fuel, h0⟩, r0⟩ := trodAll_cons hA
    simp only [List.all_cons, Bool.and_eq_true] at hs
    obtain ⟨ν₁, h₁, lcs, a1, a2, a3, a4, a5, a6⟩ := abs_of_trod (fun _ => rfl) m t hs.1 fuel _ _ h0 ν h hr ro
    obtain ⟨ν₂, h₂, lvs, b1, b2, b3, b4, b5, b6⟩ := args_abs ts vs' ds' q r0 (fun j t v a b => hok (j + 1) t v (by simpa using a) (by simpa using b)) hs.2 ν₁ h₁ a3 a4
    have form := okForm hs.1 (hok 0 t v rfl rfl)
    have one : ∃ lv, VR ν₂ lv v ∧ LArg P h₂ m t lv := by
      rcases form with ⟨f1, a, rfl⟩ | ⟨f1, f2⟩
      · refine ⟨.agg lcs.toArray, VRs.agg ?_, .inl ⟨f1, _, rfl, by simpa using a6.mono b2⟩⟩
        have := a5.mono b1
        simpa [Value.cells] using this
      · rw [f2] at a5
        have hl : lcs.length = 1 := a5.1
        match lcs, hl with
        | [lv], _ =>
          refine ⟨lv, ?_, .inr ⟨f1, a6.mono b2⟩⟩
          obtain ⟨v', m', e1, e2, _⟩ := a5.cons_inv
          simp only [List.cons.injEq] at e1
          rw [e1.1]
          exact e2.mono b1
    obtain ⟨lv, c1, c2⟩ := one
    exact ⟨ν₂, h₂, lv :: lvs, Inj.le_trans a1 b1, a2.trans b2, b3, b4, .cons c1 b5, c2, b6⟩

/-! ### Logical readings, opened -/
omit enc W in
theorem LRd_bool {h : LHeap} {n : Nat} {t : TypeId} {cs : List Value} (hu : P.underlying t = some .bool) (hl : LRd P h n t cs) : ∃ b, cs = [.bool b] := by
  cases n with
  | zero => exact hl.elim
  | succ n =>
    unfold LRd at hl
    rw [hu] at hl
    split at hl <;> first | exact ⟨_, rfl⟩ | (simp_all; done)
omit enc W in
theorem LRd_int {h : LHeap} {n : Nat} {t : TypeId} {cs : List Value} {k : IntKind} (hu : P.underlying t = some (.int k)) (hl : LRd P h n t cs) : ∃ i, cs = [.int k i] ∧ (Lit.int k i).wf = true := by
  cases n with
  | zero => exact hl.elim
  | succ n =>
    unfold LRd at hl
    rw [hu] at hl
    split at hl <;> first | (rename_i e; cases e; obtain ⟨rfl, hw⟩ := hl; exact ⟨_, rfl, hw⟩) | (simp_all; done)
omit enc W in
theorem LRd_string {h : LHeap} {n : Nat} {t : TypeId} {cs : List Value} (hu : P.underlying t = some .string) (hl : LRd P h n t cs) : ∃ s, cs = [.string s] ∧ s.size ≤ maxLen := by
  cases n with
  | zero => exact hl.elim
  | succ n =>
    unfold LRd at hl
    rw [hu] at hl
    split at hl <;> first | exact ⟨_, rfl, hl⟩ | (simp_all; done)
omit enc W in
theorem LRd_slice {h : LHeap} {n : Nat} {t e : TypeId} {cs : List Value} (hu : P.underlying t = some (.slice e)) (hl : LRd P h n t cs) : cs = [.slice none 0 0] ∨ ∃ b len css m, n = m + 1 ∧ cs = [.slice (some ⟨b, 0, none⟩) len (P.cellsOf e)] ∧ b < h.size ∧ h.get b = some (.cells (List.flatten css) false false) ∧ css.length = len ∧ len ≤ maxLen ∧
    ∀ c ∈ css, c.length = P.cellsOf e ∧ LRd P h m e c := by
  cases n with
  | zero => exact hl.elim
  | succ n =>
    unfold LRd at hl
    rw [hu] at hl
    split at hl
    all_goals first | exact .inl rfl | skip
    all_goals first | (rename_i e1; cases e1; obtain ⟨rfl, h1, css, h2, h3, h4, h5⟩ := hl; exact .inr ⟨_, _, css, n, rfl, rfl, h1, h2, h3, h4, h5⟩) | (simp_all; done)
omit enc W in
theorem LRd_struct {h : LHeap} {n : Nat} {t : TypeId} {fs : Array Field} {cs : List Value} (hu : P.underlying t = some (.struct fs)) (hl : LRd P h n t cs) : ∃ (m : Nat) (parts : List (List Value)), n = m + 1 ∧ cs = parts.flatten ∧ parts.length = fs.size ∧
    ∀ (i : Nat) (f : Field) (p : List Value), fs[i]? = some f → parts[i]? = some p → p.length = P.cellsOf f.type ∧ LRd P h m f.type p := by
  cases n with
  | zero => exact hl.elim
  | succ n =>
    unfold LRd at hl
    rw [hu] at hl
    split at hl
    all_goals first | (rename_i e1; cases e1; obtain ⟨parts, h1, h2, h3⟩ := hl; exact ⟨n, parts, rfl, h1, h2, h3⟩) | (simp_all; done)

omit enc W in
theorem LArgs_cons {h : LHeap} {m : Nat} {t : TypeId} {ts : List TypeId} {lvs : List Value} (hl : LArgs P h m (t :: ts) lvs) : ∃ lv r, lvs = lv :: r ∧ LArg P h m t lv ∧ LArgs P h m ts r := by
  cases lvs with
  | nil => exact hl.elim
  | cons lv r => exact ⟨lv, r, rfl, hl.1, hl.2⟩
omit enc W in
theorem LArgs_nil {h : LHeap} {m : Nat} {lvs : List Value} (hl : LArgs P h m [] lvs) : lvs = [] := by
  cases lvs with
  | nil => rfl
  | cons lv r => exact hl.elim

/-- A law over whatever simple arguments. -/
theorem law_any {E : Env} (hE : EnvOk P E) {f : FuncId} {m : Nat} {ts : Array TypeId} (hs : (ts.toList.all fun t => simpleT P m t) = true) (hlaw : ∀ h lvs, LArgs P h m ts.toList lvs → LCalls E f lvs h fun v _ => v = .bool true)
    {r : Reach} {base : Nat} {args : Array Value} {ds : List (DataW H)} {ps : List MemPlace} (hA : DataW.TrodAll enc P W 0 (fun _ => true) true ts.toList args.toList ds ps)
    (hok : ∀ (j : Nat) (t : TypeId) (v : Value), ts[j]? = some t → args[j]? = some v → Value.okWide P W r base t v) :
    Calls P f args W fun e w' => e = .returned (.bool true) ∧ Below W.heap.size W w' := by
  obtain ⟨ν, h, lvs, _, _, hr, ro, hv, hl⟩ := args_abs (m := m) ts.toList args.toList ds ps hA (fun j t v a b => hok j t v (by simpa using a) (by simpa using b)) hs _ LHeap.empty (HR.none W _) (fun _ _ h => (nomatch h))
  exact (hlaw h lvs hl).law hE hr hv ro
end

end Go.E1
