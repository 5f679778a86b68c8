/-
  Comparisons, conversions, addresses, parts.
-/
import Derived.Test.YtmopgljjpmepnaaE1Snd2
import Derived.Lib.ConvBytes
import Derived.Laws.BytesArg
namespace Go.E1
open Go

section
variable {P : Program} {q : EqF} {o : Oper} {ρ : Operand → Value} {ν : Inj} {h h' : LHeap} {w : World} {v : Value} {rd : LO → Option Value}

theorem eqOr_cases {op : BinOp} {b : Bool} {x : Value} (hx : eqOr op b = some x) : (op = .eql ∧ x = .bool b) ∨ (op = .neq ∧ x = .bool (!b)) := by
  cases op <;> simp [eqOr] at hx
  · exact .inl ⟨rfl, hx.symm⟩
  · exact .inr ⟨rfl, hx.symm⟩

theorem run_eqOr {op : BinOp} {b : Bool} {x : Value} (hx : eqOr op b = some x) {t : TypeId} {a c : Value} (hne : ∀ k n, a ≠ .int k n) (hns : ∀ s, a ≠ .string s) (hnf : ∀ k n, a ≠ .float k n) (hnc : ∀ k n m, a ≠ .complex k n m)
    (he : (Op.equal t a c).run P w = .ok b w) : (binOp op t a c).run P w = .ok x w := by
  rcases eqOr_cases hx with ⟨rfl, rfl⟩ | ⟨rfl, rfl⟩
  · have : binOp .eql t a c = (do pure (.bool (← Op.equal t a c))) := by
      unfold binOp
      split <;> first | rfl | exact absurd rfl (hne _ _) | exact absurd rfl (hns _) | exact absurd rfl (hnf _ _) | exact absurd rfl (hnc _ _ _) | contradiction | simp_all
    simp [this, he]
  · have : binOp .neq t a c = (do pure (.bool (!(← Op.equal t a c)))) := by
      unfold binOp
      split <;> first | rfl | exact absurd rfl (hne _ _) | exact absurd rfl (hns _) | exact absurd rfl (hnf _ _) | exact absurd rfl (hnc _ _ _) | contradiction | simp_all
    simp [this, he]

theorem run_guard_free {op : BinOp} {t : TypeId} {x y : Operand} {a b : Value} (h1 : a ≠ .nilIface ∨ b ≠ .nilIface) (h2 : (∀ c, a ≠ .agg c) ∨ ∀ c, b ≠ .agg c) : (eqGuard op t x y a b).run P w = .ok () w := by
  unfold eqGuard
  split
  · simp only [Bool.not_true, Bool.false_eq_true, if_false]
    split
    · simp at h1
    · simp at h2
    · rfl
  · simp only [Bool.not_true, Bool.false_eq_true, if_false]
    split
    · simp at h1
    · simp at h2
    · rfl
  · rfl

theorem cEq_spec {t : TypeId} {e : EqT} (he : cEq P t = some e) :
    e = .basic ∨ (e = .bool ∧ P.underlying t = some .bool) ∨ (e = .ptr ∧ ∃ x, P.underlying t = some (.pointer x)) ∨
    (e = .slice ∧ ∃ x, P.underlying t = some (.slice x)) ∨ (e = .map ∧ ∃ x y, P.underlying t = some (.map x y)) ∨ (e = .func ∧ ∃ x y z, P.underlying t = some (.func x y z)) ∨ e = .typed t := by
  unfold cEq at he
  split at he <;> simp_all

theorem run_equal_bool {t : TypeId} {a b : Bool} (hu : P.underlying t = some .bool) : (Op.equal t (.bool a) (.bool b)).run P w = .ok (a == b) w := by
  unfold Op.equal Op.maxDepth
  rw [Op.equalIn]
  simp [run_underlying hu]
theorem run_equal_pnil {t x : TypeId} {b : Option Addr} (hu : P.underlying t = some (.pointer x)) : (Op.equal t (.pointer none) (.pointer b)).run P w = .ok b.isNone w := by
  unfold Op.equal Op.maxDepth
  rw [Op.equalIn]
  simp [run_underlying hu]
theorem run_equal_pnil' {t x : TypeId} {a : Addr} (hu : P.underlying t = some (.pointer x)) : (Op.equal t (.pointer (some a)) (.pointer none)).run P w = .ok false w := by
  unfold Op.equal Op.maxDepth
  rw [Op.equalIn]
  simp [run_underlying hu]
theorem run_equal_snil {t x : TypeId} {b : Option Addr} {n c m d : Nat} (hu : P.underlying t = some (.slice x)) : (Op.equal t (.slice none n c) (.slice b m d)).run P w = .ok b.isNone w := by
  unfold Op.equal Op.maxDepth
  rw [Op.equalIn]
  simp [run_underlying hu]
theorem run_equal_snil' {t x : TypeId} {a : Addr} {n c m d : Nat} (hu : P.underlying t = some (.slice x)) : (Op.equal t (.slice (some a) n c) (.slice none m d)).run P w = .ok false w := by
  unfold Op.equal Op.maxDepth
  rw [Op.equalIn]
  simp [run_underlying hu]
theorem run_equal_mnil {t x y : TypeId} {b : Option Nat} (hu : P.underlying t = some (.map x y)) : (Op.equal t (.map none) (.map b)).run P w = .ok b.isNone w := by
  unfold Op.equal Op.maxDepth
  rw [Op.equalIn]
  simp [run_underlying hu]
theorem run_equal_mnil' {t x y : TypeId} {a : Nat} (hu : P.underlying t = some (.map x y)) : (Op.equal t (.map (some a)) (.map none)).run P w = .ok false w := by
  unfold Op.equal Op.maxDepth
  rw [Op.equalIn]
  simp [run_underlying hu]

theorem VR.int_inv {k : IntKind} {n : Int} {x : Value} (h : VR ν (.int k n) x) : x = .int k n := by cases h; rfl
theorem VR.str_inv {s : ByteArray} {x : Value} (h : VR ν (.string s) x) : x = .string s := by cases h; rfl
theorem VR.bool_inv {b : Bool} {x : Value} (h : VR ν (.bool b) x) : x = .bool b := by cases h; rfl
theorem VR.pointer_inv {p : Option Addr} {x : Value} (h : VR ν (.pointer p) x) : ∃ p', x = .pointer p' ∧ p'.isNone = p.isNone := by
  cases h
  · exact ⟨none, rfl, rfl⟩
  · exact ⟨some _, rfl, rfl⟩
theorem VR.slice_inv {p : Option Addr} {n c : Nat} {x : Value} (h : VR ν (.slice p n c) x) : ∃ p' d, x = .slice p' n d ∧ p'.isNone = p.isNone := by
  cases h
  · exact ⟨none, 0, rfl, rfl⟩
  · exact ⟨some _, _, rfl, rfl⟩
  · exact ⟨some _, 0, rfl, rfl⟩
theorem VR.map_inv {p : Option Nat} {x : Value} (h : VR ν (.map p) x) : ∃ p', x = .map p' ∧ p'.isNone = p.isNone := by
  cases h
  · exact ⟨none, rfl, rfl⟩
  · exact ⟨some _, rfl, rfl⟩
theorem VR.agg_inv {c : Array Value} {x : Value} (h : VR ν (.agg c) x) : ∃ c', x = .agg c' := by cases h; exact ⟨_, rfl⟩

theorem good_bin (hq : QOk P q) {op : BinOp} {t yt : TypeId} {x y : Operand} (ho : o.op = .binOp op t x y yt) {lo : LOp LO} {lv : LOp Value} (hc : cOp P (.binOp op t x y yt) = some lo) (hs : lo.sub rd = some lv) (hx : lexec q lv h = some (v, h'))
    (hr : HR ν h w) (hv : OpsR ν (.binOp op t x y yt) rd ρ) : Good P o ρ ν h w v h' := by
  simp only [cOp] at hc
  split at hc
  case h_2 => cases hc
  rename_i e lx ly he hlx hly
  cases hc
  obtain ⟨a, b, ha, hb, rfl⟩ := sub_bin hs
  have hva := hv x (by simp [Op.operands]) lx a hlx ha
  have hvb := hv y (by simp [Op.operands]) ly b hly hb
  simp only [lexec] at hx
  obtain ⟨r, hlb, hx⟩ := map_some hx
  simp only [Prod.mk.injEq] at hx
  obtain ⟨rfl, rfl⟩ := hx
  have hcase := cEq_spec he
  suffices ∃ r', VR ν r r' ∧ (binOp op t (ρ x) (ρ y)).run P w = .ok r' w ∧ (eqGuard op t x y (ρ x) (ρ y)).run P w = .ok () w by
    obtain ⟨r', h1, h2, h3⟩ := this
    refine Good.pure hr (v' := r') ?_ h1
    simp [execOp, ho, h2, h3]
  have hbool : ∀ {op : BinOp} {b : Bool} {r : Value}, eqOr op b = some r → VR ν r r := fun h => by
    rcases eqOr_cases h with ⟨_, rfl⟩ | ⟨_, rfl⟩ <;> exact .bool _
  unfold lbin at hlb
  split at hlb
  · -- integers
    rw [hva.int_inv, hvb.int_inv]
    split at hlb
    · refine ⟨r, ?_, run_ishift hlb t, run_guard_free (.inl (by simp)) (.inl (by simp))⟩
      unfold ishift at hlb
      split at hlb
      · cases hlb
      · split at hlb <;> first | (cases hlb; exact .int _ _) | cases hlb
    · rename_i hsh
      split at hlb
      · rename_i hk
        subst hk
        refine ⟨r, ?_, run_ibin hlb (by simpa using hsh) t, run_guard_free (.inl (by simp)) (.inl (by simp))⟩
        unfold ibin at hlb
        split at hlb <;> first | (cases hlb; first | exact .int _ _ | exact .bool _) | (split at hlb <;> first | (cases hlb; exact .int _ _) | cases hlb) | cases hlb
      · cases hlb
  · -- strings
    rw [hva.str_inv, hvb.str_inv]
    refine ⟨r, ?_, run_sbin hlb t, run_guard_free (.inl (by simp)) (.inl (by simp))⟩
    unfold sbin at hlb
    split at hlb <;> first | (cases hlb; exact .bool _) | (split at hlb <;> first | (cases hlb; exact .string _) | cases hlb) | cases hlb
  · -- bools
    rw [hva.bool_inv, hvb.bool_inv]
    split at hlb
    · have hr' := hbool hlb
      rcases hcase with hh | ⟨_, hu⟩ | ⟨hh, _⟩ | ⟨hh, _⟩ | ⟨hh, _⟩ | ⟨hh, _⟩ | hh
      · cases hh
      · exact ⟨r, hr', run_eqOr hlb (by simp) (by simp) (by simp) (by simp) (run_equal_bool hu), run_guard_free (.inl (by simp)) (.inl (by simp))⟩
      all_goals cases hh
    · cases hlb
  · -- pointers
    obtain ⟨p1, e1, n1⟩ := hva.pointer_inv
    obtain ⟨p2, e2, n2⟩ := hvb.pointer_inv
    rw [e1, e2]
    split at hlb
    · rename_i b'
      have hr' := hbool hlb
      rcases hcase with hh | ⟨hh, _⟩ | ⟨_, z, hu⟩ | ⟨hh, _⟩ | ⟨hh, _⟩ | ⟨hh, _⟩ | hh
      all_goals first | cases hh | skip
      have : p1 = none := by simpa using n1
      subst this
      rw [← n2] at hlb
      exact ⟨r, hr', run_eqOr hlb (by simp) (by simp) (by simp) (by simp) (run_equal_pnil hu), run_guard_free (.inl (by simp)) (.inl (by simp))⟩
    · have hr' := hbool hlb
      rcases hcase with hh | ⟨hh, _⟩ | ⟨_, z, hu⟩ | ⟨hh, _⟩ | ⟨hh, _⟩ | ⟨hh, _⟩ | hh
      all_goals first | cases hh | skip
      have : p2 = none := by simpa using n2
      subst this
      cases p1 with
      | none => simp at n1
      | some p1 => exact ⟨r, hr', run_eqOr hlb (by simp) (by simp) (by simp) (by simp) (run_equal_pnil' hu), run_guard_free (.inl (by simp)) (.inl (by simp))⟩
    · cases hlb
  · -- slices
    obtain ⟨p1, d1, e1, n1⟩ := hva.slice_inv
    obtain ⟨p2, d2, e2, n2⟩ := hvb.slice_inv
    rw [e1, e2]
    split at hlb
    · rename_i b'
      have hr' := hbool hlb
      rcases hcase with hh | ⟨hh, _⟩ | ⟨hh, _⟩ | ⟨_, z, hu⟩ | ⟨hh, _⟩ | ⟨hh, _⟩ | hh
      all_goals first | cases hh | skip
      have : p1 = none := by simpa using n1
      subst this
      rw [← n2] at hlb
      exact ⟨r, hr', run_eqOr hlb (by simp) (by simp) (by simp) (by simp) (run_equal_snil hu), run_guard_free (.inl (by simp)) (.inl (by simp))⟩
    · have hr' := hbool hlb
      rcases hcase with hh | ⟨hh, _⟩ | ⟨hh, _⟩ | ⟨_, z, hu⟩ | ⟨hh, _⟩ | ⟨hh, _⟩ | hh
      all_goals first | cases hh | skip
      have : p2 = none := by simpa using n2
      subst this
      cases p1 with
      | none => simp at n1
      | some p1 => exact ⟨r, hr', run_eqOr hlb (by simp) (by simp) (by simp) (by simp) (run_equal_snil' hu), run_guard_free (.inl (by simp)) (.inl (by simp))⟩
    · cases hlb
  · -- maps
    obtain ⟨p1, e1, n1⟩ := hva.map_inv
    obtain ⟨p2, e2, n2⟩ := hvb.map_inv
    rw [e1, e2]
    split at hlb
    · rename_i b'
      have hr' := hbool hlb
      rcases hcase with hh | ⟨hh, _⟩ | ⟨hh, _⟩ | ⟨hh, _⟩ | ⟨_, z, z', hu⟩ | ⟨hh, _⟩ | hh
      all_goals first | cases hh | skip
      have : p1 = none := by simpa using n1
      subst this
      rw [← n2] at hlb
      exact ⟨r, hr', run_eqOr hlb (by simp) (by simp) (by simp) (by simp) (run_equal_mnil hu), run_guard_free (.inl (by simp)) (.inl (by simp))⟩
    · have hr' := hbool hlb
      rcases hcase with hh | ⟨hh, _⟩ | ⟨hh, _⟩ | ⟨hh, _⟩ | ⟨_, z, z', hu⟩ | ⟨hh, _⟩ | hh
      all_goals first | cases hh | skip
      have : p2 = none := by simpa using n2
      subst this
      cases p1 with
      | none => simp at n1
      | some p1 => exact ⟨r, hr', run_eqOr hlb (by simp) (by simp) (by simp) (by simp) (run_equal_mnil' hu), run_guard_free (.inl (by simp)) (.inl (by simp))⟩
    · cases hlb
  · -- structs and arrays
    split at hlb
    · rename_i t'
      split at hlb
      · rename_i c hqc
        have hr' := hbool hlb
        have ht : t' = t := by
          rcases hcase with hh | ⟨hh, _⟩ | ⟨hh, _⟩ | ⟨hh, _⟩ | ⟨hh, _⟩ | ⟨hh, _⟩ | hh
          all_goals first | (cases hh; rfl) | cases hh
        subst ht
        have heq := hq.eq _ _ _ _ hqc ν (ρ x) (ρ y) w hva hvb
        have hgu := hq.guard _ _ _ _ hqc
        obtain ⟨c1, e1⟩ := hva.agg_inv
        obtain ⟨c2, e2⟩ := hvb.agg_inv
        rw [e1, e2] at heq ⊢
        refine ⟨r, hr', run_eqOr hlb (by simp) (by simp) (by simp) (by simp) heq, ?_⟩
        unfold eqGuard
        split <;> simp [hgu]
      · cases hlb
    · cases hlb
  · cases hlb

end
end Go.E1
