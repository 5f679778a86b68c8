/-
  StaticGets, over the engine's answer.
-/
import Derived.Test.YtmopgljjpmepnaaS05Fn
namespace Go.E1
open Go Go.Proofs
set_option linter.unusedSimpArgs false

theorem ent_ix : (List.range 61).all (fun n => fieldIx (ent n).1 (ent n).2 == (n + 1 : Nat)) = true := by kernel_rfl
@[go_sem] theorem fEq_self (a b : ByteArray) : fEq a b (a, b) = true := by simp [fEq]

theorem staticGets (i : Int) : LCalls E05b 3 [.int .i64 i] LHeap.empty fun v _ => v = .bool true := by
  refine LCalls.enter (lf := lf3) rfl rfl (by simp [lf3]) ?_
  by_cases hi : 1 ≤ i ∧ i ≤ 61
  · have h1 : ¬ i < 1 := by omega
    have h2 : ¬ 61 < i := by omega
    have hx := all_range ent_ix (i := (i - 1).toNat) (by omega)
    rw [beq_iff_eq, show (((i - 1).toNat + 1 : Nat) : Int) = i by omega] at hx
    have h0 : 0 < i := by omega
    simp only [go_sem, lf3, ↓reduceIte, hi, h1, h2, hx, h0, pairV]
  · by_cases h1 : i < 1
    · simp only [go_sem, lf3, ↓reduceIte, hi, h1, pairV]
    · have h2 : 61 < i := by omega
      simp only [go_sem, lf3, ↓reduceIte, hi, h1, h2, pairV]

end Go.E1
