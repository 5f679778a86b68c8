/-
  StaticNames, over the engine's answer.
-/
import Derived.Test.YtmopgljjpmepnaaS05Fn
namespace Go.E1
open Go Go.Proofs Go.RowKit
set_option linter.unusedSimpArgs false

theorem Sound.law {P : Program} {f : FuncId} {args : Array Value} {w : World} (hs : ∃ h₁, Sound P f args.toList LHeap.empty (.bool true) h₁) (hv : VRs (fun _ => Option.none) args.toList args.toList) :
    Calls P f args w fun e w' => e = .returned (.bool true) ∧ Below w.heap.size w w' := by
  obtain ⟨h', _, hs⟩ := hs
  refine (hs _ w args (HR.none w _) hv).mono ?_
  rintro e w' ⟨ν', v', rfl, hv', _, hst⟩
  cases hv'
  exact ⟨rfl, hst.below fun _ _ h => (nomatch h)⟩

theorem run5 : (List.range 61).all (fun n => isRun E05b 100 5 [.int .i64 (n + 1 : Nat)] (.bool true)) = true := by kernel_rfl

theorem out5 (i : Int) (hi : ¬ (1 ≤ i ∧ i ≤ 61)) : LCalls E05b 5 [.int .i64 i] LHeap.empty fun v _ => v = .bool true := by
  refine LCalls.enter (lf := lf5) rfl rfl (by simp [lf5]) ?_
  by_cases h1 : i < 1
  · simp only [go_sem, lf5, ↓reduceIte, hi, h1, pairV]
  · have h2 : 61 < i := by omega
    simp only [go_sem, lf5, ↓reduceIte, hi, h1, h2, pairV]

theorem staticNames (i : Int) : ∃ h₁, Sound Try.prog 5 [.int .i64 i] LHeap.empty (.bool true) h₁ := by
  by_cases hi : 1 ≤ i ∧ i ≤ 61
  · have := all_range run5 (i := (i - 1).toNat) (by omega)
    rw [show (((i - 1).toNat + 1 : Nat) : Int) = i by omega] at this
    exact isRun_sound E05b_ok this
  · obtain ⟨u, h1, hs, rfl⟩ := (out5 i hi).sound E05b_ok
    exact ⟨h1, hs⟩

end Go.E1
