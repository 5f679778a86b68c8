/-
  From the engine's answer at a call to what a law's row asks.
-/
import Derived.Test.YtmopgljjpmepnaaE1Eq
import Derived.Below
namespace Go.E1
open Go Go.RowKit

theorem HR.none (w : World) (h : LHeap) : HR (fun _ => Option.none) h w :=
  ⟨fun _ _ h => (nomatch h), fun _ _ h => (nomatch h), fun _ _ _ _ h => (nomatch h), fun _ _ h => (nomatch h)⟩

/-- Nothing writable was handed in: what was there is as it was. -/
theorem Step.below {ν ν' : Inj} {h h' : LHeap} {w w' : World} (s : Step ν h w ν' h' w') (ro : ∀ b pl, ν b = some pl → LObj.writable (h.get b) = false) : Below w.heap.size w w' :=
  ⟨s.os, s.tape, s.output, s.size, fun k hk => s.frame k hk fun b pl hb _ => ro b pl hb⟩

/-- A law that is true, over arguments that are only read. -/
theorem LCalls.law {P : Program} {E : Env} (hE : EnvOk P E) {f : FuncId} {args : List Value} {h : LHeap} {args' : Array Value} {ν : Inj} {w : World}
    (a : LCalls E f args h fun v _ => v = .bool true) (hr : HR ν h w) (hv : VRs ν args args'.toList) (ro : ∀ b pl, ν b = some pl → LObj.writable (h.get b) = false) :
    Calls P f args' w fun e w' => e = .returned (.bool true) ∧ Below w.heap.size w w' := by
  obtain ⟨v, h', ⟨_, hs⟩, rfl⟩ := a.sound hE
  refine (hs ν w args' hr hv).mono ?_
  rintro e w' ⟨ν', v', rfl, hv', _, hst⟩
  cases hv'
  exact ⟨rfl, hst.below ro⟩

/-- Over plain arguments. -/
theorem LCalls.law0 {P : Program} {E : Env} (hE : EnvOk P E) {f : FuncId} {args : Array Value} {w : World}
    (a : LCalls E f args.toList LHeap.empty fun v _ => v = .bool true) (hv : VRs (fun _ => Option.none) args.toList args.toList) :
    Calls P f args w fun e w' => e = .returned (.bool true) ∧ Below w.heap.size w w' :=
  a.law hE (HR.none w _) hv fun b pl h => by cases h

end Go.E1
