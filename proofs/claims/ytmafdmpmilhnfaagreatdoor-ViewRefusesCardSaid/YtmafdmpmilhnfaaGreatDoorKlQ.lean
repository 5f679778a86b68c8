/-
  Code of the engine that is computed from the loaded functions.
-/
import Derived.Test.YtmafdmpmilhnfaaGreatDoorKd
namespace Go.E1
open Go
def cq : Option LFunc → LFunc
  | some l => l
  | none => ⟨0, [], .bad⟩
theorem cq_ok {o : Option LFunc} (h : o.isSome = true) : o = some (cq o) := by
  cases o with
  | none => cases h
  | some l => rfl
theorem tcons {P : Program} {n : FuncId} {lf : LFunc} {l : List (FuncId × LFunc)} {fn : Func} {ks : List (List Nat)} {nt : List FuncId} (h1 : P.funcs[n]? = some fn) (h2 : cFunc P fn ks nt = some lf)
 (hs : ∀ p ∈ l, ∃ fn ks nt, P.funcs[p.1]? = some fn ∧ cFunc P fn ks nt = some p.2) : ∀ p ∈ (n, lf) :: l, ∃ fn ks nt, P.funcs[p.1]? = some fn ∧ cFunc P fn ks nt = some p.2 :=
  List.forall_mem_cons.2 ⟨⟨fn, ks, nt, h1, h2⟩, hs⟩
end Go.E1
