/-
  Words for the engine's code, and tables of it.
-/
import Derived.Test.YtmafdmpmilhnfaaGreatDoorKd
namespace Go.E1
open Go
/-- What is kept behind each region, in the code's order. -/
def ksOf : LCode → List (List Nat)
  | .region _ k => [k]
  | .dregion _ k => [k]
  | .seq a b => ksOf a ++ ksOf b
  | .cond _ a b => ksOf a ++ ksOf b
  | .block _ a => ksOf a
  | .loop a => ksOf a
  | _ => []
theorem tcons {P : Program} {n : FuncId} {lf : LFunc} {l : List (FuncId × LFunc)} {fn : Func} {ks : List (List Nat)} {nt : List FuncId} (h1 : P.funcs[n]? = some fn) (h2 : cFunc P fn ks nt = some lf)
 (hs : ∀ p ∈ l, ∃ fn ks nt, P.funcs[p.1]? = some fn ∧ cFunc P fn ks nt = some p.2) : ∀ p ∈ (n, lf) :: l, ∃ fn ks nt, P.funcs[p.1]? = some fn ∧ cFunc P fn ks nt = some p.2 :=
  List.forall_mem_cons.2 ⟨⟨fn, ks, nt, h1, h2⟩, hs⟩
@[go_sem] def qm (d a : Nat) : LOper := ⟨some d, .op (.mov (.t a)), none⟩
@[go_sem] def qmy (g d a : Nat) : LOper := ⟨some d, .op (.mov (.t a)), some (g, true)⟩
@[go_sem] def qmn (g d a : Nat) : LOper := ⟨some d, .op (.mov (.t a)), some (g, false)⟩
@[go_sem] def ql (d a : Nat) : LOper := ⟨some d, .op (.load1 (.t a)), none⟩
@[go_sem] def qly (g d a : Nat) : LOper := ⟨some d, .op (.load1 (.t a)), some (g, true)⟩
@[go_sem] def qln (g d a : Nat) : LOper := ⟨some d, .op (.load1 (.t a)), some (g, false)⟩
@[go_sem] def qf (d o a : Nat) : LOper := ⟨some d, .op (.fieldAddr o (.t a)), none⟩
@[go_sem] def qfy (g d o a : Nat) : LOper := ⟨some d, .op (.fieldAddr o (.t a)), some (g, true)⟩
@[go_sem] def qfn (g d o a : Nat) : LOper := ⟨some d, .op (.fieldAddr o (.t a)), some (g, false)⟩
@[go_sem] def qn (d a : Nat) : LOper := ⟨some d, .op (.lenS (.t a)), none⟩
@[go_sem] def qny (g d a : Nat) : LOper := ⟨some d, .op (.lenS (.t a)), some (g, true)⟩
@[go_sem] def qnn (g d a : Nat) : LOper := ⟨some d, .op (.lenS (.t a)), some (g, false)⟩
@[go_sem] def qc (d a : Nat) : LOper := ⟨some d, .op (.nilCheck (.t a)), none⟩
@[go_sem] def qcy (g d a : Nat) : LOper := ⟨some d, .op (.nilCheck (.t a)), some (g, true)⟩
@[go_sem] def qcn (g d a : Nat) : LOper := ⟨some d, .op (.nilCheck (.t a)), some (g, false)⟩
@[go_sem] def qx (d o a : Nat) : LOper := ⟨some d, .op (.extract o (.t a)), none⟩
@[go_sem] def qxy (g d o a : Nat) : LOper := ⟨some d, .op (.extract o (.t a)), some (g, true)⟩
@[go_sem] def qxn (g d o a : Nat) : LOper := ⟨some d, .op (.extract o (.t a)), some (g, false)⟩
@[go_sem] def qi (d o a b : Nat) : LOper := ⟨some d, .op (.idxAddrS o (.t a) (.t b)), none⟩
@[go_sem] def qiy (g d o a b : Nat) : LOper := ⟨some d, .op (.idxAddrS o (.t a) (.t b)), some (g, true)⟩
@[go_sem] def qin (g d o a b : Nat) : LOper := ⟨some d, .op (.idxAddrS o (.t a) (.t b)), some (g, false)⟩
@[go_sem] def qN (d o a : Nat) : LOper := ⟨some d, .op (.loadN o (.t a)), none⟩
@[go_sem] def qNy (g d o a : Nat) : LOper := ⟨some d, .op (.loadN o (.t a)), some (g, true)⟩
@[go_sem] def qNn (g d o a : Nat) : LOper := ⟨some d, .op (.loadN o (.t a)), some (g, false)⟩
@[go_sem] def qk (d : Nat) (k : Int) : LOper := ⟨some d, .op (.mov (.c (.int .i64 k))), none⟩
@[go_sem] def qB (o : BinOp) (d a b : Nat) : LOper := ⟨some d, .op (.bin o .basic (.t a) (.t b)), none⟩
@[go_sem] def qb (o : BinOp) (d a : Nat) (k : Int) : LOper := ⟨some d, .op (.bin o .basic (.t a) (.c (.int .i64 k))), none⟩
@[go_sem] def qs (n a b : Nat) : LOper := ⟨none, .op (.store n (.t a) (.t b)), none⟩
@[go_sem] def qC (d g : Nat) (l : List LO) : LOper := ⟨some d, .call (.c (.func (.func g) #[] #[])) l, none⟩
@[go_sem] def qe : Value := .string ⟨#[]⟩
end Go.E1
