/-
  No cell of these rows narrows 'for every input' (looked for: loops, veiled, ifaces, maps, wideKeys, modest, calm, conditions, laid).
  DERIVED. THE GIVEN ROWS OF THIS SEAT. 6 by the template 'for every input the law returns true; each argument reads behind the call as it read before'; 0 by the template 'total and deterministic' (their statements: YtmopgljjpmepnaaTotals.lean).
  GIVEN WITH THE SEED: the statements are not yours to turn. If you find one false, say at which input.
  Laid BY PROGRAM, IN A SANDBOX (cutbox-rows.mjs): the forced cells as the released guide's own fill.sh prints them over the translation 1c223cb75bbb8559… (all of the seat's roots in one cut). By AI agents, Wed Nov 11 2026. No macro, syntax, notation, axiom, sorry.
-/
import Derived.Test.YtmopgljjpmepnaaChecked
import GoSem.Claim
import GoSem.ClaimJoined
import GoSem.ClaimMapViews
import Derived.JoinedTies
import Derived.KernelRfl
namespace Go.Proofs.Ytmopgljjpmepnaa
/- THE CELL 'sum', in the pinned program and in every row, IS THE sha256 OF THE DUMP (.gsa) THAT YtmopgljjpmepnaaProg.lean LOADS. Nothing in Lean hashes anything: it is a label: what it is worth is what the hold of that sum in a sandbox is worth. -/
noncomputable def Try.pinned : Pinned := { name := "ytmopgljjpmepnaa", sum := "1c223cb75bbb8559e59c6884e96191e5f358baed7bd9874f1a798b472f58bcb2", checked := Try.checked }
namespace Rows
def none {H : Type} : Left H := { results := [], args := [] }

/-- 'squintlaw05.StaticGets': WHATEVER THE INPUT: true; the input reads as it did. -/
def staticGetsSpec : ChangeSpec := { name := "staticGets", fn := fun _ => fun
  | [d] => { results := [.lit (.bool true)], args := [d] }
  | _ => none }
def staticGetsRow : OpenClaim := { program := "ytmopgljjpmepnaa", sum := "1c223cb75bbb8559e59c6884e96191e5f358baed7bd9874f1a798b472f58bcb2", func := "squint/squintlaw05.StaticGets", spec := "staticGets", unfollowed := true, recurses := true, apart := false }
def StaticGetsSaid : Prop := staticGetsRow.holds Try.pinned (OpenSpec.ofChange staticGetsSpec)

/-- ITS FALSE NEIGHBOUR: 'it returns false'. Refute it at one input. -/
def staticGetsWrong : ChangeSpec := { name := "staticGets", fn := fun _ => fun
  | [d] => { results := [.lit (.bool false)], args := [d] }
  | _ => none }
def StaticGetsWrongFalsely : Prop := staticGetsRow.holds Try.pinned (OpenSpec.ofChange staticGetsWrong)

/-- 'squintlaw05.StaticFinds': WHATEVER THE INPUT: true; the input reads as it did. -/
def staticFindsSpec : ChangeSpec := { name := "staticFinds", fn := fun _ => fun
  | [d] => { results := [.lit (.bool true)], args := [d] }
  | _ => none }
def staticFindsRow : OpenClaim := { program := "ytmopgljjpmepnaa", sum := "1c223cb75bbb8559e59c6884e96191e5f358baed7bd9874f1a798b472f58bcb2", func := "squint/squintlaw05.StaticFinds", spec := "staticFinds", unfollowed := true, recurses := true, apart := false }
def StaticFindsSaid : Prop := staticFindsRow.holds Try.pinned (OpenSpec.ofChange staticFindsSpec)

/-- ITS FALSE NEIGHBOUR: 'it returns false'. Refute it at one input. -/
def staticFindsWrong : ChangeSpec := { name := "staticFinds", fn := fun _ => fun
  | [d] => { results := [.lit (.bool false)], args := [d] }
  | _ => none }
def StaticFindsWrongFalsely : Prop := staticFindsRow.holds Try.pinned (OpenSpec.ofChange staticFindsWrong)

/-- 'squintlaw05.StaticNames': WHATEVER THE INPUT: true; the input reads as it did. -/
def staticNamesSpec : ChangeSpec := { name := "staticNames", fn := fun _ => fun
  | [d] => { results := [.lit (.bool true)], args := [d] }
  | _ => none }
def staticNamesRow : OpenClaim := { program := "ytmopgljjpmepnaa", sum := "1c223cb75bbb8559e59c6884e96191e5f358baed7bd9874f1a798b472f58bcb2", func := "squint/squintlaw05.StaticNames", spec := "staticNames", unfollowed := true, recurses := true, apart := false }
def StaticNamesSaid : Prop := staticNamesRow.holds Try.pinned (OpenSpec.ofChange staticNamesSpec)

/-- ITS FALSE NEIGHBOUR: 'it returns false'. Refute it at one input. -/
def staticNamesWrong : ChangeSpec := { name := "staticNames", fn := fun _ => fun
  | [d] => { results := [.lit (.bool false)], args := [d] }
  | _ => none }
def StaticNamesWrongFalsely : Prop := staticNamesRow.holds Try.pinned (OpenSpec.ofChange staticNamesWrong)

/-- 'squintlaw05.StaticSizes': WHATEVER THE INPUT: true; the input reads as it did. -/
def staticSizesSpec : ChangeSpec := { name := "staticSizes", fn := fun _ => fun
  | [d] => { results := [.lit (.bool true)], args := [d] }
  | _ => none }
def staticSizesRow : OpenClaim := { program := "ytmopgljjpmepnaa", sum := "1c223cb75bbb8559e59c6884e96191e5f358baed7bd9874f1a798b472f58bcb2", func := "squint/squintlaw05.StaticSizes", spec := "staticSizes", unfollowed := true, recurses := true, apart := false }
def StaticSizesSaid : Prop := staticSizesRow.holds Try.pinned (OpenSpec.ofChange staticSizesSpec)

/-- ITS FALSE NEIGHBOUR: 'it returns false'. Refute it at one input. -/
def staticSizesWrong : ChangeSpec := { name := "staticSizes", fn := fun _ => fun
  | [d] => { results := [.lit (.bool false)], args := [d] }
  | _ => none }
def StaticSizesWrongFalsely : Prop := staticSizesRow.holds Try.pinned (OpenSpec.ofChange staticSizesWrong)

/-- 'squintlaw05.StaticAll': WHATEVER THE INPUT: true; the input reads as it did. -/
def staticAllSpec : ChangeSpec := { name := "staticAll", fn := fun _ => fun
  | [d] => { results := [.lit (.bool true)], args := [d] }
  | _ => none }
def staticAllRow : OpenClaim := { program := "ytmopgljjpmepnaa", sum := "1c223cb75bbb8559e59c6884e96191e5f358baed7bd9874f1a798b472f58bcb2", func := "squint/squintlaw05.StaticAll", spec := "staticAll", unfollowed := true, recurses := true, apart := false }
def StaticAllSaid : Prop := staticAllRow.holds Try.pinned (OpenSpec.ofChange staticAllSpec)

/-- ITS FALSE NEIGHBOUR: 'it returns false'. Refute it at one input. -/
def staticAllWrong : ChangeSpec := { name := "staticAll", fn := fun _ => fun
  | [d] => { results := [.lit (.bool false)], args := [d] }
  | _ => none }
def StaticAllWrongFalsely : Prop := staticAllRow.holds Try.pinned (OpenSpec.ofChange staticAllWrong)

/-- 'squintlaw07.DecodeEmpty': WHATEVER THE INPUT: true; the input reads as it did. -/
def decodeEmptySpec : ChangeSpec := { name := "decodeEmpty", fn := fun _ => fun
  | [d1, d2, d3] => { results := [.lit (.bool true)], args := [d1, d2, d3] }
  | _ => none }
def decodeEmptyRow : OpenClaim := { program := "ytmopgljjpmepnaa", sum := "1c223cb75bbb8559e59c6884e96191e5f358baed7bd9874f1a798b472f58bcb2", func := "squint/squintlaw07.DecodeEmpty", spec := "decodeEmpty", inPlace := ["sync/atomic.AddInt64", "sync/atomic.LoadUint32", "(*internal/sync.Mutex).Lock", "internal/race.Disable", "sync/atomic.CompareAndSwapInt32", "internal/race.Enable", "internal/race.Acquire", "(*internal/sync.Mutex).lockSlow", "internal/sync.runtime_canSpin", "internal/sync.runtime_doSpin", "internal/sync.throw", "internal/sync.runtime_nanotime", "internal/sync.runtime_SemacquireMutex", "sync/atomic.AddInt32", "(*internal/sync.Mutex).Unlock", "internal/race.ReleaseMerge", "(*internal/sync.Mutex).unlockSlow", "internal/sync.fatal", "internal/sync.runtime_Semrelease", "sync/atomic.StoreUint32"], unfollowed := true, recurses := true, apart := false }
def DecodeEmptySaid : Prop := decodeEmptyRow.holds Try.pinned (OpenSpec.ofChange decodeEmptySpec)

/-- ITS FALSE NEIGHBOUR: 'it returns false'. Refute it at one input. -/
def decodeEmptyWrong : ChangeSpec := { name := "decodeEmpty", fn := fun _ => fun
  | [d1, d2, d3] => { results := [.lit (.bool false)], args := [d1, d2, d3] }
  | _ => none }
def DecodeEmptyWrongFalsely : Prop := decodeEmptyRow.holds Try.pinned (OpenSpec.ofChange decodeEmptyWrong)

/- THE SECOND FORM. 'bulk': how many values and letters a reading holds, each counted each time it is reached (what is shared counts as often as it is met; a slice's spare places count too). A statement '..UptoSaid' is the law's where the arguments, and the package variables that the reading takes, are together of bulk at most 1048576: NARROWER than '..Said'. Prove '..Said' where nothing that the law and all that it calls make is longer than what came in: it says more and counts as full. Else prove '..UptoSaid'. A law counts once. -/
mutual
def uptoBulk {H : Type} : DataW H → Nat
  | .lit (.string bytes) => bytes.length + 1
  | .lit _ => 1
  | .nil => 1
  | .ptr d => uptoBulk d + 1
  | .slice elems spare => uptoBulkAll elems + uptoBulkAll spare + 1
  | .agg parts => uptoBulkAll parts + 1
  | .iface _ d => uptoBulk d + 1
  | .map entries => uptoBulkEntries entries + 1
  | .held _ => 1
def uptoBulkAll {H : Type} : List (DataW H) → Nat
  | [] => 0
  | d :: r => uptoBulk d + uptoBulkAll r
def uptoBulkEntries {H : Type} : List (Lit × DataW H) → Nat
  | [] => 0
  | x :: r => uptoBulkEntry x + uptoBulkEntries r
def uptoBulkEntry {H : Type} : Lit × DataW H → Nat
  | (.string bytes, d) => bytes.length + uptoBulk d + 1
  | (_, d) => uptoBulk d + 1
 end
def uptoSmall : (H : Type) → List (DataW H) → Bool := fun _ ds => decide (uptoBulkAll ds ≤ 1048576)
def OpenSpec.upto (s : _root_.Go.ChangeSpec) : _root_.Go.OpenSpec := { _root_.Go.OpenSpec.ofChange s with cond := some uptoSmall }

/-- 'squintlaw05.StaticGets', WHERE WHAT IT READS IS OF BULK AT MOST 1048576: true; the input reads as it did. -/
def staticGetsUptoRow : OpenClaim := { program := "ytmopgljjpmepnaa", sum := "1c223cb75bbb8559e59c6884e96191e5f358baed7bd9874f1a798b472f58bcb2", func := "squint/squintlaw05.StaticGets", spec := "staticGets", unfollowed := true, recurses := true, apart := false, narrowed := true }
def StaticGetsUptoSaid : Prop := staticGetsUptoRow.holds Try.pinned (OpenSpec.upto staticGetsSpec)

/-- 'squintlaw05.StaticFinds', WHERE WHAT IT READS IS OF BULK AT MOST 1048576: true; the input reads as it did. -/
def staticFindsUptoRow : OpenClaim := { program := "ytmopgljjpmepnaa", sum := "1c223cb75bbb8559e59c6884e96191e5f358baed7bd9874f1a798b472f58bcb2", func := "squint/squintlaw05.StaticFinds", spec := "staticFinds", unfollowed := true, recurses := true, apart := false, narrowed := true }
def StaticFindsUptoSaid : Prop := staticFindsUptoRow.holds Try.pinned (OpenSpec.upto staticFindsSpec)

/-- 'squintlaw05.StaticNames', WHERE WHAT IT READS IS OF BULK AT MOST 1048576: true; the input reads as it did. -/
def staticNamesUptoRow : OpenClaim := { program := "ytmopgljjpmepnaa", sum := "1c223cb75bbb8559e59c6884e96191e5f358baed7bd9874f1a798b472f58bcb2", func := "squint/squintlaw05.StaticNames", spec := "staticNames", unfollowed := true, recurses := true, apart := false, narrowed := true }
def StaticNamesUptoSaid : Prop := staticNamesUptoRow.holds Try.pinned (OpenSpec.upto staticNamesSpec)

/-- 'squintlaw05.StaticSizes', WHERE WHAT IT READS IS OF BULK AT MOST 1048576: true; the input reads as it did. -/
def staticSizesUptoRow : OpenClaim := { program := "ytmopgljjpmepnaa", sum := "1c223cb75bbb8559e59c6884e96191e5f358baed7bd9874f1a798b472f58bcb2", func := "squint/squintlaw05.StaticSizes", spec := "staticSizes", unfollowed := true, recurses := true, apart := false, narrowed := true }
def StaticSizesUptoSaid : Prop := staticSizesUptoRow.holds Try.pinned (OpenSpec.upto staticSizesSpec)

/-- 'squintlaw05.StaticAll', WHERE WHAT IT READS IS OF BULK AT MOST 1048576: true; the input reads as it did. -/
def staticAllUptoRow : OpenClaim := { program := "ytmopgljjpmepnaa", sum := "1c223cb75bbb8559e59c6884e96191e5f358baed7bd9874f1a798b472f58bcb2", func := "squint/squintlaw05.StaticAll", spec := "staticAll", unfollowed := true, recurses := true, apart := false, narrowed := true }
def StaticAllUptoSaid : Prop := staticAllUptoRow.holds Try.pinned (OpenSpec.upto staticAllSpec)

/-- 'squintlaw07.DecodeEmpty', WHERE WHAT IT READS IS OF BULK AT MOST 1048576: true; the input reads as it did. -/
def decodeEmptyUptoRow : OpenClaim := { program := "ytmopgljjpmepnaa", sum := "1c223cb75bbb8559e59c6884e96191e5f358baed7bd9874f1a798b472f58bcb2", func := "squint/squintlaw07.DecodeEmpty", spec := "decodeEmpty", inPlace := ["sync/atomic.AddInt64", "sync/atomic.LoadUint32", "(*internal/sync.Mutex).Lock", "internal/race.Disable", "sync/atomic.CompareAndSwapInt32", "internal/race.Enable", "internal/race.Acquire", "(*internal/sync.Mutex).lockSlow", "internal/sync.runtime_canSpin", "internal/sync.runtime_doSpin", "internal/sync.throw", "internal/sync.runtime_nanotime", "internal/sync.runtime_SemacquireMutex", "sync/atomic.AddInt32", "(*internal/sync.Mutex).Unlock", "internal/race.ReleaseMerge", "(*internal/sync.Mutex).unlockSlow", "internal/sync.fatal", "internal/sync.runtime_Semrelease", "sync/atomic.StoreUint32"], unfollowed := true, recurses := true, apart := false, narrowed := true }
def DecodeEmptyUptoSaid : Prop := decodeEmptyUptoRow.holds Try.pinned (OpenSpec.upto decodeEmptySpec)

end Rows
end Go.Proofs.Ytmopgljjpmepnaa
