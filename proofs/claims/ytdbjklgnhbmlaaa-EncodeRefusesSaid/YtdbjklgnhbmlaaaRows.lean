/-
  No cell of these rows narrows 'for every input' (looked for: loops, veiled, ifaces, maps, wideKeys, modest, calm, conditions, laid).
  DERIVED. THE GIVEN ROWS OF THIS SEAT. 11 by the template 'for every input the law returns true; each argument reads behind the call as it read before'; 0 by the template 'total and deterministic' (their statements: YtdbjklgnhbmlaaaTotals.lean).
  GIVEN WITH THE SEED: the statements are not yours to turn. If you find one false, say at which input.
  Laid BY PROGRAM, IN A SANDBOX (cutbox-rows.mjs): the forced cells as the released guide's own fill.sh prints them over the translation f4fdffc15cbb85f4… (all of the seat's roots in one cut). By AI agents, Wed Nov 11 2026. No macro, syntax, notation, axiom, sorry.
-/
import Derived.Test.YtdbjklgnhbmlaaaChecked
import GoSem.Claim
import GoSem.ClaimJoined
import GoSem.ClaimMapViews
import Derived.JoinedTies
import Derived.KernelRfl
namespace Go.Proofs.Ytdbjklgnhbmlaaa
/- THE CELL 'sum', in the pinned program and in every row, IS THE sha256 OF THE DUMP (.gsa) THAT YtdbjklgnhbmlaaaProg.lean LOADS. Nothing in Lean hashes anything: it is a label: what it is worth is what the hold of that sum in a sandbox is worth. -/
noncomputable def Try.pinned : Pinned := { name := "ytdbjklgnhbmlaaa", sum := "f4fdffc15cbb85f445a6b47ca8f22fd4aedc9d76547ab62431dec5abaf9e13bb", checked := Try.checked }
namespace Rows
def none {H : Type} : Left H := { results := [], args := [] }

/-- 'squintlaw05.StaticAll': WHATEVER THE INPUT: true; the input reads as it did. -/
def staticAllSpec : ChangeSpec := { name := "staticAll", fn := fun _ => fun
  | [d] => { results := [.lit (.bool true)], args := [d] }
  | _ => none }
def staticAllRow : OpenClaim := { program := "ytdbjklgnhbmlaaa", sum := "f4fdffc15cbb85f445a6b47ca8f22fd4aedc9d76547ab62431dec5abaf9e13bb", func := "squint/squintlaw05.StaticAll", spec := "staticAll", unfollowed := true, recurses := true, apart := false }
def StaticAllSaid : Prop := staticAllRow.holds Try.pinned (OpenSpec.ofChange staticAllSpec)

/-- ITS FALSE NEIGHBOUR: 'it returns false'. Refute it at one input. -/
def staticAllWrong : ChangeSpec := { name := "staticAll", fn := fun _ => fun
  | [d] => { results := [.lit (.bool false)], args := [d] }
  | _ => none }
def StaticAllWrongFalsely : Prop := staticAllRow.holds Try.pinned (OpenSpec.ofChange staticAllWrong)

/-- 'squintlaw07.DecodeEmpty': WHATEVER THE INPUT: true; the input reads as it did. -/
def decodeEmptySpec : ChangeSpec := { name := "decodeEmpty", fn := fun _ => fun
  | [d1, d2, d3] => { results := [.lit (.bool true)], args := [d1, d2, d3] }
  | _ => none }
def decodeEmptyRow : OpenClaim := { program := "ytdbjklgnhbmlaaa", sum := "f4fdffc15cbb85f445a6b47ca8f22fd4aedc9d76547ab62431dec5abaf9e13bb", func := "squint/squintlaw07.DecodeEmpty", spec := "decodeEmpty", inPlace := ["sync/atomic.AddInt64", "sync/atomic.LoadUint32", "(*internal/sync.Mutex).Lock", "internal/race.Disable", "sync/atomic.CompareAndSwapInt32", "internal/race.Enable", "internal/race.Acquire", "(*internal/sync.Mutex).lockSlow", "internal/sync.runtime_canSpin", "internal/sync.runtime_doSpin", "internal/sync.throw", "internal/sync.runtime_nanotime", "internal/sync.runtime_SemacquireMutex", "sync/atomic.AddInt32", "(*internal/sync.Mutex).Unlock", "internal/race.ReleaseMerge", "(*internal/sync.Mutex).unlockSlow", "internal/sync.fatal", "internal/sync.runtime_Semrelease", "sync/atomic.StoreUint32"], unfollowed := true, recurses := true, apart := false }
def DecodeEmptySaid : Prop := decodeEmptyRow.holds Try.pinned (OpenSpec.ofChange decodeEmptySpec)

/-- ITS FALSE NEIGHBOUR: 'it returns false'. Refute it at one input. -/
def decodeEmptyWrong : ChangeSpec := { name := "decodeEmpty", fn := fun _ => fun
  | [d1, d2, d3] => { results := [.lit (.bool false)], args := [d1, d2, d3] }
  | _ => none }
def DecodeEmptyWrongFalsely : Prop := decodeEmptyRow.holds Try.pinned (OpenSpec.ofChange decodeEmptyWrong)

/-- 'squintlaw07.DecodePlays': WHATEVER THE INPUT: true; the input reads as it did. -/
def decodePlaysSpec : ChangeSpec := { name := "decodePlays", fn := fun _ => fun
  | [d] => { results := [.lit (.bool true)], args := [d] }
  | _ => none }
def decodePlaysRow : OpenClaim := { program := "ytdbjklgnhbmlaaa", sum := "f4fdffc15cbb85f445a6b47ca8f22fd4aedc9d76547ab62431dec5abaf9e13bb", func := "squint/squintlaw07.DecodePlays", spec := "decodePlays", inPlace := ["sync/atomic.AddInt64", "sync/atomic.LoadUint32", "(*internal/sync.Mutex).Lock", "internal/race.Disable", "sync/atomic.CompareAndSwapInt32", "internal/race.Enable", "internal/race.Acquire", "(*internal/sync.Mutex).lockSlow", "internal/sync.runtime_canSpin", "internal/sync.runtime_doSpin", "internal/sync.throw", "internal/sync.runtime_nanotime", "internal/sync.runtime_SemacquireMutex", "sync/atomic.AddInt32", "(*internal/sync.Mutex).Unlock", "internal/race.ReleaseMerge", "(*internal/sync.Mutex).unlockSlow", "internal/sync.fatal", "internal/sync.runtime_Semrelease", "sync/atomic.StoreUint32"], unfollowed := true, recurses := true, apart := false }
def DecodePlaysSaid : Prop := decodePlaysRow.holds Try.pinned (OpenSpec.ofChange decodePlaysSpec)

/-- ITS FALSE NEIGHBOUR: 'it returns false'. Refute it at one input. -/
def decodePlaysWrong : ChangeSpec := { name := "decodePlays", fn := fun _ => fun
  | [d] => { results := [.lit (.bool false)], args := [d] }
  | _ => none }
def DecodePlaysWrongFalsely : Prop := decodePlaysRow.holds Try.pinned (OpenSpec.ofChange decodePlaysWrong)

/-- 'squintlaw07.DecodeCopies': WHATEVER THE INPUT: true; the input reads as it did. -/
def decodeCopiesSpec : ChangeSpec := { name := "decodeCopies", fn := fun _ => fun
  | [d1, d2] => { results := [.lit (.bool true)], args := [d1, d2] }
  | _ => none }
def decodeCopiesRow : OpenClaim := { program := "ytdbjklgnhbmlaaa", sum := "f4fdffc15cbb85f445a6b47ca8f22fd4aedc9d76547ab62431dec5abaf9e13bb", func := "squint/squintlaw07.DecodeCopies", spec := "decodeCopies", inPlace := ["sync/atomic.AddInt64", "sync/atomic.LoadUint32", "(*internal/sync.Mutex).Lock", "internal/race.Disable", "sync/atomic.CompareAndSwapInt32", "internal/race.Enable", "internal/race.Acquire", "(*internal/sync.Mutex).lockSlow", "internal/sync.runtime_canSpin", "internal/sync.runtime_doSpin", "internal/sync.throw", "internal/sync.runtime_nanotime", "internal/sync.runtime_SemacquireMutex", "sync/atomic.AddInt32", "(*internal/sync.Mutex).Unlock", "internal/race.ReleaseMerge", "(*internal/sync.Mutex).unlockSlow", "internal/sync.fatal", "internal/sync.runtime_Semrelease", "sync/atomic.StoreUint32"], unfollowed := true, recurses := true, apart := false }
def DecodeCopiesSaid : Prop := decodeCopiesRow.holds Try.pinned (OpenSpec.ofChange decodeCopiesSpec)

/-- ITS FALSE NEIGHBOUR: 'it returns false'. Refute it at one input. -/
def decodeCopiesWrong : ChangeSpec := { name := "decodeCopies", fn := fun _ => fun
  | [d1, d2] => { results := [.lit (.bool false)], args := [d1, d2] }
  | _ => none }
def DecodeCopiesWrongFalsely : Prop := decodeCopiesRow.holds Try.pinned (OpenSpec.ofChange decodeCopiesWrong)

/-- 'squintlaw07.DecodeRows': WHATEVER THE INPUT: true; the input reads as it did. -/
def decodeRowsSpec : ChangeSpec := { name := "decodeRows", fn := fun _ => fun
  | [d1, d2, d3] => { results := [.lit (.bool true)], args := [d1, d2, d3] }
  | _ => none }
def decodeRowsRow : OpenClaim := { program := "ytdbjklgnhbmlaaa", sum := "f4fdffc15cbb85f445a6b47ca8f22fd4aedc9d76547ab62431dec5abaf9e13bb", func := "squint/squintlaw07.DecodeRows", spec := "decodeRows", inPlace := ["sync/atomic.AddInt64", "sync/atomic.LoadUint32", "(*internal/sync.Mutex).Lock", "internal/race.Disable", "sync/atomic.CompareAndSwapInt32", "internal/race.Enable", "internal/race.Acquire", "(*internal/sync.Mutex).lockSlow", "internal/sync.runtime_canSpin", "internal/sync.runtime_doSpin", "internal/sync.throw", "internal/sync.runtime_nanotime", "internal/sync.runtime_SemacquireMutex", "sync/atomic.AddInt32", "(*internal/sync.Mutex).Unlock", "internal/race.ReleaseMerge", "(*internal/sync.Mutex).unlockSlow", "internal/sync.fatal", "internal/sync.runtime_Semrelease", "sync/atomic.StoreUint32"], unfollowed := true, recurses := true, apart := false }
def DecodeRowsSaid : Prop := decodeRowsRow.holds Try.pinned (OpenSpec.ofChange decodeRowsSpec)

/-- ITS FALSE NEIGHBOUR: 'it returns false'. Refute it at one input. -/
def decodeRowsWrong : ChangeSpec := { name := "decodeRows", fn := fun _ => fun
  | [d1, d2, d3] => { results := [.lit (.bool false)], args := [d1, d2, d3] }
  | _ => none }
def DecodeRowsWrongFalsely : Prop := decodeRowsRow.holds Try.pinned (OpenSpec.ofChange decodeRowsWrong)

/-- 'squintlaw07.DecodeBounds': WHATEVER THE INPUT: true; the input reads as it did. -/
def decodeBoundsSpec : ChangeSpec := { name := "decodeBounds", fn := fun _ => fun
  | [d] => { results := [.lit (.bool true)], args := [d] }
  | _ => none }
def decodeBoundsRow : OpenClaim := { program := "ytdbjklgnhbmlaaa", sum := "f4fdffc15cbb85f445a6b47ca8f22fd4aedc9d76547ab62431dec5abaf9e13bb", func := "squint/squintlaw07.DecodeBounds", spec := "decodeBounds", inPlace := ["sync/atomic.AddInt64", "sync/atomic.LoadUint32", "(*internal/sync.Mutex).Lock", "internal/race.Disable", "sync/atomic.CompareAndSwapInt32", "internal/race.Enable", "internal/race.Acquire", "(*internal/sync.Mutex).lockSlow", "internal/sync.runtime_canSpin", "internal/sync.runtime_doSpin", "internal/sync.throw", "internal/sync.runtime_nanotime", "internal/sync.runtime_SemacquireMutex", "sync/atomic.AddInt32", "(*internal/sync.Mutex).Unlock", "internal/race.ReleaseMerge", "(*internal/sync.Mutex).unlockSlow", "internal/sync.fatal", "internal/sync.runtime_Semrelease", "sync/atomic.StoreUint32"], unfollowed := true, recurses := true, apart := false }
def DecodeBoundsSaid : Prop := decodeBoundsRow.holds Try.pinned (OpenSpec.ofChange decodeBoundsSpec)

/-- ITS FALSE NEIGHBOUR: 'it returns false'. Refute it at one input. -/
def decodeBoundsWrong : ChangeSpec := { name := "decodeBounds", fn := fun _ => fun
  | [d] => { results := [.lit (.bool false)], args := [d] }
  | _ => none }
def DecodeBoundsWrongFalsely : Prop := decodeBoundsRow.holds Try.pinned (OpenSpec.ofChange decodeBoundsWrong)

/-- 'squintlaw08.EncodePlain': WHATEVER THE INPUT: true; the input reads as it did. -/
def encodePlainSpec : ChangeSpec := { name := "encodePlain", fn := fun _ => fun
  | [d] => { results := [.lit (.bool true)], args := [d] }
  | _ => none }
def encodePlainRow : OpenClaim := { program := "ytdbjklgnhbmlaaa", sum := "f4fdffc15cbb85f445a6b47ca8f22fd4aedc9d76547ab62431dec5abaf9e13bb", func := "squint/squintlaw08.EncodePlain", spec := "encodePlain", inPlace := ["sync/atomic.AddInt64", "sync/atomic.LoadUint32", "(*internal/sync.Mutex).Lock", "internal/race.Disable", "sync/atomic.CompareAndSwapInt32", "internal/race.Enable", "internal/race.Acquire", "(*internal/sync.Mutex).lockSlow", "internal/sync.runtime_canSpin", "internal/sync.runtime_doSpin", "internal/sync.throw", "internal/sync.runtime_nanotime", "internal/sync.runtime_SemacquireMutex", "sync/atomic.AddInt32", "(*internal/sync.Mutex).Unlock", "internal/race.ReleaseMerge", "(*internal/sync.Mutex).unlockSlow", "internal/sync.fatal", "internal/sync.runtime_Semrelease", "sync/atomic.StoreUint32"], unfollowed := true, recurses := true, apart := false }
def EncodePlainSaid : Prop := encodePlainRow.holds Try.pinned (OpenSpec.ofChange encodePlainSpec)

/-- ITS FALSE NEIGHBOUR: 'it returns false'. Refute it at one input. -/
def encodePlainWrong : ChangeSpec := { name := "encodePlain", fn := fun _ => fun
  | [d] => { results := [.lit (.bool false)], args := [d] }
  | _ => none }
def EncodePlainWrongFalsely : Prop := encodePlainRow.holds Try.pinned (OpenSpec.ofChange encodePlainWrong)

/-- 'squintlaw08.EncodeForms': WHATEVER THE INPUT: true; the input reads as it did. -/
def encodeFormsSpec : ChangeSpec := { name := "encodeForms", fn := fun _ => fun
  | [d] => { results := [.lit (.bool true)], args := [d] }
  | _ => none }
def encodeFormsRow : OpenClaim := { program := "ytdbjklgnhbmlaaa", sum := "f4fdffc15cbb85f445a6b47ca8f22fd4aedc9d76547ab62431dec5abaf9e13bb", func := "squint/squintlaw08.EncodeForms", spec := "encodeForms", inPlace := ["sync/atomic.AddInt64", "sync/atomic.LoadUint32", "(*internal/sync.Mutex).Lock", "internal/race.Disable", "sync/atomic.CompareAndSwapInt32", "internal/race.Enable", "internal/race.Acquire", "(*internal/sync.Mutex).lockSlow", "internal/sync.runtime_canSpin", "internal/sync.runtime_doSpin", "internal/sync.throw", "internal/sync.runtime_nanotime", "internal/sync.runtime_SemacquireMutex", "sync/atomic.AddInt32", "(*internal/sync.Mutex).Unlock", "internal/race.ReleaseMerge", "(*internal/sync.Mutex).unlockSlow", "internal/sync.fatal", "internal/sync.runtime_Semrelease", "sync/atomic.StoreUint32"], unfollowed := true, recurses := true, apart := false }
def EncodeFormsSaid : Prop := encodeFormsRow.holds Try.pinned (OpenSpec.ofChange encodeFormsSpec)

/-- ITS FALSE NEIGHBOUR: 'it returns false'. Refute it at one input. -/
def encodeFormsWrong : ChangeSpec := { name := "encodeForms", fn := fun _ => fun
  | [d] => { results := [.lit (.bool false)], args := [d] }
  | _ => none }
def EncodeFormsWrongFalsely : Prop := encodeFormsRow.holds Try.pinned (OpenSpec.ofChange encodeFormsWrong)

/-- 'squintlaw08.EncodeRefuses': WHATEVER THE INPUT: true; the input reads as it did. -/
def encodeRefusesSpec : ChangeSpec := { name := "encodeRefuses", fn := fun _ => fun
  | [d1, d2, d3] => { results := [.lit (.bool true)], args := [d1, d2, d3] }
  | _ => none }
def encodeRefusesRow : OpenClaim := { program := "ytdbjklgnhbmlaaa", sum := "f4fdffc15cbb85f445a6b47ca8f22fd4aedc9d76547ab62431dec5abaf9e13bb", func := "squint/squintlaw08.EncodeRefuses", spec := "encodeRefuses", inPlace := ["sync/atomic.AddInt64", "sync/atomic.LoadUint32", "(*internal/sync.Mutex).Lock", "internal/race.Disable", "sync/atomic.CompareAndSwapInt32", "internal/race.Enable", "internal/race.Acquire", "(*internal/sync.Mutex).lockSlow", "internal/sync.runtime_canSpin", "internal/sync.runtime_doSpin", "internal/sync.throw", "internal/sync.runtime_nanotime", "internal/sync.runtime_SemacquireMutex", "sync/atomic.AddInt32", "(*internal/sync.Mutex).Unlock", "internal/race.ReleaseMerge", "(*internal/sync.Mutex).unlockSlow", "internal/sync.fatal", "internal/sync.runtime_Semrelease", "sync/atomic.StoreUint32"], unfollowed := true, recurses := true, apart := false }
def EncodeRefusesSaid : Prop := encodeRefusesRow.holds Try.pinned (OpenSpec.ofChange encodeRefusesSpec)

/-- ITS FALSE NEIGHBOUR: 'it returns false'. Refute it at one input. -/
def encodeRefusesWrong : ChangeSpec := { name := "encodeRefuses", fn := fun _ => fun
  | [d1, d2, d3] => { results := [.lit (.bool false)], args := [d1, d2, d3] }
  | _ => none }
def EncodeRefusesWrongFalsely : Prop := encodeRefusesRow.holds Try.pinned (OpenSpec.ofChange encodeRefusesWrong)

/-- 'squintlaw08.EncodeRows': WHATEVER THE INPUT: true; the input reads as it did. -/
def encodeRowsSpec : ChangeSpec := { name := "encodeRows", fn := fun _ => fun
  | [d1, d2] => { results := [.lit (.bool true)], args := [d1, d2] }
  | _ => none }
def encodeRowsRow : OpenClaim := { program := "ytdbjklgnhbmlaaa", sum := "f4fdffc15cbb85f445a6b47ca8f22fd4aedc9d76547ab62431dec5abaf9e13bb", func := "squint/squintlaw08.EncodeRows", spec := "encodeRows", inPlace := ["sync/atomic.AddInt64", "sync/atomic.LoadUint32", "(*internal/sync.Mutex).Lock", "internal/race.Disable", "sync/atomic.CompareAndSwapInt32", "internal/race.Enable", "internal/race.Acquire", "(*internal/sync.Mutex).lockSlow", "internal/sync.runtime_canSpin", "internal/sync.runtime_doSpin", "internal/sync.throw", "internal/sync.runtime_nanotime", "internal/sync.runtime_SemacquireMutex", "sync/atomic.AddInt32", "(*internal/sync.Mutex).Unlock", "internal/race.ReleaseMerge", "(*internal/sync.Mutex).unlockSlow", "internal/sync.fatal", "internal/sync.runtime_Semrelease", "sync/atomic.StoreUint32"], unfollowed := true, recurses := true, apart := false }
def EncodeRowsSaid : Prop := encodeRowsRow.holds Try.pinned (OpenSpec.ofChange encodeRowsSpec)

/-- ITS FALSE NEIGHBOUR: 'it returns false'. Refute it at one input. -/
def encodeRowsWrong : ChangeSpec := { name := "encodeRows", fn := fun _ => fun
  | [d1, d2] => { results := [.lit (.bool false)], args := [d1, d2] }
  | _ => none }
def EncodeRowsWrongFalsely : Prop := encodeRowsRow.holds Try.pinned (OpenSpec.ofChange encodeRowsWrong)

/-- 'squintlaw08.EncodeReads': WHATEVER THE INPUT: true; the input reads as it did. -/
def encodeReadsSpec : ChangeSpec := { name := "encodeReads", fn := fun _ => fun
  | [d1, d2, d3] => { results := [.lit (.bool true)], args := [d1, d2, d3] }
  | _ => none }
def encodeReadsRow : OpenClaim := { program := "ytdbjklgnhbmlaaa", sum := "f4fdffc15cbb85f445a6b47ca8f22fd4aedc9d76547ab62431dec5abaf9e13bb", func := "squint/squintlaw08.EncodeReads", spec := "encodeReads", inPlace := ["sync/atomic.AddInt64", "sync/atomic.LoadUint32", "(*internal/sync.Mutex).Lock", "internal/race.Disable", "sync/atomic.CompareAndSwapInt32", "internal/race.Enable", "internal/race.Acquire", "(*internal/sync.Mutex).lockSlow", "internal/sync.runtime_canSpin", "internal/sync.runtime_doSpin", "internal/sync.throw", "internal/sync.runtime_nanotime", "internal/sync.runtime_SemacquireMutex", "sync/atomic.AddInt32", "(*internal/sync.Mutex).Unlock", "internal/race.ReleaseMerge", "(*internal/sync.Mutex).unlockSlow", "internal/sync.fatal", "internal/sync.runtime_Semrelease", "sync/atomic.StoreUint32"], unfollowed := true, recurses := true, apart := false }
def EncodeReadsSaid : Prop := encodeReadsRow.holds Try.pinned (OpenSpec.ofChange encodeReadsSpec)

/-- ITS FALSE NEIGHBOUR: 'it returns false'. Refute it at one input. -/
def encodeReadsWrong : ChangeSpec := { name := "encodeReads", fn := fun _ => fun
  | [d1, d2, d3] => { results := [.lit (.bool false)], args := [d1, d2, d3] }
  | _ => none }
def EncodeReadsWrongFalsely : Prop := encodeReadsRow.holds Try.pinned (OpenSpec.ofChange encodeReadsWrong)

/- THE SECOND FORM. 'bulk': how many values and letters a reading holds, each counted each time it is reached (what is shared counts as often as it is met; a slice's spare places count too). A statement '..UptoSaid' is the law's where the arguments, and the package variables that the reading takes, are together of bulk at most 1048576: NARROWER than '..Said'. Prove '..Said' where nothing that the law and all that it calls make is longer than what came in: it says more and counts as full. Else prove '..UptoSaid'. A law counts once. -/
mutual
def uptoBulk {H : Type} : DataW H → Nat
  | .lit (.string bytes) => bytes.length + 1
  | .lit _ => 1
  | .nil => 1
  | .ptr d => uptoBulk d + 1
  | .slice elems spare => uptoBulkAll elems + uptoBulkAll spare + 1
  | .agg parts => uptoBulkAll parts + 1
  | .iface _ d => uptoBulk d + 1
  | .map entries => uptoBulkEntries entries + 1
  | .held _ => 1
def uptoBulkAll {H : Type} : List (DataW H) → Nat
  | [] => 0
  | d :: r => uptoBulk d + uptoBulkAll r
def uptoBulkEntries {H : Type} : List (Lit × DataW H) → Nat
  | [] => 0
  | x :: r => uptoBulkEntry x + uptoBulkEntries r
def uptoBulkEntry {H : Type} : Lit × DataW H → Nat
  | (.string bytes, d) => bytes.length + uptoBulk d + 1
  | (_, d) => uptoBulk d + 1
 end
def uptoSmall : (H : Type) → List (DataW H) → Bool := fun _ ds => decide (uptoBulkAll ds ≤ 1048576)
def OpenSpec.upto (s : _root_.Go.ChangeSpec) : _root_.Go.OpenSpec := { _root_.Go.OpenSpec.ofChange s with cond := some uptoSmall }

/-- 'squintlaw05.StaticAll', WHERE WHAT IT READS IS OF BULK AT MOST 1048576: true; the input reads as it did. -/
def staticAllUptoRow : OpenClaim := { program := "ytdbjklgnhbmlaaa", sum := "f4fdffc15cbb85f445a6b47ca8f22fd4aedc9d76547ab62431dec5abaf9e13bb", func := "squint/squintlaw05.StaticAll", spec := "staticAll", unfollowed := true, recurses := true, apart := false, narrowed := true }
def StaticAllUptoSaid : Prop := staticAllUptoRow.holds Try.pinned (OpenSpec.upto staticAllSpec)

/-- 'squintlaw07.DecodeEmpty', WHERE WHAT IT READS IS OF BULK AT MOST 1048576: true; the input reads as it did. -/
def decodeEmptyUptoRow : OpenClaim := { program := "ytdbjklgnhbmlaaa", sum := "f4fdffc15cbb85f445a6b47ca8f22fd4aedc9d76547ab62431dec5abaf9e13bb", func := "squint/squintlaw07.DecodeEmpty", spec := "decodeEmpty", inPlace := ["sync/atomic.AddInt64", "sync/atomic.LoadUint32", "(*internal/sync.Mutex).Lock", "internal/race.Disable", "sync/atomic.CompareAndSwapInt32", "internal/race.Enable", "internal/race.Acquire", "(*internal/sync.Mutex).lockSlow", "internal/sync.runtime_canSpin", "internal/sync.runtime_doSpin", "internal/sync.throw", "internal/sync.runtime_nanotime", "internal/sync.runtime_SemacquireMutex", "sync/atomic.AddInt32", "(*internal/sync.Mutex).Unlock", "internal/race.ReleaseMerge", "(*internal/sync.Mutex).unlockSlow", "internal/sync.fatal", "internal/sync.runtime_Semrelease", "sync/atomic.StoreUint32"], unfollowed := true, recurses := true, apart := false, narrowed := true }
def DecodeEmptyUptoSaid : Prop := decodeEmptyUptoRow.holds Try.pinned (OpenSpec.upto decodeEmptySpec)

/-- 'squintlaw07.DecodePlays', WHERE WHAT IT READS IS OF BULK AT MOST 1048576: true; the input reads as it did. -/
def decodePlaysUptoRow : OpenClaim := { program := "ytdbjklgnhbmlaaa", sum := "f4fdffc15cbb85f445a6b47ca8f22fd4aedc9d76547ab62431dec5abaf9e13bb", func := "squint/squintlaw07.DecodePlays", spec := "decodePlays", inPlace := ["sync/atomic.AddInt64", "sync/atomic.LoadUint32", "(*internal/sync.Mutex).Lock", "internal/race.Disable", "sync/atomic.CompareAndSwapInt32", "internal/race.Enable", "internal/race.Acquire", "(*internal/sync.Mutex).lockSlow", "internal/sync.runtime_canSpin", "internal/sync.runtime_doSpin", "internal/sync.throw", "internal/sync.runtime_nanotime", "internal/sync.runtime_SemacquireMutex", "sync/atomic.AddInt32", "(*internal/sync.Mutex).Unlock", "internal/race.ReleaseMerge", "(*internal/sync.Mutex).unlockSlow", "internal/sync.fatal", "internal/sync.runtime_Semrelease", "sync/atomic.StoreUint32"], unfollowed := true, recurses := true, apart := false, narrowed := true }
def DecodePlaysUptoSaid : Prop := decodePlaysUptoRow.holds Try.pinned (OpenSpec.upto decodePlaysSpec)

/-- 'squintlaw07.DecodeCopies', WHERE WHAT IT READS IS OF BULK AT MOST 1048576: true; the input reads as it did. -/
def decodeCopiesUptoRow : OpenClaim := { program := "ytdbjklgnhbmlaaa", sum := "f4fdffc15cbb85f445a6b47ca8f22fd4aedc9d76547ab62431dec5abaf9e13bb", func := "squint/squintlaw07.DecodeCopies", spec := "decodeCopies", inPlace := ["sync/atomic.AddInt64", "sync/atomic.LoadUint32", "(*internal/sync.Mutex).Lock", "internal/race.Disable", "sync/atomic.CompareAndSwapInt32", "internal/race.Enable", "internal/race.Acquire", "(*internal/sync.Mutex).lockSlow", "internal/sync.runtime_canSpin", "internal/sync.runtime_doSpin", "internal/sync.throw", "internal/sync.runtime_nanotime", "internal/sync.runtime_SemacquireMutex", "sync/atomic.AddInt32", "(*internal/sync.Mutex).Unlock", "internal/race.ReleaseMerge", "(*internal/sync.Mutex).unlockSlow", "internal/sync.fatal", "internal/sync.runtime_Semrelease", "sync/atomic.StoreUint32"], unfollowed := true, recurses := true, apart := false, narrowed := true }
def DecodeCopiesUptoSaid : Prop := decodeCopiesUptoRow.holds Try.pinned (OpenSpec.upto decodeCopiesSpec)

/-- 'squintlaw07.DecodeRows', WHERE WHAT IT READS IS OF BULK AT MOST 1048576: true; the input reads as it did. -/
def decodeRowsUptoRow : OpenClaim := { program := "ytdbjklgnhbmlaaa", sum := "f4fdffc15cbb85f445a6b47ca8f22fd4aedc9d76547ab62431dec5abaf9e13bb", func := "squint/squintlaw07.DecodeRows", spec := "decodeRows", inPlace := ["sync/atomic.AddInt64", "sync/atomic.LoadUint32", "(*internal/sync.Mutex).Lock", "internal/race.Disable", "sync/atomic.CompareAndSwapInt32", "internal/race.Enable", "internal/race.Acquire", "(*internal/sync.Mutex).lockSlow", "internal/sync.runtime_canSpin", "internal/sync.runtime_doSpin", "internal/sync.throw", "internal/sync.runtime_nanotime", "internal/sync.runtime_SemacquireMutex", "sync/atomic.AddInt32", "(*internal/sync.Mutex).Unlock", "internal/race.ReleaseMerge", "(*internal/sync.Mutex).unlockSlow", "internal/sync.fatal", "internal/sync.runtime_Semrelease", "sync/atomic.StoreUint32"], unfollowed := true, recurses := true, apart := false, narrowed := true }
def DecodeRowsUptoSaid : Prop := decodeRowsUptoRow.holds Try.pinned (OpenSpec.upto decodeRowsSpec)

/-- 'squintlaw07.DecodeBounds', WHERE WHAT IT READS IS OF BULK AT MOST 1048576: true; the input reads as it did. -/
def decodeBoundsUptoRow : OpenClaim := { program := "ytdbjklgnhbmlaaa", sum := "f4fdffc15cbb85f445a6b47ca8f22fd4aedc9d76547ab62431dec5abaf9e13bb", func := "squint/squintlaw07.DecodeBounds", spec := "decodeBounds", inPlace := ["sync/atomic.AddInt64", "sync/atomic.LoadUint32", "(*internal/sync.Mutex).Lock", "internal/race.Disable", "sync/atomic.CompareAndSwapInt32", "internal/race.Enable", "internal/race.Acquire", "(*internal/sync.Mutex).lockSlow", "internal/sync.runtime_canSpin", "internal/sync.runtime_doSpin", "internal/sync.throw", "internal/sync.runtime_nanotime", "internal/sync.runtime_SemacquireMutex", "sync/atomic.AddInt32", "(*internal/sync.Mutex).Unlock", "internal/race.ReleaseMerge", "(*internal/sync.Mutex).unlockSlow", "internal/sync.fatal", "internal/sync.runtime_Semrelease", "sync/atomic.StoreUint32"], unfollowed := true, recurses := true, apart := false, narrowed := true }
def DecodeBoundsUptoSaid : Prop := decodeBoundsUptoRow.holds Try.pinned (OpenSpec.upto decodeBoundsSpec)

/-- 'squintlaw08.EncodePlain', WHERE WHAT IT READS IS OF BULK AT MOST 1048576: true; the input reads as it did. -/
def encodePlainUptoRow : OpenClaim := { program := "ytdbjklgnhbmlaaa", sum := "f4fdffc15cbb85f445a6b47ca8f22fd4aedc9d76547ab62431dec5abaf9e13bb", func := "squint/squintlaw08.EncodePlain", spec := "encodePlain", inPlace := ["sync/atomic.AddInt64", "sync/atomic.LoadUint32", "(*internal/sync.Mutex).Lock", "internal/race.Disable", "sync/atomic.CompareAndSwapInt32", "internal/race.Enable", "internal/race.Acquire", "(*internal/sync.Mutex).lockSlow", "internal/sync.runtime_canSpin", "internal/sync.runtime_doSpin", "internal/sync.throw", "internal/sync.runtime_nanotime", "internal/sync.runtime_SemacquireMutex", "sync/atomic.AddInt32", "(*internal/sync.Mutex).Unlock", "internal/race.ReleaseMerge", "(*internal/sync.Mutex).unlockSlow", "internal/sync.fatal", "internal/sync.runtime_Semrelease", "sync/atomic.StoreUint32"], unfollowed := true, recurses := true, apart := false, narrowed := true }
def EncodePlainUptoSaid : Prop := encodePlainUptoRow.holds Try.pinned (OpenSpec.upto encodePlainSpec)

/-- 'squintlaw08.EncodeForms', WHERE WHAT IT READS IS OF BULK AT MOST 1048576: true; the input reads as it did. -/
def encodeFormsUptoRow : OpenClaim := { program := "ytdbjklgnhbmlaaa", sum := "f4fdffc15cbb85f445a6b47ca8f22fd4aedc9d76547ab62431dec5abaf9e13bb", func := "squint/squintlaw08.EncodeForms", spec := "encodeForms", inPlace := ["sync/atomic.AddInt64", "sync/atomic.LoadUint32", "(*internal/sync.Mutex).Lock", "internal/race.Disable", "sync/atomic.CompareAndSwapInt32", "internal/race.Enable", "internal/race.Acquire", "(*internal/sync.Mutex).lockSlow", "internal/sync.runtime_canSpin", "internal/sync.runtime_doSpin", "internal/sync.throw", "internal/sync.runtime_nanotime", "internal/sync.runtime_SemacquireMutex", "sync/atomic.AddInt32", "(*internal/sync.Mutex).Unlock", "internal/race.ReleaseMerge", "(*internal/sync.Mutex).unlockSlow", "internal/sync.fatal", "internal/sync.runtime_Semrelease", "sync/atomic.StoreUint32"], unfollowed := true, recurses := true, apart := false, narrowed := true }
def EncodeFormsUptoSaid : Prop := encodeFormsUptoRow.holds Try.pinned (OpenSpec.upto encodeFormsSpec)

/-- 'squintlaw08.EncodeRefuses', WHERE WHAT IT READS IS OF BULK AT MOST 1048576: true; the input reads as it did. -/
def encodeRefusesUptoRow : OpenClaim := { program := "ytdbjklgnhbmlaaa", sum := "f4fdffc15cbb85f445a6b47ca8f22fd4aedc9d76547ab62431dec5abaf9e13bb", func := "squint/squintlaw08.EncodeRefuses", spec := "encodeRefuses", inPlace := ["sync/atomic.AddInt64", "sync/atomic.LoadUint32", "(*internal/sync.Mutex).Lock", "internal/race.Disable", "sync/atomic.CompareAndSwapInt32", "internal/race.Enable", "internal/race.Acquire", "(*internal/sync.Mutex).lockSlow", "internal/sync.runtime_canSpin", "internal/sync.runtime_doSpin", "internal/sync.throw", "internal/sync.runtime_nanotime", "internal/sync.runtime_SemacquireMutex", "sync/atomic.AddInt32", "(*internal/sync.Mutex).Unlock", "internal/race.ReleaseMerge", "(*internal/sync.Mutex).unlockSlow", "internal/sync.fatal", "internal/sync.runtime_Semrelease", "sync/atomic.StoreUint32"], unfollowed := true, recurses := true, apart := false, narrowed := true }
def EncodeRefusesUptoSaid : Prop := encodeRefusesUptoRow.holds Try.pinned (OpenSpec.upto encodeRefusesSpec)

/-- 'squintlaw08.EncodeRows', WHERE WHAT IT READS IS OF BULK AT MOST 1048576: true; the input reads as it did. -/
def encodeRowsUptoRow : OpenClaim := { program := "ytdbjklgnhbmlaaa", sum := "f4fdffc15cbb85f445a6b47ca8f22fd4aedc9d76547ab62431dec5abaf9e13bb", func := "squint/squintlaw08.EncodeRows", spec := "encodeRows", inPlace := ["sync/atomic.AddInt64", "sync/atomic.LoadUint32", "(*internal/sync.Mutex).Lock", "internal/race.Disable", "sync/atomic.CompareAndSwapInt32", "internal/race.Enable", "internal/race.Acquire", "(*internal/sync.Mutex).lockSlow", "internal/sync.runtime_canSpin", "internal/sync.runtime_doSpin", "internal/sync.throw", "internal/sync.runtime_nanotime", "internal/sync.runtime_SemacquireMutex", "sync/atomic.AddInt32", "(*internal/sync.Mutex).Unlock", "internal/race.ReleaseMerge", "(*internal/sync.Mutex).unlockSlow", "internal/sync.fatal", "internal/sync.runtime_Semrelease", "sync/atomic.StoreUint32"], unfollowed := true, recurses := true, apart := false, narrowed := true }
def EncodeRowsUptoSaid : Prop := encodeRowsUptoRow.holds Try.pinned (OpenSpec.upto encodeRowsSpec)

/-- 'squintlaw08.EncodeReads', WHERE WHAT IT READS IS OF BULK AT MOST 1048576: true; the input reads as it did. -/
def encodeReadsUptoRow : OpenClaim := { program := "ytdbjklgnhbmlaaa", sum := "f4fdffc15cbb85f445a6b47ca8f22fd4aedc9d76547ab62431dec5abaf9e13bb", func := "squint/squintlaw08.EncodeReads", spec := "encodeReads", inPlace := ["sync/atomic.AddInt64", "sync/atomic.LoadUint32", "(*internal/sync.Mutex).Lock", "internal/race.Disable", "sync/atomic.CompareAndSwapInt32", "internal/race.Enable", "internal/race.Acquire", "(*internal/sync.Mutex).lockSlow", "internal/sync.runtime_canSpin", "internal/sync.runtime_doSpin", "internal/sync.throw", "internal/sync.runtime_nanotime", "internal/sync.runtime_SemacquireMutex", "sync/atomic.AddInt32", "(*internal/sync.Mutex).Unlock", "internal/race.ReleaseMerge", "(*internal/sync.Mutex).unlockSlow", "internal/sync.fatal", "internal/sync.runtime_Semrelease", "sync/atomic.StoreUint32"], unfollowed := true, recurses := true, apart := false, narrowed := true }
def EncodeReadsUptoSaid : Prop := encodeReadsUptoRow.holds Try.pinned (OpenSpec.upto encodeReadsSpec)

end Rows
end Go.Proofs.Ytdbjklgnhbmlaaa
