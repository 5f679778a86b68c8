/-
  Texts joined: Base, Awk, M07, SpA, SpB.
-/
import Derived.Test.YtdbjklgnhbmlaaaGreatKg
import Derived.Test.YtdbjklgnhbmlaaaGreatKlB
import Derived.Test.YtdbjklgnhbmlaaaGreatKlE
import Derived.Test.YtdbjklgnhbmlaaaGreatKlH
import Derived.Test.YtdbjklgnhbmlaaaGreatKe
/-
 The environment: all the code of the seat, and the first primitives.
-/
namespace Go.E1
open Go Go.Proofs
set_option linter.unusedSimpArgs false

def tabAll : List (FuncId × LFunc) := tabA ++ (tabB ++ (tabE ++ tabH))
theorem tabAll_ok : ∀ p ∈ tabAll, ∃ fn ks nt, Tryz.prog.funcs[p.1]? = some fn ∧ cFunc Tryz.prog fn ks nt = some p.2 := by
 intro p hp
 unfold tabAll at hp
 rw [List.mem_append, List.mem_append, List.mem_append] at hp
 rcases hp with hp | hp | hp | hp
 ·exact tabA_ok p hp
 ·exact tabB_ok p hp
 ·exact tabE_ok p hp
 ·exact tabH_ok p hp

def qAll : List (TypeId × List Leaf) := [(33, [.str, .str]), (35, [.str, .str, .bool]), (73, [.int, .bool]), (124, [.int, .int, .int, .int]), (126, [.int, .int])]
noncomputable def EB : Env := { code := tabR tabAll, prim := fun _ => none, q := qOf qAll }
theorem EB_ok : EnvOk Tryz.prog EB where
 orders := by kernel_rfl
 q := show QOk Tryz.prog (qOf qAll) from qOf_ok (by kernel_rfl)
 code := tabR_ok tabAll_ok
 prim := fun _ _ h => (nomatch h)

def ents : List (ByteArray × ByteArray) := [(⟨#[58, 97, 117, 116, 104, 111, 114, 105, 116, 121]⟩, ⟨#[]⟩), (⟨#[58, 109, 101, 116, 104, 111, 100]⟩, ⟨#[71, 69, 84]⟩), (⟨#[58, 109, 101, 116, 104, 111, 100]⟩, ⟨#[80, 79, 83, 84]⟩), (⟨#[58, 112, 97, 116, 104]⟩, ⟨#[47]⟩), (⟨#[58, 112, 97, 116, 104]⟩, ⟨#[47, 105, 110, 100, 101, 120, 46, 104, 116, 109, 108]⟩), (⟨#[58, 115, 99, 104, 101, 109, 101]⟩, ⟨#[104, 116, 116, 112]⟩), (⟨#[58, 115, 99, 104, 101, 109, 101]⟩, ⟨#[104, 116, 116, 112, 115]⟩), (⟨#[58, 115, 116, 97, 116, 117, 115]⟩, ⟨#[50, 48, 48]⟩), (⟨#[58, 115, 116, 97, 116, 117, 115]⟩, ⟨#[50, 48, 52]⟩), (⟨#[58, 115, 116, 97, 116, 117, 115]⟩, ⟨#[50, 48, 54]⟩), (⟨#[58, 115, 116, 97, 116, 117, 115]⟩, ⟨#[51, 48, 52]⟩), (⟨#[58, 115, 116, 97, 116, 117, 115]⟩, ⟨#[52, 48, 48]⟩), (⟨#[58, 115, 116, 97, 116, 117, 115]⟩, ⟨#[52, 48, 52]⟩), (⟨#[58, 115, 116, 97, 116, 117, 115]⟩, ⟨#[53, 48, 48]⟩), (⟨#[97, 99, 99, 101, 112, 116, 45, 99, 104, 97, 114, 115, 101, 116]⟩, ⟨#[]⟩), (⟨#[97, 99, 99, 101, 112, 116, 45, 101, 110, 99, 111, 100, 105, 110, 103]⟩, ⟨#[103, 122, 105, 112, 44, 32, 100, 101, 102, 108, 97, 116, 101]⟩), (⟨#[97, 99, 99, 101, 112, 116, 45, 108, 97, 110, 103, 117, 97, 103, 101]⟩, ⟨#[]⟩), (⟨#[97, 99, 99, 101, 112, 116, 45, 114, 97, 110, 103, 101, 115]⟩, ⟨#[]⟩), (⟨#[97, 99, 99, 101, 112, 116]⟩, ⟨#[]⟩), (⟨#[97, 99, 99, 101, 115, 115, 45, 99, 111, 110, 116, 114, 111, 108, 45, 97, 108, 108, 111, 119, 45, 111, 114, 105, 103, 105, 110]⟩, ⟨#[]⟩), (⟨#[97, 103, 101]⟩, ⟨#[]⟩), (⟨#[97, 108, 108, 111, 119]⟩, ⟨#[]⟩), (⟨#[97, 117, 116, 104, 111, 114, 105, 122, 97, 116, 105, 111, 110]⟩, ⟨#[]⟩), (⟨#[99, 97, 99, 104, 101, 45, 99, 111, 110, 116, 114, 111, 108]⟩, ⟨#[]⟩), (⟨#[99, 111, 110, 116, 101, 110, 116, 45, 100, 105, 115, 112, 111, 115, 105, 116, 105, 111, 110]⟩, ⟨#[]⟩), (⟨#[99, 111, 110, 116, 101, 110, 116, 45, 101, 110, 99, 111, 100, 105, 110, 103]⟩, ⟨#[]⟩), (⟨#[99, 111, 110, 116, 101, 110, 116, 45, 108, 97, 110, 103, 117, 97, 103, 101]⟩, ⟨#[]⟩), (⟨#[99, 111, 110, 116, 101, 110, 116, 45, 108, 101, 110, 103, 116, 104]⟩, ⟨#[]⟩), (⟨#[99, 111, 110, 116, 101, 110, 116, 45, 108, 111, 99, 97, 116, 105, 111, 110]⟩, ⟨#[]⟩), (⟨#[99, 111, 110, 116, 101, 110, 116, 45, 114, 97, 110, 103, 101]⟩, ⟨#[]⟩), (⟨#[99, 111, 110, 116, 101, 110, 116, 45, 116, 121, 112, 101]⟩, ⟨#[]⟩), (⟨#[99, 111, 111, 107, 105, 101]⟩, ⟨#[]⟩), (⟨#[100, 97, 116, 101]⟩, ⟨#[]⟩), (⟨#[101, 116, 97, 103]⟩, ⟨#[]⟩), (⟨#[101, 120, 112, 101, 99, 116]⟩, ⟨#[]⟩), (⟨#[101, 120, 112, 105, 114, 101, 115]⟩, ⟨#[]⟩), (⟨#[102, 114, 111, 109]⟩, ⟨#[]⟩), (⟨#[104, 111, 115, 116]⟩, ⟨#[]⟩), (⟨#[105, 102, 45, 109, 97, 116, 99, 104]⟩, ⟨#[]⟩), (⟨#[105, 102, 45, 109, 111, 100, 105, 102, 105, 101, 100, 45, 115, 105, 110, 99, 101]⟩, ⟨#[]⟩), (⟨#[105, 102, 45, 110, 111, 110, 101, 45, 109, 97, 116, 99, 104]⟩, ⟨#[]⟩), (⟨#[105, 102, 45, 114, 97, 110, 103, 101]⟩, ⟨#[]⟩), (⟨#[105, 102, 45, 117, 110, 109, 111, 100, 105, 102, 105, 101, 100, 45, 115, 105, 110, 99, 101]⟩, ⟨#[]⟩), (⟨#[108, 97, 115, 116, 45, 109, 111, 100, 105, 102, 105, 101, 100]⟩, ⟨#[]⟩), (⟨#[108, 105, 110, 107]⟩, ⟨#[]⟩), (⟨#[108, 111, 99, 97, 116, 105, 111, 110]⟩, ⟨#[]⟩), (⟨#[109, 97, 120, 45, 102, 111, 114, 119, 97, 114, 100, 115]⟩, ⟨#[]⟩), (⟨#[112, 114, 111, 120, 121, 45, 97, 117, 116, 104, 101, 110, 116, 105, 99, 97, 116, 101]⟩, ⟨#[]⟩), (⟨#[112, 114, 111, 120, 121, 45, 97, 117, 116, 104, 111, 114, 105, 122, 97, 116, 105, 111, 110]⟩, ⟨#[]⟩), (⟨#[114, 97, 110, 103, 101]⟩, ⟨#[]⟩), (⟨#[114, 101, 102, 101, 114, 101, 114]⟩, ⟨#[]⟩), (⟨#[114, 101, 102, 114, 101, 115, 104]⟩, ⟨#[]⟩), (⟨#[114, 101, 116, 114, 121, 45, 97, 102, 116, 101, 114]⟩, ⟨#[]⟩), (⟨#[115, 101, 114, 118, 101, 114]⟩, ⟨#[]⟩), (⟨#[115, 101, 116, 45, 99, 111, 111, 107, 105, 101]⟩, ⟨#[]⟩), (⟨#[115, 116, 114, 105, 99, 116, 45, 116, 114, 97, 110, 115, 112, 111, 114, 116, 45, 115, 101, 99, 117, 114, 105, 116, 121]⟩, ⟨#[]⟩), (⟨#[116, 114, 97, 110, 115, 102, 101, 114, 45, 101, 110, 99, 111, 100, 105, 110, 103]⟩, ⟨#[]⟩), (⟨#[117, 115, 101, 114, 45, 97, 103, 101, 110, 116]⟩, ⟨#[]⟩), (⟨#[118, 97, 114, 121]⟩, ⟨#[]⟩), (⟨#[118, 105, 97]⟩, ⟨#[]⟩), (⟨#[119, 119, 119, 45, 97, 117, 116, 104, 101, 110, 116, 105, 99, 97, 116, 101]⟩, ⟨#[]⟩)]

def entCells : List Value := ents.flatMap fun p => [.string p.1, .string p.2]
def ent (n : Nat) : ByteArray × ByteArray := ents.getD n (⟨#[]⟩, ⟨#[]⟩)
def pairV (p : ByteArray × ByteArray) : Value := .agg #[.string p.1, .string p.2]


/-! ### entries, Entry, Get: by closed runs -/
def gEntries : List Value → Option Value
 | [] => some (.agg entCells.toArray)
 | _ => none
theorem runGet : (List.range 61).all (fun n => isRun EB 6 145 [.int .i64 (n + 1 : Nat)] (.tuple #[pairV (ent n), .int .i64 0])) = true := by kernel_rfl

def gGet : List Value → Option Value
 | [.int .i64 i] => if 1 ≤ i ∧ i ≤ 61 then some (.tuple #[pairV (ent (i - 1).toNat), .int .i64 0]) else some (.tuple #[pairV (⟨#[]⟩, ⟨#[]⟩), .int .i64 23])
 | _ => none
theorem outGet (i : Int) (h : ¬ (1 ≤ i ∧ i ≤ 61)) : LCalls EB 145 [.int .i64 i] LHeap.empty fun u _ => u = .tuple #[pairV (⟨#[]⟩, ⟨#[]⟩), .int .i64 23] := by
 refine LCalls.enter (lf := lf145) rfl rfl (by simp [lf145]) ?_
 simp only [go_sem, lf145, ↓reduceIte]
 by_cases h1 : i < 1
 ·simp only [go_sem, h1, ↓reduceIte, decide_true, pairV]
 ·have h2 : 61 < i := by omega
  simp only [go_sem, h1, h2, ↓reduceIte, decide_true, decide_false, pairV]

/-! ### numbers -/
theorem runRight : (List.range 8).all (fun n => isRun EB 4 117 [.int .i64 (n + 1 : Nat)] (.bool true)) = true := by kernel_rfl
theorem runFull : (List.range 9).all (fun n => isRun EB 4 118 [.int .i64 (n : Nat)] (.int .i64 ((2 ^ n - 1 : Nat) : Int))) = true := by kernel_rfl
def gRight : List Value → Option Value
 | [.int .i64 i] => if 1 ≤ i ∧ i ≤ 8 then some (.bool true) else none
 | _ => none
def gFull : List Value → Option Value
 | [.int .i64 i] => if 0 ≤ i ∧ i ≤ 8 then some (.int .i64 ((2 ^ i.toNat - 1 : Nat) : Int)) else none
 | _ => none

def kindV (c : Int) : Value :=
 if 128 ≤ c then .agg #[.int .i64 7, .bool true, .bool false, .bool false, .bool false] else
 if 64 ≤ c then .agg #[.int .i64 6, .bool false, .bool true, .bool false, .bool false] else
 if 32 ≤ c then .agg #[.int .i64 5, .bool false, .bool false, .bool true, .bool false] else
 if 16 ≤ c then .agg #[.int .i64 4, .bool false, .bool false, .bool false, .bool true] else
 .agg #[.int .i64 4, .bool false, .bool false, .bool false, .bool false]
theorem runKind : (List.range 256).all (fun n => isRun EB 4 96 [.int .u8 (n : Nat)] (kindV (n : Nat))) = true := by kernel_rfl
def gKind : List Value → Option Value
 | [.int .u8 i] => if 0 ≤ i ∧ i < 256 then some (kindV i) else none
 | _ => none
def szW (a b : ByteArray) : Int := IntKind.i64.wrap (IntKind.i64.wrap ((a.size : Int) + b.size) + 32)
def gSize : List Value → Option Value
 | [.agg ⟨[.string a, .string b]⟩] => some (.int .i64 (szW a b))
 | _ => none
theorem cSize (a b : ByteArray) : LCalls EB 65 [.agg #[.string a, .string b]] LHeap.empty fun v _ => v = .int .i64 (szW a b) := by
 refine LCalls.enter (lf := lf65) rfl rfl (by simp [lf65]) ?_
 simp only [go_sem, lf65, ↓reduceIte]
 rfl
/-- May it be a table's limit? -/
def gLim : List Value → Option Value
 | [.int .i64 i] => some (.bool (decide (0 ≤ i) && decide (i ≤ 65536)))
 | _ => none
theorem cLim (i : Int) : LCalls EB 93 [.int .i64 i] LHeap.empty fun v _ => v = .bool (decide (0 ≤ i) && decide (i ≤ 65536)) := by
 refine LCalls.enter (lf := lf93) rfl rfl (by simp [lf93]) ?_
 by_cases h1 : 0 ≤ i
 ·have h1' : i ≥ 0 := h1
  by_cases h2 : i ≤ 65536
  ·simp only [go_sem, lf93, ↓reduceIte, h1, h1', h2]
  ·simp only [go_sem, lf93, ↓reduceIte, h1, h1', h2]
 ·have h1' : ¬ i ≥ 0 := h1
  simp only [go_sem, lf93, ↓reduceIte, h1, h1']

noncomputable def EK : Env := (((((((EB.put 172 getP).add 173 gLong).add 145 gGet).add 117 gRight).add 118 gFull).add 96 gKind).add 65 gSize).add 93 gLim
theorem add_run {P : Program} {E E' : Env} (hE : EnvOk P E) (hE' : EnvOk P E') {f : FuncId} {g : List Value → Option Value}
  (hg : ∀ args v, g args = some v → plains args = true ∧ plain v = true ∧ ((∃ k, isRun E' k f args v = true) ∨ LCalls E' f args LHeap.empty fun u _ => u = v)) : EnvOk P (E.add f g) :=
 hE.add' f g fun args v h => by
  obtain ⟨h1, h2, h3⟩ := hg args v h
  refine ⟨h1, h2, ?_⟩
  rcases h3 with ⟨k, h3⟩ | h3
  ·exact isRun_sound hE' h3
  ·obtain ⟨u, h4, hs, rfl⟩ := h3.sound hE'
   exact ⟨h4, hs⟩
theorem EK_ok : EnvOk Tryz.prog EK := by
 have e0 := EB_ok.put 172 getP fun _ _ _ _ => getP_sound
 have e1 := add_run (f := 173) (g := gLong) e0 E0_ok fun args v h => by
  unfold gLong at h
  split at h
  ·rename_i i
   split at h
   ·rename_i hi
    cases h
    have := all_range runLong (i := i.toNat) (by omega)
    rw [show ((i.toNat : Nat) : Int) = i by omega] at this
    exact ⟨rfl, rfl, .inl ⟨_, this⟩⟩
   ·cases h
  ·cases h
 have e2 := e1
 have e3 := add_run (f := 145) (g := gGet) e2 EB_ok fun args v h => by
  unfold gGet at h
  split at h
  ·rename_i i
   split at h
   ·rename_i hi
    cases h
    have := all_range runGet (i := (i - 1).toNat) (by omega)
    rw [show (((i - 1).toNat + 1 : Nat) : Int) = i by omega] at this
    exact ⟨rfl, rfl, .inl ⟨_, this⟩⟩
   ·rename_i hi
    cases h
    exact ⟨rfl, rfl, .inr (outGet i hi)⟩
  ·cases h
 have e4 := add_run (f := 117) (g := gRight) e3 EB_ok fun args v h => by
  unfold gRight at h
  split at h
  ·rename_i i
   split at h
   ·rename_i hi
    cases h
    have := all_range runRight (i := (i - 1).toNat) (by omega)
    rw [show (((i - 1).toNat + 1 : Nat) : Int) = i by omega] at this
    exact ⟨rfl, rfl, .inl ⟨_, this⟩⟩
   ·cases h
  ·cases h
 have e5 := add_run (f := 118) (g := gFull) e4 EB_ok fun args v h => by
  unfold gFull at h
  split at h
  ·rename_i i
   split at h
   ·rename_i hi
    cases h
    have := all_range runFull (i := i.toNat) (by omega)
    rw [show ((i.toNat : Nat) : Int) = i by omega] at this
    exact ⟨rfl, rfl, .inl ⟨_, this⟩⟩
   ·cases h
  ·cases h
 have e6 := add_run (f := 96) (g := gKind) e5 EB_ok fun args v h => by
  unfold gKind at h
  split at h
  ·rename_i i
   split at h
   ·rename_i hi
    cases h
    have := all_range runKind (i := i.toNat) (by omega)
    rw [show ((i.toNat : Nat) : Int) = i by omega] at this
    refine ⟨rfl, ?_, .inl ⟨_, this⟩⟩
    unfold kindV
    split
    ·rfl
    ·split
     ·rfl
     ·split
      ·rfl
      ·split <;> rfl
   ·cases h
  ·cases h
 have e7 := add_run (f := 65) (g := gSize) e6 EB_ok fun args v h => by
  unfold gSize at h
  split at h
  ·rename_i a b
   cases h
   exact ⟨rfl, rfl, .inr (cSize a b)⟩
  ·cases h
 exact add_run (f := 93) (g := gLim) e7 EB_ok fun args v h => by
  unfold gLim at h
  split at h
  ·rename_i i
   cases h
   exact ⟨rfl, rfl, .inr (cLim i)⟩
  ·cases h

@[go_sem] theorem EB_prim (i : FuncId) : EB.prim i = none := Eq.trans rfl rfl
@[go_sem] theorem EK_prim (i : FuncId) : EK.prim i = ((((((((EB.put 172 getP).add 173 gLong).add 145 gGet).add 117 gRight).add 118 gFull).add 96 gKind).add 65 gSize).add 93 gLim).prim i := Eq.trans rfl rfl
attribute [go_sem] gLong gGet gRight gFull gKind gSize gLim
end Go.E1

/-
 The environment of the walks of the backend's reader: the law's fixed answer is a primitive, by a closed run.
-/
namespace Go.E1
open Go Go.Proofs

noncomputable def EG : Env := EK.put 92 growP
theorem EG_ok : EnvOk Tryz.prog EG := EK_ok.put 92 growP fun _ _ _ _ => growP_sound
@[go_sem] theorem EG_prim (i : FuncId) : EG.prim i = (EK.put 92 growP).prim i := Eq.trans rfl rfl

theorem runAwake23 : isRun EG 100 39 [] (.bool true) = true := by
 unfold isRun
 rw [← F.ev_eq]
 kernel_rfl
def gAwake : List Value → Option Value
 | [] => some (.bool true)
 | _ => none
noncomputable def EC : Env := EG.add 39 gAwake
theorem EC_ok : EnvOk Tryz.prog EC := add_run (f := 39) (g := gAwake) EG_ok EG_ok fun args v h => by
  unfold gAwake at h
  split at h
  ·cases h
   exact ⟨rfl, rfl, .inl ⟨_, runAwake23⟩⟩
  ·cases h
@[go_sem] theorem EC_prim (i : FuncId) : EC.prim i = (EG.add 39 gAwake).prim i := Eq.trans rfl rfl
attribute [go_sem] gAwake growP
end Go.E1

/-
 Layers 2, 3, 4, 6, 7: what they reckon, in plain Lean.
-/
namespace Go.M
open Go.E1

abbrev Bytes := List UInt8
abbrev Fld := ByteArray × ByteArray

/-! ### Numbers behind some bits -/
def pfxGo : Nat → Nat → Bytes → Nat × Nat × Nat
 | _, _, [] => (0, 0, 16)
 | i, n, c :: r => if 5 ≤ i then (0, 0, 22) else
  if 2147483647 < n + c.toNat % 128 * 2 ^ (7 * i) then (0, 0, 22) else
  if c.toNat < 128 then (n + c.toNat % 128 * 2 ^ (7 * i), i + 2, 0) else pfxGo (i + 1) (n + c.toNat % 128 * 2 ^ (7 * i)) r

def pfx (bits : Nat) : Bytes → Nat × Nat × Nat
 | [] => (0, 0, 16)
 | c :: r => if c.toNat % 2 ^ bits < 2 ^ bits - 1 then (c.toNat % 2 ^ bits, 1, 0) else pfxGo 0 (c.toNat % 2 ^ bits) r

theorem pfxGo_used : ∀ (i n : Nat) (l : Bytes), (pfxGo i n l).2.2 = 0 → (pfxGo i n l).2.1 ≤ l.length + i + 1 ∧ 2 ≤ (pfxGo i n l).2.1 ∧ (pfxGo i n l).1 ≤ 2147483647
 | i, n, [] => by simp [pfxGo]
 | i, n, c :: r => by
  simp only [pfxGo]
  split
  ·simp
  ·split
   ·simp
   ·split
    ·intro _; simp; omega
    ·intro h
     have := pfxGo_used (i + 1) _ r h
     simp only [List.length_cons]
     omega
theorem pfx_used (bits : Nat) (l : Bytes) (h : (pfx bits l).2.2 = 0) : (pfx bits l).2.1 ≤ l.length ∧ 1 ≤ (pfx bits l).2.1 ∧ (pfx bits l).1 ≤ 2147483647 := by
 cases l with
 | nil => simp [pfx] at h
 | cons c r =>
  simp only [pfx] at h ⊢
  have hc := c.toNat_lt
  split
  ·refine ⟨by simp, Nat.le_refl _, ?_⟩
   have : c.toNat % 2 ^ bits ≤ c.toNat := Nat.mod_le _ _
   simp only; omega
  ·rename_i hn
   rw [if_neg hn] at h
   have := pfxGo_used 0 _ r h
   simp only [List.length_cons]
   omega
theorem pfxGo_err : ∀ (i n : Nat) (l : Bytes), (pfxGo i n l).2.2 = 0 ∨ ((pfxGo i n l).1 = 0 ∧ (pfxGo i n l).2.1 = 0)
 | i, n, [] => by simp [pfxGo]
 | i, n, c :: r => by
  simp only [pfxGo]
  split
  ·simp
  ·split
   ·simp
   ·split
    ·simp
    ·exact pfxGo_err (i + 1) _ r
theorem pfx_err (bits : Nat) (l : Bytes) : (pfx bits l).2.2 = 0 ∨ ((pfx bits l).1 = 0 ∧ (pfx bits l).2.1 = 0) := by
 cases l with
 | nil => simp [pfx]
 | cons c r =>
  simp only [pfx]
  split
  ·simp
  ·exact pfxGo_err _ _ _

/-! ### The code -/
def cntAt (n : Nat) : Nat := huffCount.getD n 0
def fstAt (n : Nat) : Nat := huffFirst.getD n 0
def begAt (n : Nat) : Nat := huffBegins.getD n 0
def ordAt (n : Nat) : Nat := sortedSymbols.getD n 0

def symOf (code n : Nat) : Option Nat :=
 if n ≤ 30 ∧ 0 < cntAt n ∧ fstAt n ≤ code ∧ code - fstAt n < cntAt n then some (ordAt (begAt n + (code - fstAt n))) else none

def huffGo : List Bool → Nat → Nat → Bool → Bytes → Except Nat Bytes
 | [], _, n, ones, out => if 7 < n ∨ ones = false then .error 20 else .ok out
 | bit :: bs, code, n, ones, out => match symOf (2 * code + bit.toNat) (n + 1) with
  | none => huffGo bs (2 * code + bit.toNat) (n + 1) (ones && bit) out
  | some x => if x = 256 then .error 21 else huffGo bs 0 0 true (out ++ [UInt8.ofNat x])

def bits8 (c : UInt8) : List Bool := [c.toNat.testBit 7, c.toNat.testBit 6, c.toNat.testBit 5, c.toNat.testBit 4, c.toNat.testBit 3, c.toNat.testBit 2, c.toNat.testBit 1, c.toNat.testBit 0]
def bitsOf (l : Bytes) : List Bool := l.flatMap bits8
def huffDec (l : Bytes) : Except Nat Bytes := huffGo (bitsOf l) 0 0 true []

/-- The least number of so many bits that no code of at most so many bits begins. -/
def nxt : Nat → Nat
 | 0 => 0
 | n + 1 => 2 * nxt n + cntAt (n + 1)

/-! ### Texts -/
def litDec (limit : Nat) (b : Bytes) : Bytes × Nat × Nat :=
 if (pfx 7 b).2.2 ≠ 0 then ([], 0, (pfx 7 b).2.2) else
 if b.length - (pfx 7 b).2.1 < (pfx 7 b).1 then ([], 0, 16) else
 match (if 128 ≤ (b.headD 0).toNat then huffDec ((b.drop (pfx 7 b).2.1).take (pfx 7 b).1) else .ok ((b.drop (pfx 7 b).2.1).take (pfx 7 b).1)) with
 | .error e => ([], 0, e)
 | .ok s => if limit < s.length then ([], 0, 22) else (s, (pfx 7 b).2.1 + (pfx 7 b).1, 0)

/-! ### The table that moves: the oldest first -/
def fsz (f : Fld) : Nat := f.1.size + f.2.size + 32
def tsz (l : List Fld) : Nat := (l.map fsz).sum

def shrinkL (most : Int) : List Fld → List Fld
 | [] => []
 | e :: l => if most < (tsz (e :: l) : Int) then shrinkL most l else e :: l

def addL (limit : Nat) (l : List Fld) (f : Fld) : List Fld :=
 if fsz f ≤ limit then shrinkL ((limit : Int) - fsz f) l ++ [f] else shrinkL ((limit : Int) - fsz f) l

theorem tsz_shrink (most : Int) : ∀ l : List Fld, (tsz (shrinkL most l) : Int) ≤ most ∨ shrinkL most l = []
 | [] => .inr rfl
 | e :: l => by
  simp only [shrinkL]
  split
  ·exact tsz_shrink most l
  ·exact .inl (by omega)

/-! ### Blocks -/
structure St where
 L : List Fld
 limit : Nat

structure Ln where
 f : Fld
 never : Bool

def entryOf (s : St) (i : Nat) : Option Fld :=
 if i = 0 then none else if i ≤ 61 then some (Go.E1.ent (i - 1)) else s.L.reverse[i - 62]?

def toBA (l : Bytes) : ByteArray := ⟨l.toArray⟩

/-- What a form's first byte says: how many bits its number has. -/
def kbits (c : UInt8) : Nat := if 128 ≤ c.toNat then 7 else if 64 ≤ c.toNat then 6 else if 32 ≤ c.toNat then 5 else 4

inductive Out where
 | fail (e : Nat)
 | none
 | line (x : Ln)

/-- A field behind its number: it, what stands behind it, an error's number. -/
def fieldOf (s : St) (indexed : Bool) (n : Nat) (b : Bytes) : Fld × Bytes × Nat :=
 if 0 < n ∨ indexed = true then
  match entryOf s n with
  | .none => ((⟨#[]⟩, ⟨#[]⟩), [], 23)
  | some f => if indexed = true then (f, b, 0) else
   if (litDec 4096 b).2.2 ≠ 0 then ((⟨#[]⟩, ⟨#[]⟩), [], (litDec 4096 b).2.2) else ((f.1, toBA (litDec 4096 b).1), b.drop (litDec 4096 b).2.1, 0)
 else
  if (litDec 4096 b).2.2 ≠ 0 then ((⟨#[]⟩, ⟨#[]⟩), [], (litDec 4096 b).2.2) else
  if (litDec 4096 (b.drop (litDec 4096 b).2.1)).2.2 ≠ 0 then ((⟨#[]⟩, ⟨#[]⟩), [], (litDec 4096 (b.drop (litDec 4096 b).2.1)).2.2) else
   ((toBA (litDec 4096 b).1, toBA (litDec 4096 (b.drop (litDec 4096 b).2.1)).1), (b.drop (litDec 4096 b).2.1).drop (litDec 4096 (b.drop (litDec 4096 b).2.1)).2.1, 0)

/-- One form: the table then, what stands behind it, what it is. -/
def form (most : Nat) (s : St) (first : Bool) (c : UInt8) (b : Bytes) : St × Bytes × Out :=
 if (pfx (kbits c) b).2.2 ≠ 0 then (s, [], .fail (pfx (kbits c) b).2.2) else
 if 32 ≤ c.toNat ∧ c.toNat < 64 then
  if first = false ∨ most < (pfx (kbits c) b).1 then (s, [], .fail 24) else
   (⟨shrinkL (pfx (kbits c) b).1 s.L, (pfx (kbits c) b).1⟩, b.drop (pfx (kbits c) b).2.1, .none)
 else
  if (fieldOf s (decide (128 ≤ c.toNat)) (pfx (kbits c) b).1 (b.drop (pfx (kbits c) b).2.1)).2.2 ≠ 0 then
   (s, [], .fail (fieldOf s (decide (128 ≤ c.toNat)) (pfx (kbits c) b).1 (b.drop (pfx (kbits c) b).2.1)).2.2)
  else
   (if 64 ≤ c.toNat ∧ c.toNat < 128 then ⟨addL s.limit s.L (fieldOf s (decide (128 ≤ c.toNat)) (pfx (kbits c) b).1 (b.drop (pfx (kbits c) b).2.1)).1, s.limit⟩ else s,
    (fieldOf s (decide (128 ≤ c.toNat)) (pfx (kbits c) b).1 (b.drop (pfx (kbits c) b).2.1)).2.1,
    .line ⟨(fieldOf s (decide (128 ≤ c.toNat)) (pfx (kbits c) b).1 (b.drop (pfx (kbits c) b).2.1)).1, decide (16 ≤ c.toNat ∧ c.toNat < 32)⟩)

/-- A block, form by form. -/
def decGo (most bound : Nat) : Nat → St → Bytes → List Ln → Nat → St × Except Nat (List Ln)
 | 0, s, _, out, _ => (s, .ok out)
 | _ + 1, s, [], out, _ => (s, .ok out)
 | k + 1, s, c :: b, out, size => match form most s out.isEmpty c (c :: b) with
  | (s', _, .fail e) => (s', .error e)
  | (s', r, .none) => decGo most bound k s' r out size
  | (s', r, .line x) => if bound < size + fsz x.f then (s', .error 22) else decGo most bound k s' r (out ++ [x]) (size + fsz x.f)

structure Dec where
 st : St
 dead : Bool

def decode (most bound : Nat) (d : Dec) (b : Bytes) : Dec × Except Nat (List Ln) :=
 if d.dead then (d, .error 25) else
 match decGo most bound b.length d.st b [] 0 with
 | (s, .ok l) => (⟨s, false⟩, .ok l)
 | (s, .error e) => (⟨s, true⟩, .error e)

end Go.M

/-
 Layers 2, 3, 4: what their functions answer, over slices of bytes.
-/
namespace Go.E1
open Go Go.Proofs Go.M
set_option linter.unusedSimpArgs false

def bv (l : Bytes) : List Value := l.map fun b => .int .u8 b.toNat
theorem bv_len (l : Bytes) : (bv l).length = l.length := by simp [bv]

/-- A slice holds these bytes. -/
def BytesAt (h : LHeap) (v : Value) (l : Bytes) : Prop :=
 (l = [] ∧ ∃ c, v = .slice none 0 c) ∨ ∃ b o cs t r, v = .slice (some ⟨b, o, none⟩) l.length 1 ∧ b < h.size ∧ h.get b = some (.cells cs t r) ∧ o + l.length ≤ cs.length ∧ (cs.drop o).take l.length = bv l

theorem bytes_get {cs : List Value} {o : Nat} {l : Bytes} (hl : (cs.drop o).take l.length = bv l) {i : Nat} {c : UInt8} (hi : l[i]? = some c) : cs[o + i]? = some (.int .u8 c.toNat) := by
 have h1 : ((cs.drop o).take l.length)[i]? = some (.int .u8 c.toNat) := by rw [hl]; simp [bv, hi]
 have hlt : i < l.length := by
  rcases Nat.lt_or_ge i l.length with q | q
  ·exact q
  ·simp [List.getElem?_eq_none q] at hi
 rw [List.getElem?_take, if_pos hlt, List.getElem?_drop] at h1
 exact h1

theorem BytesAt.ext {h h' : LHeap} {v : Value} {l : Bytes} (hv : BytesAt h v l) (hx : Ext h h') : BytesAt h' v l := by
 rcases hv with h1 | ⟨b, o, cs, t, r, h1, h2, h3, h4, h5⟩
 ·exact .inl h1
 ·exact .inr ⟨b, o, cs, t, r, h1, Nat.lt_of_lt_of_le h2 hx.size, by rw [hx.get b h2]; exact h3, h4, h5⟩

theorem and_full : (List.range 256).all (fun c => (List.range 9).all fun k => decide (andI .i64 (c : Nat) ((2 ^ k - 1 : Nat) : Int) = ((c % 2 ^ k : Nat) : Int))) = true := by kernel_rfl
theorem and_full' {c k : Nat} (hc : c < 256) (hk : k ≤ 8) : andI .i64 (c : Nat) ((2 ^ k - 1 : Nat) : Int) = ((c % 2 ^ k : Nat) : Int) := by
 have := all_range and_full hc
 have := all_range this (i := k) (by omega)
 exact of_decide_eq_true this

theorem sPfx {h : LHeap} {v : Value} {l : Bytes} (hv : BytesAt h v l) (hl : l.length < 4611686018427387904) {bits : Nat} (hb1 : 1 ≤ bits) (hb2 : bits ≤ 8) :
  LCalls EC 94 [v, .int .i64 bits] h fun u h' => u = .tuple #[.int .i64 (pfx bits l).1, .int .i64 (pfx bits l).2.1, .int .i64 (pfx bits l).2.2] ∧ h' = h := by
 refine LCalls.enter (lf := lf94) rfl rfl (by simp [lf94]) ?_
 have b1 : (1 : Int) ≤ (bits : Int) := by omega
 have b2 : (bits : Int) ≤ 8 := by omega
 have b3 : (0 : Int) ≤ (bits : Int) := by omega
 rcases hv with ⟨rfl, c, rfl⟩ | ⟨b, o, cs, t, r, rfl, hbs, hg, hle, hcs⟩
 ·simp only [go_sem, lf94, ↓reduceIte, b1, b2, b3, pfx]
 ·cases l with
  | nil => simp only [go_sem, lf94, ↓reduceIte, b1, b2, b3, pfx, List.length_nil]
  | cons c rest =>
   have hc := bytes_get hcs (i := 0) (c := c) rfl
   have hl0 : ¬ ((rest.length + 1 : Nat) : Int) = 0 := by omega
   have hl1 : (0 : Int) < ((rest.length + 1 : Nat) : Int) := by omega
   have e0 : (((rest.length + 1 : Nat) : Int) == 0) = false := by simp; omega
   have hcl := c.toNat_lt
   have hand := and_full' (c := c.toNat) (k := bits) (by omega) hb2
   have hcw : IntKind.i64.wrap (c.toNat : Int) = (c.toNat : Int) := IntWalk.i64_in _ (by omega)
   simp only [Nat.add_zero] at hc
   simp only [go_sem, lf94, ↓reduceIte, b1, b2, b3, List.length_cons, e0]
   refine MC.dregion ?_
   simp only [go_sem, ↓reduceIte, b1, b2, b3, hl1, hg, hc, hcw, hand]
   have hpow : 2 ^ bits ≤ 2 ^ 8 := Nat.pow_le_pow_right (by decide) hb2
   have hpow1 : 2 ≤ 2 ^ bits := (Nat.pow_le_pow_right (by decide) hb1 : 2 ^ 1 ≤ 2 ^ bits)
   have hmod : c.toNat % 2 ^ bits < 2 ^ bits := Nat.mod_lt _ (by omega)
   by_cases hsm : c.toNat % 2 ^ bits < 2 ^ bits - 1
   ·have hsm' : ((c.toNat % 2 ^ bits : Nat) : Int) < ((2 ^ bits - 1 : Nat) : Int) := by omega
    simp only [go_sem, ↓reduceIte, b1, b2, b3, hsm']
    simp only [pfx, hsm, if_true]
    simp
   ·have hsm' : ¬ ((c.toNat % 2 ^ bits : Nat) : Int) < ((2 ^ bits - 1 : Nat) : Int) := by omega
    simp only [go_sem, ↓reduceIte, b1, b2, b3, hsm']
    simp only [pfx, hsm, if_false]
    refine MC.loop (fun m fr hh => ∃ (i n : Nat), fr = [(0, .slice (some ⟨b, o, none⟩) (rest.length + 1) 1), (4, .int .i64 n), (7, .int .i64 i)] ∧ hh = h ∧ i ≤ 5 ∧ n ≤ 2147483647 ∧ m = 6 - i ∧
     pfxGo i n (rest.drop i) = pfxGo 0 (c.toNat % 2 ^ bits) rest) 6 ⟨0, _, rfl, rfl, by omega, by omega, rfl, rfl⟩ ?_
    rintro m fr hh J ⟨i, n, rfl, rfl, hi, hn, rfl, hgo⟩ hJ
    have w1 : IntKind.i64.wrap ((i : Int) + 1) = ((i + 1 : Nat) : Int) := by rw [IntWalk.i64_in _ (by omega)]; rfl
    by_cases hend : rest.length ≤ i
    ·have c1 : ((rest.length + 1 : Nat) : Int) ≤ ((i + 1 : Nat) : Int) := by omega
     rw [List.drop_eq_nil_of_le hend] at hgo
     simp only [pfxGo] at hgo
     simp only [go_sem, ↓reduceIte, w1, c1]
     rw [← hgo]
     simp
    ·have c1 : ¬ ((rest.length + 1 : Nat) : Int) ≤ ((i + 1 : Nat) : Int) := by omega
     obtain ⟨d, hd⟩ : ∃ d, rest[i]? = some d := ⟨rest[i], by simp [show i < rest.length by omega]⟩
     have hdrop : rest.drop i = d :: rest.drop (i + 1) := by
      rw [List.drop_eq_getElem_cons (by omega)]
      rw [List.getElem?_eq_getElem (by omega)] at hd
      rw [Option.some.inj hd]
     rw [hdrop] at hgo
     simp only [pfxGo] at hgo
     by_cases h5 : 5 ≤ i
     ·have c2 : (5 : Int) ≤ (i : Int) := by omega
      rw [if_pos h5] at hgo
      simp only [go_sem, ↓reduceIte, w1, c1, c2]
      rw [← hgo]
      simp
     ·have c2 : ¬ (5 : Int) ≤ (i : Int) := by omega
      rw [if_neg h5] at hgo
      have hdc := bytes_get hcs (i := i + 1) (c := d) (by simpa using hd)
      have hdl := d.toNat_lt
      have c3 : (0 : Int) ≤ ((i + 1 : Nat) : Int) := by omega
      have c4 : ((i + 1 : Nat) : Int) < ((rest.length + 1 : Nat) : Int) := by omega
      have w2 : IntKind.i64.wrap (d.toNat : Int) = (d.toNat : Int) := IntWalk.i64_in _ (by omega)
      have w3 : IntKind.i64.wrap (7 * (i : Int)) = ((7 * i : Nat) : Int) := by rw [IntWalk.i64_in _ (by omega)]; omega
      have c5 : ¬ ((7 * i : Nat) : Int) < 0 := by omega
      have hp : 2 ^ (7 * i) ≤ 2 ^ 28 := Nat.pow_le_pow_right (by decide) (by omega)
      have hq : d.toNat % 128 * 2 ^ (7 * i) ≤ 127 * 2 ^ 28 := Nat.mul_le_mul (by omega) hp
      have w4 : (d.toNat : Int).tmod 128 = ((d.toNat % 128 : Nat) : Int) := rfl
      have w5 : shlI .i64 ((d.toNat % 128 : Nat) : Int) ((7 * i : Nat) : Int) = ((d.toNat % 128 * 2 ^ (7 * i) : Nat) : Int) := by
       unfold shlI
       have : min ((7 * i : Nat) : Int).toNat IntKind.i64.bits = 7 * i := by
        simp only [Int.toNat_natCast]
        exact Nat.min_eq_left (by show 7 * i ≤ 64; omega)
       rw [this]
       have e : ((d.toNat % 128 : Nat) : Int) * 2 ^ (7 * i) = ((d.toNat % 128 * 2 ^ (7 * i) : Nat) : Int) := by push_cast; rfl
       rw [e, IntWalk.i64_in _ (by omega)]
      have w6 : IntKind.i64.wrap ((n : Int) + ((d.toNat % 128 * 2 ^ (7 * i) : Nat) : Int)) = ((n + d.toNat % 128 * 2 ^ (7 * i) : Nat) : Int) := by rw [IntWalk.i64_in _ (by omega)]; omega
      simp only [go_sem, ↓reduceIte, w1, c1, c2, c3, c4, hg, hdc, w2, w3, w4, c5, w5, w6]
      by_cases h6 : 2147483647 < n + d.toNat % 128 * 2 ^ (7 * i)
      ·have c6 : (2147483647 : Int) < ((n + d.toNat % 128 * 2 ^ (7 * i) : Nat) : Int) := by omega
       rw [if_pos h6] at hgo
       simp only [go_sem, ↓reduceIte, c6]
       rw [← hgo]
       simp
      ·have c6 : ¬ (2147483647 : Int) < ((n + d.toNat % 128 * 2 ^ (7 * i) : Nat) : Int) := by omega
       rw [if_neg h6] at hgo
       by_cases h7 : d.toNat < 128
       ·have c7 : (d.toNat : Int) < 128 := by omega
        have w7 : IntKind.i64.wrap ((i : Int) + 2) = ((i + 2 : Nat) : Int) := by rw [IntWalk.i64_in _ (by omega)]; rfl
        rw [if_pos h7] at hgo
        simp only [go_sem, ↓reduceIte, c6, c7, w7]
        rw [← hgo]
        simp
       ·have c7 : ¬ (d.toNat : Int) < 128 := by omega
        rw [if_neg h7] at hgo
        simp only [go_sem, ↓reduceIte, c6, c7, w1]
        exact hJ (6 - (i + 1)) _ _ (by omega) ⟨i + 1, _, rfl, rfl, by omega, by omega, rfl, hgo⟩
end Go.E1

/-
 Layer 2: the code, read.
-/
namespace Go.E1
open Go Go.Proofs Go.M
set_option linter.unusedSimpArgs false

/-! ### The tables -/
noncomputable def isAt (n : Nat) (v : Value) : Bool := match nthR coder1 n with
 | some u => veq u v
 | none => false
theorem isAt_eq {n : Nat} {v : Value} (h : isAt n v = true) : coder1[n]? = some v := by
 unfold isAt at h
 split at h
 ·rename_i u hu
  rw [nthR_eq] at hu
  rw [hu, veq_eq _ _ h]
 ·cases h
theorem tabFirst : (List.range 31).all (fun n => isAt (518 + n) (.int .u32 (fstAt n)) && isAt (549 + n) (.int .i64 (cntAt n)) && isAt (580 + n) (.int .i64 (begAt n)) && decide (begAt n + cntAt n ≤ 257) && decide (fstAt n < 4294967296) && decide (cntAt n ≤ 257)) = true := by kernel_rfl
theorem tabOrder : (List.range 257).all (fun n => isAt (261 + n) (.int .i64 (ordAt n)) && decide (ordAt n < 257)) = true := by kernel_rfl
theorem tabNxt : (List.range 30).all (fun n => (decide (cntAt (n + 1) = 0) || decide (fstAt (n + 1) = 2 * nxt n))) = true := by kernel_rfl
theorem nxt30 : nxt 30 = 2 ^ 30 := by kernel_rfl
structure TabAt (n : Nat) : Prop where
 first : coder1[518 + n]? = some (.int .u32 (fstAt n))
 count : coder1[549 + n]? = some (.int .i64 (cntAt n))
 begins : coder1[580 + n]? = some (.int .i64 (begAt n))
 sum : begAt n + cntAt n ≤ 257
 small : fstAt n < 4294967296
 few : cntAt n ≤ 257
theorem tabAt {n : Nat} (hn : n ≤ 30) : TabAt n := by
 have := all_range tabFirst (i := n) (by omega)
 simp only [Bool.and_eq_true, decide_eq_true_eq] at this
 obtain ⟨⟨⟨⟨⟨h1, h2⟩, h3⟩, h4⟩, h5⟩, h6⟩ := this
 exact ⟨isAt_eq h1, isAt_eq h2, isAt_eq h3, h4, h5, h6⟩
theorem ordAt_at {n : Nat} (hn : n < 257) : coder1[261 + n]? = some (.int .i64 (ordAt n)) ∧ ordAt n < 257 := by
 have := all_range tabOrder (i := n) hn
 simp only [Bool.and_eq_true, decide_eq_true_eq] at this
 exact ⟨isAt_eq this.1, this.2⟩

def symV (code n : Nat) : Value := .int .i64 (match symOf code n with | some x => (x : Int) | none => -1)
theorem symOf_lt {code n x : Nat} (h : symOf code n = some x) : x < 257 := by
 unfold symOf at h
 split at h
 ·rename_i hc
  have := tabAt hc.1
  cases h
  exact (ordAt_at (by have := this.sum; omega)).2
 ·cases h

theorem sSym {h : LHeap} {sb : Nat} (hg : h.get sb = some (.cells coder1 true true)) {code n : Nat} (hc : code < 4294967296) (hn : n ≤ 30) :
  LCalls EC 174 [.pointer (some ⟨sb, 0, none⟩), .int .u32 code, .int .i64 n] h fun u h' => u = symV code n ∧ h' = h := by
 refine LCalls.enter (lf := lf174) rfl rfl (by simp [lf174]) ?_
 have ht := tabAt hn
 have h1 : (0 : Int) ≤ (n : Int) := by omega
 have h2 : (n : Int) < 31 := by omega
 have w1 : IntKind.i64.wrap (code : Int) = code := IntWalk.i64_in _ (by omega)
 have w2 : IntKind.i64.wrap (fstAt n : Int) = fstAt n := IntWalk.i64_in _ (by have := ht.small; omega)
 have w3 : IntKind.i64.wrap ((code : Int) - fstAt n) = (code : Int) - fstAt n := IntWalk.i64_in _ (by have := ht.small; omega)
 by_cases c1 : 0 < cntAt n
 ·have c1' : (0 : Int) < (cntAt n : Int) := by omega
  by_cases c2 : fstAt n ≤ code
  ·have c2' : (0 : Int) ≤ (code : Int) - fstAt n := by omega
   by_cases c3 : code - fstAt n < cntAt n
   ·have c3' : (code : Int) - fstAt n < (cntAt n : Int) := by omega
    have w4 : IntKind.i64.wrap ((begAt n : Int) + ((code : Int) - fstAt n)) = ((begAt n + (code - fstAt n) : Nat) : Int) := by rw [IntWalk.i64_in _ (by have := ht.sum; omega)]; omega
    have h3 : (0 : Int) ≤ ((begAt n + (code - fstAt n) : Nat) : Int) := by omega
    have h4 : ((begAt n + (code - fstAt n) : Nat) : Int) < 257 := by have := ht.sum; omega
    have ho := (ordAt_at (n := begAt n + (code - fstAt n)) (by have := ht.sum; omega)).1
    have hs : symOf code n = some (ordAt (begAt n + (code - fstAt n))) := by unfold symOf; rw [if_pos ⟨hn, c1, c2, c3⟩]
    simp only [go_sem, lf174, ↓reduceIte, h1, h2, w1, w2, w3, hg, ht.first, ht.count, c1', c2', c3']
    refine MC.dregion ?_
    simp only [go_sem, ↓reduceIte, h1, h2, hg, ht.begins, w4, h3, h4, ho]
    simp only [symV, hs]
   ·have c3' : ¬ (code : Int) - fstAt n < (cntAt n : Int) := by omega
    have hs : symOf code n = none := by unfold symOf; rw [if_neg fun h => c3 h.2.2.2]
    simp only [go_sem, lf174, ↓reduceIte, h1, h2, w1, w2, w3, hg, ht.first, ht.count, c1', c2', c3']
    simp only [symV, hs]
  ·have c2' : ¬ (0 : Int) ≤ (code : Int) - fstAt n := by omega
   have hs : symOf code n = none := by unfold symOf; rw [if_neg fun h => c2 h.2.2.1]
   simp only [go_sem, lf174, ↓reduceIte, h1, h2, w1, w2, w3, hg, ht.first, ht.count, c1', c2']
   simp only [symV, hs]
 ·have c1' : ¬ (0 : Int) < (cntAt n : Int) := by omega
  have hs : symOf code n = none := by unfold symOf; rw [if_neg fun h => c1 h.2.1]
  simp only [go_sem, lf174, ↓reduceIte, h1, h2, w1, w2, w3, hg, ht.first, ht.count, c1']
  simp only [symV, hs]

/-! ### Bits -/
theorem tabBit : (List.range 256).all (fun c => (List.range 8).all fun j => decide (andI .u32 (IntKind.u32.wrap (shrI .u8 (c : Nat) ((7 : Int) - (j : Nat)))) 1 = (((bits8 (UInt8.ofNat c)).getD j false).toNat : Int))) = true := by kernel_rfl
theorem bit_at (c : UInt8) {j : Nat} (hj : j < 8) : andI .u32 (IntKind.u32.wrap (shrI .u8 (c.toNat : Int) ((7 : Int) - (j : Nat)))) 1 = (((bits8 c).getD j false).toNat : Int) := by
 have := all_range tabBit (i := c.toNat) (by have := c.toNat_lt; omega)
 have := of_decide_eq_true (all_range this hj)
 rw [UInt8.ofNat_toNat] at this
 exact this

theorem or_bit {a : Nat} (ha : a < 2147483648) (b : Bool) : orI .u32 ((2 * a : Nat) : Int) (b.toNat : Int) = ((2 * a + b.toNat : Nat) : Int) := by
 have hb : b.toNat < 2 := by cases b <;> decide
 unfold orI
 have h1 : (BitVec.ofInt IntKind.u32.bits ((2 * a : Nat) : Int) ||| BitVec.ofInt IntKind.u32.bits (b.toNat : Int)).toNat = 2 * a + b.toNat := by
  rw [BitVec.toNat_or]
  have e : IntKind.u32.bits = 32 := rfl
  simp only [e, BitVec.toNat_ofInt]
  have e1 : ((((2 * a : Nat) : Int) % ((2 ^ 32 : Nat) : Int))).toNat = 2 * a := by omega
  have e2 : (((b.toNat : Int) % ((2 ^ 32 : Nat) : Int))).toNat = b.toNat := by omega
  rw [e1, e2]
  have := Nat.shiftLeft_add_eq_or_of_lt (i := 1) (b := b.toNat) (by omega) a
  rw [Nat.shiftLeft_eq, show a * 2 ^ 1 = 2 * a by omega] at this
  exact this.symm
 rw [h1]
 exact IntWalk.u32_in _ (by omega)

theorem nxt_step {n code : Nat} (hn : n ≤ 29) (h1 : nxt n ≤ code) (h2 : code < 2 ^ n) (b : Bool) (hs : symOf (2 * code + b.toNat) (n + 1) = none) :
  n + 1 ≤ 29 ∧ nxt (n + 1) ≤ 2 * code + b.toNat ∧ 2 * code + b.toNat < 2 ^ (n + 1) := by
 have hb : b.toNat < 2 := by cases b <;> decide
 have h3 : 2 * code + b.toNat < 2 ^ (n + 1) := by rw [Nat.pow_succ]; omega
 have ht := all_range tabNxt (i := n) (by omega)
 simp only [Bool.or_eq_true, decide_eq_true_eq] at ht
 have h4 : nxt (n + 1) ≤ 2 * code + b.toNat := by
  simp only [nxt]
  rcases Nat.eq_zero_or_pos (cntAt (n + 1)) with h | h
  ·omega
  ·have hf := ht.resolve_left (by omega)
   unfold symOf at hs
   split at hs
   ·cases hs
   ·rename_i hno
    have : ¬ 2 * code + b.toNat - fstAt (n + 1) < cntAt (n + 1) := fun hh => hno ⟨by omega, h, by omega, hh⟩
    omega
 refine ⟨?_, h4, h3⟩
 rcases Nat.lt_or_ge (n + 1) 30 with h | h
 ·omega
 ·have e : n + 1 = 30 := by omega
  rw [e, nxt30] at h4
  rw [e] at h3
  omega
end Go.E1
