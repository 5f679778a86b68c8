/-
  Texts joined: Base, RefA, Stat, Awk.
-/
import Derived.Test.YtdbjklgnhbmlaaaKg
import Derived.Test.YtdbjklgnhbmlaaaKlB
import Derived.Test.YtdbjklgnhbmlaaaKlC
import Derived.Test.YtdbjklgnhbmlaaaKlD
import Derived.Test.YtdbjklgnhbmlaaaKe
/-
  The environment: all the code of the seat, and the first primitives.
-/
namespace Go.E1
open Go Go.Proofs
set_option linter.unusedSimpArgs false

def tabAll : List (FuncId × LFunc) := tabA ++ (tabB ++ (tabC ++ tabD))
theorem tabAll_ok : ∀ p ∈ tabAll, ∃ fn ks nt, Try.prog.funcs[p.1]? = some fn ∧ cFunc Try.prog fn ks nt = some p.2 := by
  intro p hp
  unfold tabAll at hp
  rw [List.mem_append, List.mem_append, List.mem_append] at hp
  rcases hp with hp | hp | hp | hp
  · exact tabA_ok p hp
  · exact tabB_ok p hp
  · exact tabC_ok p hp
  · exact tabD_ok p hp

def qAll : List (TypeId × List Leaf) := [(27, [.str, .str]), (28, [.str, .str]), (47, [.str, .str, .bool])]
noncomputable def EB : Env := { code := tabR tabAll, prim := fun _ => none, q := qOf qAll }
theorem EB_ok : EnvOk Try.prog EB where
  orders := by kernel_rfl
  q := show QOk Try.prog (qOf qAll) from qOf_ok (by kernel_rfl)
  code := tabR_ok tabAll_ok
  prim := fun _ _ h => (nomatch h)

def ents : List (ByteArray × ByteArray) := [(⟨#[58, 97, 117, 116, 104, 111, 114, 105, 116, 121]⟩, ⟨#[]⟩), (⟨#[58, 109, 101, 116, 104, 111, 100]⟩, ⟨#[71, 69, 84]⟩), (⟨#[58, 109, 101, 116, 104, 111, 100]⟩, ⟨#[80, 79, 83, 84]⟩), (⟨#[58, 112, 97, 116, 104]⟩, ⟨#[47]⟩), (⟨#[58, 112, 97, 116, 104]⟩, ⟨#[47, 105, 110, 100, 101, 120, 46, 104, 116, 109, 108]⟩), (⟨#[58, 115, 99, 104, 101, 109, 101]⟩, ⟨#[104, 116, 116, 112]⟩), (⟨#[58, 115, 99, 104, 101, 109, 101]⟩, ⟨#[104, 116, 116, 112, 115]⟩), (⟨#[58, 115, 116, 97, 116, 117, 115]⟩, ⟨#[50, 48, 48]⟩), (⟨#[58, 115, 116, 97, 116, 117, 115]⟩, ⟨#[50, 48, 52]⟩), (⟨#[58, 115, 116, 97, 116, 117, 115]⟩, ⟨#[50, 48, 54]⟩), (⟨#[58, 115, 116, 97, 116, 117, 115]⟩, ⟨#[51, 48, 52]⟩), (⟨#[58, 115, 116, 97, 116, 117, 115]⟩, ⟨#[52, 48, 48]⟩), (⟨#[58, 115, 116, 97, 116, 117, 115]⟩, ⟨#[52, 48, 52]⟩), (⟨#[58, 115, 116, 97, 116, 117, 115]⟩, ⟨#[53, 48, 48]⟩), (⟨#[97, 99, 99, 101, 112, 116, 45, 99, 104, 97, 114, 115, 101, 116]⟩, ⟨#[]⟩), (⟨#[97, 99, 99, 101, 112, 116, 45, 101, 110, 99, 111, 100, 105, 110, 103]⟩, ⟨#[103, 122, 105, 112, 44, 32, 100, 101, 102, 108, 97, 116, 101]⟩), (⟨#[97, 99, 99, 101, 112, 116, 45, 108, 97, 110, 103, 117, 97, 103, 101]⟩, ⟨#[]⟩), (⟨#[97, 99, 99, 101, 112, 116, 45, 114, 97, 110, 103, 101, 115]⟩, ⟨#[]⟩), (⟨#[97, 99, 99, 101, 112, 116]⟩, ⟨#[]⟩), (⟨#[97, 99, 99, 101, 115, 115, 45, 99, 111, 110, 116, 114, 111, 108, 45, 97, 108, 108, 111, 119, 45, 111, 114, 105, 103, 105, 110]⟩, ⟨#[]⟩), (⟨#[97, 103, 101]⟩, ⟨#[]⟩), (⟨#[97, 108, 108, 111, 119]⟩, ⟨#[]⟩), (⟨#[97, 117, 116, 104, 111, 114, 105, 122, 97, 116, 105, 111, 110]⟩, ⟨#[]⟩), (⟨#[99, 97, 99, 104, 101, 45, 99, 111, 110, 116, 114, 111, 108]⟩, ⟨#[]⟩), (⟨#[99, 111, 110, 116, 101, 110, 116, 45, 100, 105, 115, 112, 111, 115, 105, 116, 105, 111, 110]⟩, ⟨#[]⟩), (⟨#[99, 111, 110, 116, 101, 110, 116, 45, 101, 110, 99, 111, 100, 105, 110, 103]⟩, ⟨#[]⟩), (⟨#[99, 111, 110, 116, 101, 110, 116, 45, 108, 97, 110, 103, 117, 97, 103, 101]⟩, ⟨#[]⟩), (⟨#[99, 111, 110, 116, 101, 110, 116, 45, 108, 101, 110, 103, 116, 104]⟩, ⟨#[]⟩), (⟨#[99, 111, 110, 116, 101, 110, 116, 45, 108, 111, 99, 97, 116, 105, 111, 110]⟩, ⟨#[]⟩), (⟨#[99, 111, 110, 116, 101, 110, 116, 45, 114, 97, 110, 103, 101]⟩, ⟨#[]⟩), (⟨#[99, 111, 110, 116, 101, 110, 116, 45, 116, 121, 112, 101]⟩, ⟨#[]⟩), (⟨#[99, 111, 111, 107, 105, 101]⟩, ⟨#[]⟩), (⟨#[100, 97, 116, 101]⟩, ⟨#[]⟩), (⟨#[101, 116, 97, 103]⟩, ⟨#[]⟩), (⟨#[101, 120, 112, 101, 99, 116]⟩, ⟨#[]⟩), (⟨#[101, 120, 112, 105, 114, 101, 115]⟩, ⟨#[]⟩), (⟨#[102, 114, 111, 109]⟩, ⟨#[]⟩), (⟨#[104, 111, 115, 116]⟩, ⟨#[]⟩), (⟨#[105, 102, 45, 109, 97, 116, 99, 104]⟩, ⟨#[]⟩), (⟨#[105, 102, 45, 109, 111, 100, 105, 102, 105, 101, 100, 45, 115, 105, 110, 99, 101]⟩, ⟨#[]⟩), (⟨#[105, 102, 45, 110, 111, 110, 101, 45, 109, 97, 116, 99, 104]⟩, ⟨#[]⟩), (⟨#[105, 102, 45, 114, 97, 110, 103, 101]⟩, ⟨#[]⟩), (⟨#[105, 102, 45, 117, 110, 109, 111, 100, 105, 102, 105, 101, 100, 45, 115, 105, 110, 99, 101]⟩, ⟨#[]⟩), (⟨#[108, 97, 115, 116, 45, 109, 111, 100, 105, 102, 105, 101, 100]⟩, ⟨#[]⟩), (⟨#[108, 105, 110, 107]⟩, ⟨#[]⟩), (⟨#[108, 111, 99, 97, 116, 105, 111, 110]⟩, ⟨#[]⟩), (⟨#[109, 97, 120, 45, 102, 111, 114, 119, 97, 114, 100, 115]⟩, ⟨#[]⟩), (⟨#[112, 114, 111, 120, 121, 45, 97, 117, 116, 104, 101, 110, 116, 105, 99, 97, 116, 101]⟩, ⟨#[]⟩), (⟨#[112, 114, 111, 120, 121, 45, 97, 117, 116, 104, 111, 114, 105, 122, 97, 116, 105, 111, 110]⟩, ⟨#[]⟩), (⟨#[114, 97, 110, 103, 101]⟩, ⟨#[]⟩), (⟨#[114, 101, 102, 101, 114, 101, 114]⟩, ⟨#[]⟩), (⟨#[114, 101, 102, 114, 101, 115, 104]⟩, ⟨#[]⟩), (⟨#[114, 101, 116, 114, 121, 45, 97, 102, 116, 101, 114]⟩, ⟨#[]⟩), (⟨#[115, 101, 114, 118, 101, 114]⟩, ⟨#[]⟩), (⟨#[115, 101, 116, 45, 99, 111, 111, 107, 105, 101]⟩, ⟨#[]⟩), (⟨#[115, 116, 114, 105, 99, 116, 45, 116, 114, 97, 110, 115, 112, 111, 114, 116, 45, 115, 101, 99, 117, 114, 105, 116, 121]⟩, ⟨#[]⟩), (⟨#[116, 114, 97, 110, 115, 102, 101, 114, 45, 101, 110, 99, 111, 100, 105, 110, 103]⟩, ⟨#[]⟩), (⟨#[117, 115, 101, 114, 45, 97, 103, 101, 110, 116]⟩, ⟨#[]⟩), (⟨#[118, 97, 114, 121]⟩, ⟨#[]⟩), (⟨#[118, 105, 97]⟩, ⟨#[]⟩), (⟨#[119, 119, 119, 45, 97, 117, 116, 104, 101, 110, 116, 105, 99, 97, 116, 101]⟩, ⟨#[]⟩)]

def entCells : List Value := ents.flatMap fun p => [.string p.1, .string p.2]
def ent (n : Nat) : ByteArray × ByteArray := ents.getD n (⟨#[]⟩, ⟨#[]⟩)
def pairV (p : ByteArray × ByteArray) : Value := .agg #[.string p.1, .string p.2]


/-! ### entries, Entry, Get: by closed runs -/
def gEntries : List Value → Option Value
  | [] => some (.agg entCells.toArray)
  | _ => none
theorem runEntries : isRun EB 4 45 [] (.agg entCells.toArray) = true := by kernel_rfl
theorem runEntry : (List.range 61).all (fun n => isRun EB 4 16 [.int .i64 (n + 1 : Nat)] (pairV (ent n))) = true := by kernel_rfl
theorem runGet : (List.range 61).all (fun n => isRun EB 6 41 [.int .i64 (n + 1 : Nat)] (.tuple #[pairV (ent n), .int .i64 0])) = true := by kernel_rfl

def gEntry : List Value → Option Value
  | [.int .i64 i] => if 1 ≤ i ∧ i ≤ 61 then some (pairV (ent (i - 1).toNat)) else none
  | _ => none
def gGet : List Value → Option Value
  | [.int .i64 i] => if 1 ≤ i ∧ i ≤ 61 then some (.tuple #[pairV (ent (i - 1).toNat), .int .i64 0]) else some (.tuple #[pairV (⟨#[]⟩, ⟨#[]⟩), .int .i64 23])
  | _ => none
theorem outGet (i : Int) (h : ¬ (1 ≤ i ∧ i ≤ 61)) : LCalls EB 41 [.int .i64 i] LHeap.empty fun u _ => u = .tuple #[pairV (⟨#[]⟩, ⟨#[]⟩), .int .i64 23] := by
  refine LCalls.enter (lf := lf41) rfl rfl (by simp [lf41]) ?_
  simp only [go_sem, lf41, ↓reduceIte]
  by_cases h1 : i < 1
  · simp only [go_sem, h1, ↓reduceIte, decide_true, pairV]
  · have h2 : 61 < i := by omega
    simp only [go_sem, h1, h2, ↓reduceIte, decide_true, decide_false, pairV]

/-! ### numbers -/
theorem runRight : (List.range 8).all (fun n => isRun EB 4 81 [.int .i64 (n + 1 : Nat)] (.bool true)) = true := by kernel_rfl
theorem runFull : (List.range 9).all (fun n => isRun EB 4 82 [.int .i64 (n : Nat)] (.int .i64 ((2 ^ n - 1 : Nat) : Int))) = true := by kernel_rfl
def gRight : List Value → Option Value
  | [.int .i64 i] => if 1 ≤ i ∧ i ≤ 8 then some (.bool true) else none
  | _ => none
def gFull : List Value → Option Value
  | [.int .i64 i] => if 0 ≤ i ∧ i ≤ 8 then some (.int .i64 ((2 ^ i.toNat - 1 : Nat) : Int)) else none
  | _ => none

def kindV (c : Int) : Value :=
  if 128 ≤ c then .agg #[.int .i64 7, .bool true, .bool false, .bool false, .bool false] else
  if 64 ≤ c then .agg #[.int .i64 6, .bool false, .bool true, .bool false, .bool false] else
  if 32 ≤ c then .agg #[.int .i64 5, .bool false, .bool false, .bool true, .bool false] else
  if 16 ≤ c then .agg #[.int .i64 4, .bool false, .bool false, .bool false, .bool true] else
  .agg #[.int .i64 4, .bool false, .bool false, .bool false, .bool false]
theorem runKind : (List.range 256).all (fun n => isRun EB 4 69 [.int .u8 (n : Nat)] (kindV (n : Nat))) = true := by kernel_rfl
def gKind : List Value → Option Value
  | [.int .u8 i] => if 0 ≤ i ∧ i < 256 then some (kindV i) else none
  | _ => none
def szW (a b : ByteArray) : Int := IntKind.i64.wrap (IntKind.i64.wrap ((a.size : Int) + b.size) + 32)
def gSize : List Value → Option Value
  | [.agg ⟨[.string a, .string b]⟩] => some (.int .i64 (szW a b))
  | _ => none
theorem cSize (a b : ByteArray) : LCalls EB 29 [.agg #[.string a, .string b]] LHeap.empty fun v _ => v = .int .i64 (szW a b) := by
  refine LCalls.enter (lf := lf29) rfl rfl (by simp [lf29]) ?_
  simp only [go_sem, lf29, ↓reduceIte]
  rfl
/-- May it be a table's limit? -/
def gLim : List Value → Option Value
  | [.int .i64 i] => some (.bool (decide (0 ≤ i) && decide (i ≤ 65536)))
  | _ => none
theorem cLim (i : Int) : LCalls EB 68 [.int .i64 i] LHeap.empty fun v _ => v = .bool (decide (0 ≤ i) && decide (i ≤ 65536)) := by
  refine LCalls.enter (lf := lf68) rfl rfl (by simp [lf68]) ?_
  by_cases h1 : 0 ≤ i
  · have h1' : i ≥ 0 := h1
    by_cases h2 : i ≤ 65536
    · simp only [go_sem, lf68, ↓reduceIte, h1, h1', h2]
    · simp only [go_sem, lf68, ↓reduceIte, h1, h1', h2]
  · have h1' : ¬ i ≥ 0 := h1
    simp only [go_sem, lf68, ↓reduceIte, h1, h1']

noncomputable def EK : Env := ((((((((EB.put 105 getP).add 106 gLong).add 16 gEntry).add 41 gGet).add 81 gRight).add 82 gFull).add 69 gKind).add 29 gSize).add 68 gLim
theorem add_run {P : Program} {E E' : Env} (hE : EnvOk P E) (hE' : EnvOk P E') {f : FuncId} {g : List Value → Option Value}
    (hg : ∀ args v, g args = some v → plains args = true ∧ plain v = true ∧ ((∃ k, isRun E' k f args v = true) ∨ LCalls E' f args LHeap.empty fun u _ => u = v)) : EnvOk P (E.add f g) :=
  hE.add' f g fun args v h => by
    obtain ⟨h1, h2, h3⟩ := hg args v h
    refine ⟨h1, h2, ?_⟩
    rcases h3 with ⟨k, h3⟩ | h3
    · exact isRun_sound hE' h3
    · obtain ⟨u, h4, hs, rfl⟩ := h3.sound hE'
      exact ⟨h4, hs⟩
theorem EK_ok : EnvOk Try.prog EK := by
  have e0 := EB_ok.put 105 getP fun _ _ _ _ => getP_sound
  have e1 := add_run (f := 106) (g := gLong) e0 E0_ok fun args v h => by
    unfold gLong at h
    split at h
    · rename_i i
      split at h
      · rename_i hi
        cases h
        have := all_range runLong (i := i.toNat) (by omega)
        rw [show ((i.toNat : Nat) : Int) = i by omega] at this
        exact ⟨rfl, rfl, .inl ⟨_, this⟩⟩
      · cases h
    · cases h
  have e2 := add_run (f := 16) (g := gEntry) e1 EB_ok fun args v h => by
    unfold gEntry at h
    split at h
    · rename_i i
      split at h
      · rename_i hi
        cases h
        have := all_range runEntry (i := (i - 1).toNat) (by omega)
        rw [show (((i - 1).toNat + 1 : Nat) : Int) = i by omega] at this
        exact ⟨rfl, rfl, .inl ⟨_, this⟩⟩
      · cases h
    · cases h
  have e3 := add_run (f := 41) (g := gGet) e2 EB_ok fun args v h => by
    unfold gGet at h
    split at h
    · rename_i i
      split at h
      · rename_i hi
        cases h
        have := all_range runGet (i := (i - 1).toNat) (by omega)
        rw [show (((i - 1).toNat + 1 : Nat) : Int) = i by omega] at this
        exact ⟨rfl, rfl, .inl ⟨_, this⟩⟩
      · rename_i hi
        cases h
        exact ⟨rfl, rfl, .inr (outGet i hi)⟩
    · cases h
  have e4 := add_run (f := 81) (g := gRight) e3 EB_ok fun args v h => by
    unfold gRight at h
    split at h
    · rename_i i
      split at h
      · rename_i hi
        cases h
        have := all_range runRight (i := (i - 1).toNat) (by omega)
        rw [show (((i - 1).toNat + 1 : Nat) : Int) = i by omega] at this
        exact ⟨rfl, rfl, .inl ⟨_, this⟩⟩
      · cases h
    · cases h
  have e5 := add_run (f := 82) (g := gFull) e4 EB_ok fun args v h => by
    unfold gFull at h
    split at h
    · rename_i i
      split at h
      · rename_i hi
        cases h
        have := all_range runFull (i := i.toNat) (by omega)
        rw [show ((i.toNat : Nat) : Int) = i by omega] at this
        exact ⟨rfl, rfl, .inl ⟨_, this⟩⟩
      · cases h
    · cases h
  have e6 := add_run (f := 69) (g := gKind) e5 EB_ok fun args v h => by
    unfold gKind at h
    split at h
    · rename_i i
      split at h
      · rename_i hi
        cases h
        have := all_range runKind (i := i.toNat) (by omega)
        rw [show ((i.toNat : Nat) : Int) = i by omega] at this
        refine ⟨rfl, ?_, .inl ⟨_, this⟩⟩
        unfold kindV
        split
        · rfl
        · split
          · rfl
          · split
            · rfl
            · split <;> rfl
      · cases h
    · cases h
  have e7 := add_run (f := 29) (g := gSize) e6 EB_ok fun args v h => by
    unfold gSize at h
    split at h
    · rename_i a b
      cases h
      exact ⟨rfl, rfl, .inr (cSize a b)⟩
    · cases h
  exact add_run (f := 68) (g := gLim) e7 EB_ok fun args v h => by
    unfold gLim at h
    split at h
    · rename_i i
      cases h
      exact ⟨rfl, rfl, .inr (cLim i)⟩
    · cases h

@[go_sem] theorem EB_prim (i : FuncId) : EB.prim i = none := Eq.trans rfl rfl
@[go_sem] theorem EK_prim (i : FuncId) : EK.prim i = (((((((((EB.put 105 getP).add 106 gLong).add 16 gEntry).add 41 gGet).add 81 gRight).add 82 gFull).add 69 gKind).add 29 gSize).add 68 gLim).prim i := Eq.trans rfl rfl
attribute [go_sem] gLong gEntry gGet gRight gFull gKind gSize gLim
end Go.E1

/-
  The document's answers: tables by closed runs.
-/
namespace Go.E1
open Go Go.Proofs

theorem runRefLen : (List.range 257).all (fun n => isRun EB 4 97 [.int .i64 n] (.int .i64 (lenOf n))) = true := by kernel_rfl
noncomputable def gRefLen : List Value → Option Value
  | [.int .i64 i] => if 0 ≤ i ∧ i < 257 then some (.int .i64 (lenOf i.toNat)) else none
  | _ => none
theorem refLen_run {E : Env} (hE : EnvOk Try.prog E) : EnvOk Try.prog (E.add 97 gRefLen) :=
  add_run (f := 97) (g := gRefLen) hE EB_ok fun args v h => by
    unfold gRefLen at h
    split at h
    · rename_i i
      split at h
      · rename_i hi
        cases h
        have := all_range runRefLen (i := i.toNat) (by omega)
        rw [show ((i.toNat : Nat) : Int) = i by omega] at this
        exact ⟨rfl, rfl, .inl ⟨_, this⟩⟩
      · cases h
    · cases h

theorem runPow : (List.range 9).all (fun n => isRun EB 20 75 [.int .i64 n] (.int .i64 ((2 ^ n : Nat) : Int))) = true := by kernel_rfl
def gPow : List Value → Option Value
  | [.int .i64 i] => if 0 ≤ i ∧ i ≤ 8 then some (.int .i64 ((2 ^ i.toNat : Nat) : Int)) else none
  | _ => none

noncomputable def EG : Env := EK.put 85 growP
theorem EG_ok : EnvOk Try.prog EG := EK_ok.put 85 growP fun _ _ _ _ => growP_sound
@[go_sem] theorem EG_prim (i : FuncId) : EG.prim i = (EK.put 85 growP).prim i := Eq.trans rfl rfl

noncomputable def ER : Env := (EG.add 97 gRefLen).add 75 gPow
theorem ER_ok : EnvOk Try.prog ER := by
  have e1 := refLen_run EG_ok
  exact add_run (f := 75) (g := gPow) e1 EB_ok fun args v h => by
    unfold gPow at h
    split at h
    · rename_i i
      split at h
      · rename_i hi
        cases h
        have := all_range runPow (i := i.toNat) (by omega)
        rw [show ((i.toNat : Nat) : Int) = i by omega] at this
        exact ⟨rfl, rfl, .inl ⟨_, this⟩⟩
      · cases h
    · cases h
@[go_sem] theorem ER_prim (i : FuncId) : ER.prim i = ((EG.add 97 gRefLen).add 75 gPow).prim i := Eq.trans rfl rfl
attribute [go_sem] gRefLen gPow growP
end Go.E1

/-
  Layer 5: what its functions answer, as primitives.
-/
namespace Go.E1
open Go Go.Proofs
set_option linter.unusedSimpArgs false

noncomputable def ES0 : Env := ER.add 45 gEntries
theorem ES0_ok : EnvOk Try.prog ES0 := add_run (f := 45) (g := gEntries) ER_ok EB_ok fun args v h => by
  unfold gEntries at h
  split at h
  · cases h; exact ⟨rfl, by kernel_rfl, .inl ⟨_, runEntries⟩⟩
  · cases h
@[go_sem] theorem ES0_prim (i : FuncId) : ES0.prim i = (ER.add 45 gEntries).prim i := Eq.trans rfl rfl
attribute [go_sem] gEntries

theorem len_cells : entCells.length = 122 := by kernel_rfl
theorem one_cells : oneCells entCells = true := by kernel_rfl

theorem c35 (h : LHeap) : LCalls ES0 87 [] h fun v h' => ∃ b, v = .slice (some ⟨b, 0, none⟩) 61 2 ∧ h'.get b = some (.cells entCells true true) ∧ Ext h h' ∧ h.size ≤ b ∧ b < h'.size := by
  refine LCalls.enter (lf := lf87) rfl rfl (by simp [lf87]) ?_
  have hs : splice [Value.string ⟨#[]⟩] 0 entCells = entCells := by
    simp only [splice, List.take_zero, List.nil_append, Nat.zero_add, len_cells]
    simp
  simp only [go_sem, lf87, ↓reduceIte, len_cells, one_cells]
  rw [x_sliceArr0 (cs := entCells) (t := true) (r := true) 61 2 _ _ (by simp) (by simp [len_cells])]
  simp only [go_sem]
  refine ⟨h.size, rfl, ?_, ?_, Nat.le_refl _, ?_⟩
  · simp [go_sem, hs]
  · exact ((Ext.push h _).set (Nat.le_refl _) _)
  · simp

def cellsOf (l : List (ByteArray × ByteArray)) : List Value := l.flatMap fun p => [.string p.1, .string p.2]
theorem cellsOf_len (l : List (ByteArray × ByteArray)) : (cellsOf l).length = 2 * l.length := by
  induction l with
  | nil => rfl
  | cons p l ih => simp only [cellsOf, List.flatMap_cons, List.length_append, List.length_cons, List.length_nil] at ih ⊢; omega
theorem cellsOf_at : ∀ (l : List (ByteArray × ByteArray)) (i : Nat) (p : ByteArray × ByteArray), l[i]? = some p → ((cellsOf l).drop (i * 2)).take 2 = [.string p.1, .string p.2]
  | [], i, p, h => by simp at h
  | x :: l, 0, p, h => by
    simp only [List.getElem?_cons_zero, Option.some.injEq] at h
    subst h
    simp [cellsOf]
  | x :: l, i + 1, p, h => by
    have := cellsOf_at l i p (by simpa using h)
    rw [← this]
    have e : (i + 1) * 2 = i * 2 + 2 := by omega
    simp only [cellsOf, List.flatMap_cons, e]
    rfl

/-- Where the first is, or -1. -/
def ixOf (p : ByteArray × ByteArray → Bool) (l : List (ByteArray × ByteArray)) : Int := match l.findIdx? p with
  | some k => (k : Int)
  | none => -1

theorem ixOf_hit {p : ByteArray × ByteArray → Bool} {l : List (ByteArray × ByteArray)} {i : Nat} {x : ByteArray × ByteArray} (hx : l[i]? = some x) (hp : p x = true) (no : ∀ e ∈ l.take i, p e = false) : ixOf p l = i := by
  have : l.findIdx? p = some i := by
    rw [List.findIdx?_eq_some_iff_getElem]
    obtain ⟨hi, e⟩ := List.getElem?_eq_some_iff.1 hx
    refine ⟨hi, by rw [e]; exact hp, fun j hj => ?_⟩
    have := no (l[j]'(by omega)) (by rw [List.mem_take_iff_getElem]; exact ⟨j, by omega, rfl⟩)
    simp [this]
  simp [ixOf, this]
theorem ixOf_none {p : ByteArray × ByteArray → Bool} {l : List (ByteArray × ByteArray)} (no : ∀ e ∈ l, p e = false) : ixOf p l = -1 := by
  have : l.findIdx? p = none := by
    rw [List.findIdx?_eq_none_iff]
    exact no
  simp [ixOf, this]

theorem c34 {E : Env} (hp : E.prim 86 = none) (hc : E.code 86 = some lf86) {b : Nat} (L : List (ByteArray × ByteArray)) (p : ByteArray × ByteArray → Bool) (g : FuncId) (hpg : E.prim g = none) (cap : Array Value) {h : LHeap} (I : LHeap → Prop)
    (hb : ∀ h', I h' → ∃ t r, h'.get b = some (.cells (cellsOf L) t r)) (hcall : ∀ e ∈ L, ∀ h', I h' → LCalls E g (pairV e :: cap.toList) h' fun v h'' => v = .bool (p e) ∧ I h'')
    (hI : I h) (hlen : L.length < 4611686018427387904) : LCalls E 86 [.slice (some ⟨b, 0, none⟩) L.length 2, .func (.func g) #[] cap] h fun v h' => v = .int .i64 (ixOf p L) ∧ I h' := by
  refine LCalls.enter hp hc (by simp [lf86]) ?_
  simp only [go_sem, lf86, ↓reduceIte]
  refine MC.loop (fun m fr hh => ∃ i, fr = [(0, .slice (some ⟨b, 0, none⟩) L.length 2), (1, .func (.func g) #[] cap), (7, .int .i64 L.length), (8, .int .i64 (i : Nat))] ∧ i ≤ L.length ∧ m = L.length - i ∧ (∀ e ∈ L.take i, p e = false) ∧ I hh) L.length
    ⟨0, rfl, Nat.zero_le _, rfl, by simp, hI⟩ ?_
  rintro m fr hh J ⟨i, rfl, hi, rfl, hno, hII⟩ hJ
  simp only [go_sem, ↓reduceIte]
  by_cases hlt : i < L.length
  · have hlt' : (i : Int) < (L.length : Int) := by omega
    obtain ⟨t, r, hg⟩ := hb hh hII
    obtain ⟨e, he⟩ : ∃ e, L[i]? = some e := ⟨L[i], by simp [hlt]⟩
    have hz : (0 : Int) ≤ (i : Int) := by omega
    have hlen2 : i * 2 + 2 ≤ (cellsOf L).length := by rw [cellsOf_len]; omega
    simp only [go_sem, hlt', decide_true, ↓reduceIte, hz, Int.toNat_natCast, hg, hlen2, cellsOf_at L i e he, hpg]
    refine MCall.by (hcall e (List.mem_of_getElem? he) hh hII) ?_
    rintro v h' ⟨rfl, hI'⟩
    cases hpe : p e
    · simp only [go_sem, ↓reduceIte]
      refine hJ (L.length - (i + 1)) _ _ (by omega) ⟨i + 1, ?_, by omega, rfl, ?_, hI'⟩
      · rw [IntWalk.i64_in _ (by omega)]
        rfl
      · intro x hx
        rw [List.take_add_one, List.mem_append] at hx
        rcases hx with hx | hx
        · exact hno x hx
        · rw [he] at hx
          simp only [Option.toList_some, List.mem_singleton] at hx
          rw [hx]; exact hpe
    · simp only [go_sem, ↓reduceIte]
      refine ⟨?_, hI'⟩
      rw [ixOf_hit he hpe hno]
  · have hlt' : ¬ (i : Int) < (L.length : Int) := by omega
    simp only [go_sem, hlt', decide_false, ↓reduceIte]
    refine ⟨?_, hII⟩
    rw [ixOf_none]
    rw [List.take_of_length_le (by omega)] at hno
    exact hno

theorem ixOf_in (p : ByteArray × ByteArray → Bool) (l : List (ByteArray × ByteArray)) : -1 ≤ ixOf p l ∧ ixOf p l < l.length := by
  unfold ixOf
  split
  · rename_i k hk
    obtain ⟨hlt, _⟩ := List.findIdx?_eq_some_iff_getElem.1 hk
    omega
  · omega
theorem len_ents : ents.length = 61 := rfl
theorem cells_ents : cellsOf ents = entCells := rfl

theorem c27 {h : LHeap} (p : ByteArray × ByteArray → Bool) (g : FuncId) (hpg : ES0.prim g = none) (cap : Array Value) (hcall : ∀ e ∈ ents, ∀ h', Ext h h' → LCalls ES0 g (pairV e :: cap.toList) h' fun v h'' => v = .bool (p e) ∧ Ext h' h'') :
    LCalls ES0 65 [.func (.func g) #[] cap] h fun v h' => v = .int .i64 (ixOf p ents + 1) ∧ Ext h h' := by
  refine LCalls.enter (lf := lf65) rfl rfl (by simp [lf65]) ?_
  simp only [go_sem, lf65, ↓reduceIte]
  refine MCall.by (c35 h) ?_
  rintro v h1 ⟨b, rfl, hg, hx, hle, hlt⟩
  simp only [go_sem, ↓reduceIte]
  refine MCall.by (c34 (E := ES0) rfl rfl (b := b) ents p g hpg cap (h := h1) (fun h' => Ext h1 h') ?_ ?_ (Ext.refl h1) (by rw [len_ents]; omega)) ?_
  · intro h' hI
    exact ⟨true, true, by rw [hI.get b hlt, hg, cells_ents]⟩
  · intro e he h' hI
    exact (hcall e he h' (hx.trans hI)).mono fun v h'' ⟨a, b⟩ => ⟨a, hI.trans b⟩
  · rintro v h2 ⟨rfl, hI⟩
    have := ixOf_in p ents
    rw [len_ents] at this
    simp only [go_sem, ↓reduceIte]
    exact ⟨by rw [IntWalk.i64_in _ (by omega)], hx.trans hI⟩

def fEq (a b : ByteArray) (e : ByteArray × ByteArray) : Bool := (e.1.data.toList == a.data.toList) && ((e.2.data.toList == b.data.toList) && true)
def nEq (a : ByteArray) (e : ByteArray × ByteArray) : Bool := e.1.data.toList == a.data.toList

@[go_sem] theorem q23 (c d a b : ByteArray) : ES0.q 27 (.agg #[.string c, .string d]) (.agg #[.string a, .string b]) = some (fEq a b (c, d)) := Eq.trans rfl rfl

theorem c28 {h : LHeap} {pb : Nat} {a b : ByteArray} {t r : Bool} (hg : h.get pb = some (.cells [.string a, .string b] t r)) (hlt : pb < h.size) (e : ByteArray × ByteArray) :
    LCalls ES0 66 [pairV e, .pointer (some ⟨pb, 0, none⟩)] h fun v h' => v = .bool (fEq a b e) ∧ Ext h h' := by
  refine LCalls.enter (lf := lf66) rfl rfl (by simp [lf66]) ?_
  have hne : ¬ pb = h.size := by omega
  simp only [go_sem, lf66, ↓reduceIte, pairV, hne, hg]
  exact Ext.push _ _

def nameIx (a : ByteArray) : Int := ixOf (nEq a) ents + 1
def fieldIx (a b : ByteArray) : Int := ixOf (fEq a b) ents + 1
theorem nameIx_in (a : ByteArray) : 0 ≤ nameIx a ∧ nameIx a ≤ 61 := by
  have := ixOf_in (nEq a) ents
  rw [len_ents] at this
  unfold nameIx; omega
theorem fieldIx_in (a b : ByteArray) : 0 ≤ fieldIx a b ∧ fieldIx a b ≤ 61 := by
  have := ixOf_in (fEq a b) ents
  rw [len_ents] at this
  unfold fieldIx; omega

theorem c29 {h : LHeap} {pb : Nat} {a : ByteArray} {t r : Bool} (hg : h.get pb = some (.cells [.string a] t r)) (hlt : pb < h.size) (e : ByteArray × ByteArray) :
    LCalls ES0 67 [pairV e, .pointer (some ⟨pb, 0, none⟩)] h fun v h' => v = .bool (nEq a e) ∧ Ext h h' := by
  refine LCalls.enter (lf := lf67) rfl rfl (by simp [lf67]) ?_
  have hne : ¬ pb = h.size := by omega
  simp only [go_sem, lf67, ↓reduceIte, pairV, hne, hg]
  exact ⟨rfl, Ext.push _ _⟩

theorem c14 (h : LHeap) (a : ByteArray) : LCalls ES0 43 [.string a] h fun v _ => v = .int .i64 (nameIx a) := by
  refine LCalls.enter (lf := lf43) rfl rfl (by simp [lf43]) ?_
  simp only [go_sem, lf43, ↓reduceIte]
  refine MCall.by (c27 (nEq a) 67 rfl _ fun e he h' hx => ?_) ?_
  · refine c29 (a := a) (t := true) (r := true) ?_ ?_ e
    · rw [hx.get h.size (by simp)]; simp
    · have := hx.size; simp at this; omega
  · rintro v h2 ⟨rfl, _⟩
    simp only [go_sem, ↓reduceIte]
    rfl

theorem c12s (a b : ByteArray) : LCalls ES0 42 [.agg #[.string a, .string b]] LHeap.empty fun v _ => v = if 0 < fieldIx a b then .tuple #[.int .i64 (fieldIx a b), .bool true] else .tuple #[.int .i64 (nameIx a), .bool false] := by
  refine LCalls.enter (lf := lf42) rfl rfl (by simp [lf42]) ?_
  simp only [go_sem, lf42, ↓reduceIte]
  refine MCall.by (c27 (fEq a b) 66 rfl _ fun e he h' hx => ?_) ?_
  · refine c28 (a := a) (b := b) (t := true) (r := true) ?_ ?_ e
    · rw [hx.get 0 (by simp)]; simp
    · have := hx.size; simp at this; omega
  · rintro v h2 ⟨rfl, hx⟩
    have hg : h2.get 0 = some (.cells [.string a, .string b] true true) := by rw [hx.get 0 (by simp)]; simp
    by_cases h0 : 0 < fieldIx a b
    · have h0' : 0 < ixOf (fEq a b) ents + 1 := h0
      simp only [go_sem, ↓reduceIte, h0, h0', decide_true]
      rfl
    · have h0' : ¬ 0 < ixOf (fEq a b) ents + 1 := h0
      simp only [go_sem, ↓reduceIte, h0, h0', decide_false, hg]
      refine MCall.by (c14 _ a) ?_
      rintro v h3 rfl
      simp only [go_sem, ↓reduceIte]

/-- From a place on, the first that is so: its number, or 0. -/
def fromIx (p : ByteArray × ByteArray → Bool) (i : Nat) : Int := match (ents.drop i).findIdx? p with
  | some k => (i + k + 1 : Nat)
  | none => 0

theorem fromIx_zero (p : ByteArray × ByteArray → Bool) : fromIx p 0 = ixOf p ents + 1 := by
  unfold fromIx ixOf
  rw [List.drop_zero]
  cases ents.findIdx? p with
  | none => rfl
  | some k => simp

theorem ent_at {i : Nat} (h : i < 61) : ents[i]? = some (ent i) := by
  have h' : i < ents.length := by rw [len_ents]; exact h
  simp [ent, List.getD, h']

theorem fromIx_step (p : ByteArray × ByteArray → Bool) {i : Nat} (h : i < 61) : fromIx p i = if p (ent i) = true then ((i + 1 : Nat) : Int) else fromIx p (i + 1) := by
  have h' : i < ents.length := by rw [len_ents]; exact h
  have he := ent_at h
  rw [List.getElem?_eq_getElem h'] at he
  have hd : ents.drop i = ent i :: ents.drop (i + 1) := by
    rw [List.drop_eq_getElem_cons h']
    rw [Option.some.inj he]
  unfold fromIx
  rw [hd, List.findIdx?_cons]
  by_cases hp : p (ent i) = true
  · simp [hp]
  · simp only [hp, if_false]
    cases (ents.drop (i + 1)).findIdx? p with
    | none => simp
    | some k => simp; omega

theorem fromIx_end (p : ByteArray × ByteArray → Bool) : fromIx p 61 = 0 := by
  have : ents.drop 61 = [] := rfl
  simp [fromIx, this]

theorem c13 (a b : ByteArray) : LCalls ES0 60 [.string a, .string b] LHeap.empty fun v _ => v = if 0 < fieldIx a b then .tuple #[.int .i64 (fieldIx a b), .int .i64 1] else .tuple #[.int .i64 (nameIx a), .int .i64 0] := by
  refine LCalls.enter (lf := lf60) rfl rfl (by simp [lf60]) ?_
  simp only [go_sem, lf60, ↓reduceIte]
  refine MC.loop (fun m fr hh => ∃ i : Nat, hh = LHeap.empty ∧ i ≤ 61 ∧ m = i ∧ fr = [(0, .string a), (1, .string b), (6, .int .i64 (fromIx (nEq a) i)), (7, .int .i64 i)]) 61 ⟨61, rfl, Nat.le_refl _, rfl, by rw [fromIx_end]; rfl⟩ ?_
  rintro m fr hh J ⟨i, rfl, hi, hm, rfl⟩ hJ
  simp only [go_sem, ↓reduceIte]
  by_cases h0 : 1 ≤ i
  · have h1 : (1 : Int) ≤ (i : Int) := by omega
    have h2 : (i : Int) ≤ 61 := by omega
    have h3 : (i - 1 : Int).toNat = i - 1 := by omega
    simp only [go_sem, ↓reduceIte, h1, h2, h3, pairV]
    have hst := fromIx_step (nEq a) (i := i - 1) (by omega)
    rw [show i - 1 + 1 = i by omega] at hst
    cases hp : nEq a (ent (i - 1))
    · have hp' : ((ent (i - 1)).1.data.toList == a.data.toList) = false := hp
      simp only [go_sem, ↓reduceIte, hp']
      refine hJ (i - 1) _ _ (by omega) ⟨i - 1, rfl, by omega, rfl, ?_⟩
      rw [IntWalk.i64_in _ (by omega), hst, hp]
      simp only [Bool.false_eq_true, if_false]
      rw [show ((i - 1 : Nat) : Int) = (i : Int) - 1 by omega]
    · have hp' : ((ent (i - 1)).1.data.toList == a.data.toList) = true := hp
      simp only [go_sem, ↓reduceIte, hp']
      refine hJ (i - 1) _ _ (by omega) ⟨i - 1, rfl, by omega, rfl, ?_⟩
      rw [IntWalk.i64_in _ (by omega), hst, hp]
      simp only [if_true]
      rw [show ((i - 1 : Nat) : Int) = (i : Int) - 1 by omega]
  · have h1 : ¬ (1 : Int) ≤ (i : Int) := by omega
    obtain rfl : i = 0 := by omega
    simp only [go_sem, ↓reduceIte, h1]
    have hn : fromIx (nEq a) 0 = nameIx a := fromIx_zero _
    rw [hn]
    refine MC.loop (fun m fr hh => ∃ i : Nat, hh = LHeap.empty ∧ i ≤ 61 ∧ m = 61 - i ∧ (∀ e ∈ ents.take i, fEq a b e = false) ∧ fr = [(0, .string a), (1, .string b), (6, .int .i64 (nameIx a)), (8, .int .i64 ((i : Int) + 1))]) 61 ⟨0, rfl, Nat.zero_le _, rfl, by simp, rfl⟩ ?_
    rintro m fr hh J ⟨i, rfl, hi, hm, hno, rfl⟩ hJ
    simp only [go_sem, ↓reduceIte]
    by_cases h4 : i < 61
    · have h5 : (i : Int) + 1 ≤ 61 := by omega
      have h6 : (1 : Int) ≤ (i : Int) + 1 := by omega
      have h7 : ((i : Int) + 1 - 1).toNat = i := by omega
      have more : fEq a b (ent i) = false → ∀ e ∈ ents.take (i + 1), fEq a b e = false := by
        intro hp e he
        rw [List.take_add_one, List.mem_append] at he
        rcases he with he | he
        · exact hno e he
        · rw [ent_at h4] at he
          simp only [Option.toList_some, List.mem_singleton] at he
          rw [he]; exact hp
      simp only [go_sem, ↓reduceIte, h5, h6, h7, pairV]
      cases hp : ((ent i).1.data.toList == a.data.toList)
      · simp only [go_sem, ↓reduceIte]
        refine hJ (61 - (i + 1)) _ _ (by omega) ⟨i + 1, rfl, by omega, rfl, more (by simp [fEq, hp]), ?_⟩
        rw [IntWalk.i64_in _ (by omega)]
        rfl
      · simp only [go_sem, ↓reduceIte, h5, h6, h7, pairV]
        cases hp2 : ((ent i).2.data.toList == b.data.toList)
        · simp only [go_sem, ↓reduceIte]
          refine hJ (61 - (i + 1)) _ _ (by omega) ⟨i + 1, rfl, by omega, rfl, more (by simp [fEq, hp2]), ?_⟩
          rw [IntWalk.i64_in _ (by omega)]
          rfl
        · have hx : fieldIx a b = (i : Int) + 1 := by
            unfold fieldIx
            rw [ixOf_hit (ent_at h4) (by simp [fEq, hp, hp2]) hno]
          have h8 : (0 : Int) < (i : Int) + 1 := by omega
          simp only [go_sem, ↓reduceIte, hx, h8]
    · have h5 : ¬ (i : Int) + 1 ≤ 61 := by omega
      have hx : fieldIx a b = 0 := by
        unfold fieldIx
        rw [ixOf_none]
        · rfl
        · rw [List.take_of_length_le (by rw [len_ents]; omega)] at hno
          exact hno
      simp only [go_sem, ↓reduceIte, h5, hx]


theorem c08 (a : ByteArray) : LCalls ES0 62 [.string a] LHeap.empty fun v _ => v = .int .i64 (nameIx a) := by
  refine LCalls.enter (lf := lf62) rfl rfl (by simp [lf62]) ?_
  simp only [go_sem, lf62, ↓reduceIte]
  refine MC.cutb (fun fr hh => nameIx a = 0) ?_ ?_
  · refine MC.loop (fun m fr hh => ∃ i : Nat, hh = LHeap.empty ∧ (i : Int) ≤ 61 ∧ m = 61 - i ∧ (∀ e ∈ ents.take i, nEq a e = false) ∧ fr = [(0, .string a), (3, .int .i64 ((i : Int) + 1))]) 61 ⟨0, rfl, by omega, rfl, by simp, rfl⟩ ?_
    rintro m fr hh J ⟨i, rfl, hi, hm, hno, rfl⟩ hJ
    simp only [go_sem, ↓reduceIte]
    by_cases h4 : (i : Int) + 1 ≤ 61
    · have h6 : (1 : Int) ≤ (i : Int) + 1 := by omega
      have h7 : ((i : Int) + 1 - 1).toNat = i := by omega
      simp only [go_sem, ↓reduceIte, h4, h6, h7, pairV]
      cases hp : ((ent i).1.data.toList == a.data.toList)
      · simp only [go_sem, ↓reduceIte]
        refine hJ (61 - (i + 1)) _ _ (by omega) ⟨i + 1, rfl, by omega, rfl, ?_, ?_⟩
        · intro e he
          rw [List.take_add_one, List.mem_append] at he
          rcases he with he | he
          · exact hno e he
          · rw [ent_at (by omega)] at he
            simp only [Option.toList_some, List.mem_singleton] at he
            rw [he]; exact hp
        · rw [IntWalk.i64_in _ (by omega)]
          rfl
      · have hx : nameIx a = (i : Int) + 1 := by
          unfold nameIx
          rw [ixOf_hit (ent_at (by omega)) (by simp [nEq, hp]) hno]
        simp only [go_sem, ↓reduceIte, hx]
    · simp only [go_sem, ↓reduceIte, h4]
      unfold nameIx
      rw [ixOf_none]
      · rfl
      · rw [List.take_of_length_le (by rw [len_ents]; omega)] at hno
        exact hno
  · rintro fr hh hx
    simp only [go_sem, ↓reduceIte, hx]

def gName : List Value → Option Value
  | [.string a] => some (.int .i64 (nameIx a))
  | _ => none
def gFind : List Value → Option Value
  | [.agg ⟨[.string a, .string b]⟩] => some (if 0 < fieldIx a b then .tuple #[.int .i64 (fieldIx a b), .bool true] else .tuple #[.int .i64 (nameIx a), .bool false])
  | _ => none
def gRFind : List Value → Option Value
  | [.string a, .string b] => some (if 0 < fieldIx a b then .tuple #[.int .i64 (fieldIx a b), .int .i64 1] else .tuple #[.int .i64 (nameIx a), .int .i64 0])
  | _ => none

noncomputable def ES : Env := (((ES0.add 43 gName).add 42 gFind).add 60 gRFind).add 62 gName
theorem ES_ok : EnvOk Try.prog ES := by
  have e1 := ES0_ok.add 43 gName fun args v h => by
    unfold gName at h
    split at h
    · rename_i a
      cases h
      exact ⟨rfl, rfl, c14 _ a⟩
    · cases h
  have e2 := e1.add' 42 gFind fun args v h => by
    unfold gFind at h
    split at h
    · rename_i a b
      cases h
      obtain ⟨u, h1, hs, rfl⟩ := (c12s a b).sound ES0_ok
      refine ⟨rfl, ?_, h1, hs⟩
      split <;> rfl
    · cases h
  have e3 := e2.add' 60 gRFind fun args v h => by
    unfold gRFind at h
    split at h
    · rename_i a b
      cases h
      obtain ⟨u, h1, hs, rfl⟩ := (c13 a b).sound ES0_ok
      refine ⟨rfl, ?_, h1, hs⟩
      split <;> rfl
    · cases h
  exact e3.add' 62 gName fun args v h => by
    unfold gName at h
    split at h
    · rename_i a
      cases h
      obtain ⟨u, h1, hs, rfl⟩ := (c08 a).sound ES0_ok
      exact ⟨rfl, rfl, h1, hs⟩
    · cases h
@[go_sem] theorem ES_prim (i : FuncId) : ES.prim i = ((((ES0.add 43 gName).add 42 gFind).add 60 gRFind).add 62 gName).prim i := Eq.trans rfl rfl
attribute [go_sem] gName gFind gRFind
end Go.E1

/-
  The environment of the walks: the laws' fixed answers are primitives, by closed runs.
-/
namespace Go.E1
open Go Go.Proofs

theorem runAwake7 : isRun EK 20 18 [] (.bool true) = true := by
  unfold isRun
  rw [← F.ev_eq]
  kernel_rfl
theorem runAwake8 : isRun EG 100 32 [] (.bool true) = true := by
  unfold isRun
  rw [← F.ev_eq]
  kernel_rfl
def gAwake : List Value → Option Value
  | [] => some (.bool true)
  | _ => none
noncomputable def EC : Env := (ES.add 18 gAwake).add 32 gAwake
theorem EC_ok : EnvOk Try.prog EC := by
  have e1 := add_run (f := 18) (g := gAwake) ES_ok EK_ok fun args v h => by
    unfold gAwake at h
    split at h
    · cases h
      exact ⟨rfl, rfl, .inl ⟨_, runAwake7⟩⟩
    · cases h
  exact add_run (f := 32) (g := gAwake) e1 EG_ok fun args v h => by
    unfold gAwake at h
    split at h
    · cases h
      exact ⟨rfl, rfl, .inl ⟨_, runAwake8⟩⟩
    · cases h
@[go_sem] theorem EC_prim (i : FuncId) : EC.prim i = ((ES.add 18 gAwake).add 32 gAwake).prim i := Eq.trans rfl rfl
attribute [go_sem] gAwake
end Go.E1
