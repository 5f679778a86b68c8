/-
  Texts joined: Base, RefA, Awk.
-/
import Derived.Test.YtdbjklgnhbmlaaaKg
import Derived.Test.YtdbjklgnhbmlaaaKlB
import Derived.Test.YtdbjklgnhbmlaaaKlC
import Derived.Test.YtdbjklgnhbmlaaaKlD
/-
  The environment: all the code of the seat, and the first primitives.
-/
namespace Go.E1
open Go Go.Proofs
set_option linter.unusedSimpArgs false

def tabAll : List (FuncId × LFunc) := tabA ++ (tabB ++ (tabC ++ tabD))
theorem tabAll_ok : ∀ p ∈ tabAll, ∃ fn ks nt, Try.prog.funcs[p.1]? = some fn ∧ cFunc Try.prog fn ks nt = some p.2 := by
  intro p hp
  unfold tabAll at hp
  rw [List.mem_append, List.mem_append, List.mem_append] at hp
  rcases hp with hp | hp | hp | hp
  · exact tabA_ok p hp
  · exact tabB_ok p hp
  · exact tabC_ok p hp
  · exact tabD_ok p hp

def qAll : List (TypeId × List Leaf) := [(27, [.str, .str]), (28, [.str, .str]), (47, [.str, .str, .bool])]
noncomputable def EB : Env := { code := tabR tabAll, prim := fun _ => none, q := qOf qAll }
theorem EB_ok : EnvOk Try.prog EB where
  orders := by kernel_rfl
  q := show QOk Try.prog (qOf qAll) from qOf_ok (by kernel_rfl)
  code := tabR_ok tabAll_ok
  prim := fun _ _ h => (nomatch h)

def ents : List (ByteArray × ByteArray) := [(⟨#[58, 97, 117, 116, 104, 111, 114, 105, 116, 121]⟩, ⟨#[]⟩), (⟨#[58, 109, 101, 116, 104, 111, 100]⟩, ⟨#[71, 69, 84]⟩), (⟨#[58, 109, 101, 116, 104, 111, 100]⟩, ⟨#[80, 79, 83, 84]⟩), (⟨#[58, 112, 97, 116, 104]⟩, ⟨#[47]⟩), (⟨#[58, 112, 97, 116, 104]⟩, ⟨#[47, 105, 110, 100, 101, 120, 46, 104, 116, 109, 108]⟩), (⟨#[58, 115, 99, 104, 101, 109, 101]⟩, ⟨#[104, 116, 116, 112]⟩), (⟨#[58, 115, 99, 104, 101, 109, 101]⟩, ⟨#[104, 116, 116, 112, 115]⟩), (⟨#[58, 115, 116, 97, 116, 117, 115]⟩, ⟨#[50, 48, 48]⟩), (⟨#[58, 115, 116, 97, 116, 117, 115]⟩, ⟨#[50, 48, 52]⟩), (⟨#[58, 115, 116, 97, 116, 117, 115]⟩, ⟨#[50, 48, 54]⟩), (⟨#[58, 115, 116, 97, 116, 117, 115]⟩, ⟨#[51, 48, 52]⟩), (⟨#[58, 115, 116, 97, 116, 117, 115]⟩, ⟨#[52, 48, 48]⟩), (⟨#[58, 115, 116, 97, 116, 117, 115]⟩, ⟨#[52, 48, 52]⟩), (⟨#[58, 115, 116, 97, 116, 117, 115]⟩, ⟨#[53, 48, 48]⟩), (⟨#[97, 99, 99, 101, 112, 116, 45, 99, 104, 97, 114, 115, 101, 116]⟩, ⟨#[]⟩), (⟨#[97, 99, 99, 101, 112, 116, 45, 101, 110, 99, 111, 100, 105, 110, 103]⟩, ⟨#[103, 122, 105, 112, 44, 32, 100, 101, 102, 108, 97, 116, 101]⟩), (⟨#[97, 99, 99, 101, 112, 116, 45, 108, 97, 110, 103, 117, 97, 103, 101]⟩, ⟨#[]⟩), (⟨#[97, 99, 99, 101, 112, 116, 45, 114, 97, 110, 103, 101, 115]⟩, ⟨#[]⟩), (⟨#[97, 99, 99, 101, 112, 116]⟩, ⟨#[]⟩), (⟨#[97, 99, 99, 101, 115, 115, 45, 99, 111, 110, 116, 114, 111, 108, 45, 97, 108, 108, 111, 119, 45, 111, 114, 105, 103, 105, 110]⟩, ⟨#[]⟩), (⟨#[97, 103, 101]⟩, ⟨#[]⟩), (⟨#[97, 108, 108, 111, 119]⟩, ⟨#[]⟩), (⟨#[97, 117, 116, 104, 111, 114, 105, 122, 97, 116, 105, 111, 110]⟩, ⟨#[]⟩), (⟨#[99, 97, 99, 104, 101, 45, 99, 111, 110, 116, 114, 111, 108]⟩, ⟨#[]⟩), (⟨#[99, 111, 110, 116, 101, 110, 116, 45, 100, 105, 115, 112, 111, 115, 105, 116, 105, 111, 110]⟩, ⟨#[]⟩), (⟨#[99, 111, 110, 116, 101, 110, 116, 45, 101, 110, 99, 111, 100, 105, 110, 103]⟩, ⟨#[]⟩), (⟨#[99, 111, 110, 116, 101, 110, 116, 45, 108, 97, 110, 103, 117, 97, 103, 101]⟩, ⟨#[]⟩), (⟨#[99, 111, 110, 116, 101, 110, 116, 45, 108, 101, 110, 103, 116, 104]⟩, ⟨#[]⟩), (⟨#[99, 111, 110, 116, 101, 110, 116, 45, 108, 111, 99, 97, 116, 105, 111, 110]⟩, ⟨#[]⟩), (⟨#[99, 111, 110, 116, 101, 110, 116, 45, 114, 97, 110, 103, 101]⟩, ⟨#[]⟩), (⟨#[99, 111, 110, 116, 101, 110, 116, 45, 116, 121, 112, 101]⟩, ⟨#[]⟩), (⟨#[99, 111, 111, 107, 105, 101]⟩, ⟨#[]⟩), (⟨#[100, 97, 116, 101]⟩, ⟨#[]⟩), (⟨#[101, 116, 97, 103]⟩, ⟨#[]⟩), (⟨#[101, 120, 112, 101, 99, 116]⟩, ⟨#[]⟩), (⟨#[101, 120, 112, 105, 114, 101, 115]⟩, ⟨#[]⟩), (⟨#[102, 114, 111, 109]⟩, ⟨#[]⟩), (⟨#[104, 111, 115, 116]⟩, ⟨#[]⟩), (⟨#[105, 102, 45, 109, 97, 116, 99, 104]⟩, ⟨#[]⟩), (⟨#[105, 102, 45, 109, 111, 100, 105, 102, 105, 101, 100, 45, 115, 105, 110, 99, 101]⟩, ⟨#[]⟩), (⟨#[105, 102, 45, 110, 111, 110, 101, 45, 109, 97, 116, 99, 104]⟩, ⟨#[]⟩), (⟨#[105, 102, 45, 114, 97, 110, 103, 101]⟩, ⟨#[]⟩), (⟨#[105, 102, 45, 117, 110, 109, 111, 100, 105, 102, 105, 101, 100, 45, 115, 105, 110, 99, 101]⟩, ⟨#[]⟩), (⟨#[108, 97, 115, 116, 45, 109, 111, 100, 105, 102, 105, 101, 100]⟩, ⟨#[]⟩), (⟨#[108, 105, 110, 107]⟩, ⟨#[]⟩), (⟨#[108, 111, 99, 97, 116, 105, 111, 110]⟩, ⟨#[]⟩), (⟨#[109, 97, 120, 45, 102, 111, 114, 119, 97, 114, 100, 115]⟩, ⟨#[]⟩), (⟨#[112, 114, 111, 120, 121, 45, 97, 117, 116, 104, 101, 110, 116, 105, 99, 97, 116, 101]⟩, ⟨#[]⟩), (⟨#[112, 114, 111, 120, 121, 45, 97, 117, 116, 104, 111, 114, 105, 122, 97, 116, 105, 111, 110]⟩, ⟨#[]⟩), (⟨#[114, 97, 110, 103, 101]⟩, ⟨#[]⟩), (⟨#[114, 101, 102, 101, 114, 101, 114]⟩, ⟨#[]⟩), (⟨#[114, 101, 102, 114, 101, 115, 104]⟩, ⟨#[]⟩), (⟨#[114, 101, 116, 114, 121, 45, 97, 102, 116, 101, 114]⟩, ⟨#[]⟩), (⟨#[115, 101, 114, 118, 101, 114]⟩, ⟨#[]⟩), (⟨#[115, 101, 116, 45, 99, 111, 111, 107, 105, 101]⟩, ⟨#[]⟩), (⟨#[115, 116, 114, 105, 99, 116, 45, 116, 114, 97, 110, 115, 112, 111, 114, 116, 45, 115, 101, 99, 117, 114, 105, 116, 121]⟩, ⟨#[]⟩), (⟨#[116, 114, 97, 110, 115, 102, 101, 114, 45, 101, 110, 99, 111, 100, 105, 110, 103]⟩, ⟨#[]⟩), (⟨#[117, 115, 101, 114, 45, 97, 103, 101, 110, 116]⟩, ⟨#[]⟩), (⟨#[118, 97, 114, 121]⟩, ⟨#[]⟩), (⟨#[118, 105, 97]⟩, ⟨#[]⟩), (⟨#[119, 119, 119, 45, 97, 117, 116, 104, 101, 110, 116, 105, 99, 97, 116, 101]⟩, ⟨#[]⟩)]

def entCells : List Value := ents.flatMap fun p => [.string p.1, .string p.2]
def ent (n : Nat) : ByteArray × ByteArray := ents.getD n (⟨#[]⟩, ⟨#[]⟩)
def pairV (p : ByteArray × ByteArray) : Value := .agg #[.string p.1, .string p.2]


/-! ### entries, Entry, Get: by closed runs -/
def gEntries : List Value → Option Value
  | [] => some (.agg entCells.toArray)
  | _ => none
theorem runEntries : isRun EB 4 45 [] (.agg entCells.toArray) = true := by kernel_rfl
theorem runEntry : (List.range 61).all (fun n => isRun EB 4 16 [.int .i64 (n + 1 : Nat)] (pairV (ent n))) = true := by kernel_rfl
theorem runGet : (List.range 61).all (fun n => isRun EB 6 41 [.int .i64 (n + 1 : Nat)] (.tuple #[pairV (ent n), .int .i64 0])) = true := by kernel_rfl

def gEntry : List Value → Option Value
  | [.int .i64 i] => if 1 ≤ i ∧ i ≤ 61 then some (pairV (ent (i - 1).toNat)) else none
  | _ => none
def gGet : List Value → Option Value
  | [.int .i64 i] => if 1 ≤ i ∧ i ≤ 61 then some (.tuple #[pairV (ent (i - 1).toNat), .int .i64 0]) else some (.tuple #[pairV (⟨#[]⟩, ⟨#[]⟩), .int .i64 23])
  | _ => none
theorem outGet (i : Int) (h : ¬ (1 ≤ i ∧ i ≤ 61)) : LCalls EB 41 [.int .i64 i] LHeap.empty fun u _ => u = .tuple #[pairV (⟨#[]⟩, ⟨#[]⟩), .int .i64 23] := by
  refine LCalls.enter (lf := lf41) rfl rfl (by simp [lf41]) ?_
  simp only [go_sem, lf41, ↓reduceIte]
  by_cases h1 : i < 1
  · simp only [go_sem, h1, ↓reduceIte, decide_true, pairV]
  · have h2 : 61 < i := by omega
    simp only [go_sem, h1, h2, ↓reduceIte, decide_true, decide_false, pairV]

/-! ### numbers -/
theorem runRight : (List.range 8).all (fun n => isRun EB 4 81 [.int .i64 (n + 1 : Nat)] (.bool true)) = true := by kernel_rfl
theorem runFull : (List.range 9).all (fun n => isRun EB 4 82 [.int .i64 (n : Nat)] (.int .i64 ((2 ^ n - 1 : Nat) : Int))) = true := by kernel_rfl
def gRight : List Value → Option Value
  | [.int .i64 i] => if 1 ≤ i ∧ i ≤ 8 then some (.bool true) else none
  | _ => none
def gFull : List Value → Option Value
  | [.int .i64 i] => if 0 ≤ i ∧ i ≤ 8 then some (.int .i64 ((2 ^ i.toNat - 1 : Nat) : Int)) else none
  | _ => none

def kindV (c : Int) : Value :=
  if 128 ≤ c then .agg #[.int .i64 7, .bool true, .bool false, .bool false, .bool false] else
  if 64 ≤ c then .agg #[.int .i64 6, .bool false, .bool true, .bool false, .bool false] else
  if 32 ≤ c then .agg #[.int .i64 5, .bool false, .bool false, .bool true, .bool false] else
  if 16 ≤ c then .agg #[.int .i64 4, .bool false, .bool false, .bool false, .bool true] else
  .agg #[.int .i64 4, .bool false, .bool false, .bool false, .bool false]
theorem runKind : (List.range 256).all (fun n => isRun EB 4 69 [.int .u8 (n : Nat)] (kindV (n : Nat))) = true := by kernel_rfl
def gKind : List Value → Option Value
  | [.int .u8 i] => if 0 ≤ i ∧ i < 256 then some (kindV i) else none
  | _ => none
def szW (a b : ByteArray) : Int := IntKind.i64.wrap (IntKind.i64.wrap ((a.size : Int) + b.size) + 32)
def gSize : List Value → Option Value
  | [.agg ⟨[.string a, .string b]⟩] => some (.int .i64 (szW a b))
  | _ => none
theorem cSize (a b : ByteArray) : LCalls EB 29 [.agg #[.string a, .string b]] LHeap.empty fun v _ => v = .int .i64 (szW a b) := by
  refine LCalls.enter (lf := lf29) rfl rfl (by simp [lf29]) ?_
  simp only [go_sem, lf29, ↓reduceIte]
  rfl
/-- May it be a table's limit? -/
def gLim : List Value → Option Value
  | [.int .i64 i] => some (.bool (decide (0 ≤ i) && decide (i ≤ 65536)))
  | _ => none
theorem cLim (i : Int) : LCalls EB 68 [.int .i64 i] LHeap.empty fun v _ => v = .bool (decide (0 ≤ i) && decide (i ≤ 65536)) := by
  refine LCalls.enter (lf := lf68) rfl rfl (by simp [lf68]) ?_
  by_cases h1 : 0 ≤ i
  · have h1' : i ≥ 0 := h1
    by_cases h2 : i ≤ 65536
    · simp only [go_sem, lf68, ↓reduceIte, h1, h1', h2]
    · simp only [go_sem, lf68, ↓reduceIte, h1, h1', h2]
  · have h1' : ¬ i ≥ 0 := h1
    simp only [go_sem, lf68, ↓reduceIte, h1, h1']

noncomputable def EK : Env := ((((((((EB.put 105 getP).add 106 gLong).add 16 gEntry).add 41 gGet).add 81 gRight).add 82 gFull).add 69 gKind).add 29 gSize).add 68 gLim
theorem add_run {P : Program} {E E' : Env} (hE : EnvOk P E) (hE' : EnvOk P E') {f : FuncId} {g : List Value → Option Value}
    (hg : ∀ args v, g args = some v → plains args = true ∧ plain v = true ∧ ((∃ k, isRun E' k f args v = true) ∨ LCalls E' f args LHeap.empty fun u _ => u = v)) : EnvOk P (E.add f g) :=
  hE.add' f g fun args v h => by
    obtain ⟨h1, h2, h3⟩ := hg args v h
    refine ⟨h1, h2, ?_⟩
    rcases h3 with ⟨k, h3⟩ | h3
    · exact isRun_sound hE' h3
    · obtain ⟨u, h4, hs, rfl⟩ := h3.sound hE'
      exact ⟨h4, hs⟩
theorem EK_ok : EnvOk Try.prog EK := by
  have e0 := EB_ok.put 105 getP fun _ _ _ _ => getP_sound
  have e1 := add_run (f := 106) (g := gLong) e0 E0_ok fun args v h => by
    unfold gLong at h
    split at h
    · rename_i i
      split at h
      · rename_i hi
        cases h
        have := all_range runLong (i := i.toNat) (by omega)
        rw [show ((i.toNat : Nat) : Int) = i by omega] at this
        exact ⟨rfl, rfl, .inl ⟨_, this⟩⟩
      · cases h
    · cases h
  have e2 := add_run (f := 16) (g := gEntry) e1 EB_ok fun args v h => by
    unfold gEntry at h
    split at h
    · rename_i i
      split at h
      · rename_i hi
        cases h
        have := all_range runEntry (i := (i - 1).toNat) (by omega)
        rw [show (((i - 1).toNat + 1 : Nat) : Int) = i by omega] at this
        exact ⟨rfl, rfl, .inl ⟨_, this⟩⟩
      · cases h
    · cases h
  have e3 := add_run (f := 41) (g := gGet) e2 EB_ok fun args v h => by
    unfold gGet at h
    split at h
    · rename_i i
      split at h
      · rename_i hi
        cases h
        have := all_range runGet (i := (i - 1).toNat) (by omega)
        rw [show (((i - 1).toNat + 1 : Nat) : Int) = i by omega] at this
        exact ⟨rfl, rfl, .inl ⟨_, this⟩⟩
      · rename_i hi
        cases h
        exact ⟨rfl, rfl, .inr (outGet i hi)⟩
    · cases h
  have e4 := add_run (f := 81) (g := gRight) e3 EB_ok fun args v h => by
    unfold gRight at h
    split at h
    · rename_i i
      split at h
      · rename_i hi
        cases h
        have := all_range runRight (i := (i - 1).toNat) (by omega)
        rw [show (((i - 1).toNat + 1 : Nat) : Int) = i by omega] at this
        exact ⟨rfl, rfl, .inl ⟨_, this⟩⟩
      · cases h
    · cases h
  have e5 := add_run (f := 82) (g := gFull) e4 EB_ok fun args v h => by
    unfold gFull at h
    split at h
    · rename_i i
      split at h
      · rename_i hi
        cases h
        have := all_range runFull (i := i.toNat) (by omega)
        rw [show ((i.toNat : Nat) : Int) = i by omega] at this
        exact ⟨rfl, rfl, .inl ⟨_, this⟩⟩
      · cases h
    · cases h
  have e6 := add_run (f := 69) (g := gKind) e5 EB_ok fun args v h => by
    unfold gKind at h
    split at h
    · rename_i i
      split at h
      · rename_i hi
        cases h
        have := all_range runKind (i := i.toNat) (by omega)
        rw [show ((i.toNat : Nat) : Int) = i by omega] at this
        refine ⟨rfl, ?_, .inl ⟨_, this⟩⟩
        unfold kindV
        split
        · rfl
        · split
          · rfl
          · split
            · rfl
            · split <;> rfl
      · cases h
    · cases h
  have e7 := add_run (f := 29) (g := gSize) e6 EB_ok fun args v h => by
    unfold gSize at h
    split at h
    · rename_i a b
      cases h
      exact ⟨rfl, rfl, .inr (cSize a b)⟩
    · cases h
  exact add_run (f := 68) (g := gLim) e7 EB_ok fun args v h => by
    unfold gLim at h
    split at h
    · rename_i i
      cases h
      exact ⟨rfl, rfl, .inr (cLim i)⟩
    · cases h

@[go_sem] theorem EB_prim (i : FuncId) : EB.prim i = none := Eq.trans rfl rfl
@[go_sem] theorem EK_prim (i : FuncId) : EK.prim i = (((((((((EB.put 105 getP).add 106 gLong).add 16 gEntry).add 41 gGet).add 81 gRight).add 82 gFull).add 69 gKind).add 29 gSize).add 68 gLim).prim i := Eq.trans rfl rfl
attribute [go_sem] gLong gEntry gGet gRight gFull gKind gSize gLim
end Go.E1

/-
  The document's answers: tables by closed runs.
-/
namespace Go.E1
open Go Go.Proofs

theorem runRefLen : (List.range 257).all (fun n => isRun EB 4 97 [.int .i64 n] (.int .i64 (lenOf n))) = true := by kernel_rfl
noncomputable def gRefLen : List Value → Option Value
  | [.int .i64 i] => if 0 ≤ i ∧ i < 257 then some (.int .i64 (lenOf i.toNat)) else none
  | _ => none
theorem refLen_run {E : Env} (hE : EnvOk Try.prog E) : EnvOk Try.prog (E.add 97 gRefLen) :=
  add_run (f := 97) (g := gRefLen) hE EB_ok fun args v h => by
    unfold gRefLen at h
    split at h
    · rename_i i
      split at h
      · rename_i hi
        cases h
        have := all_range runRefLen (i := i.toNat) (by omega)
        rw [show ((i.toNat : Nat) : Int) = i by omega] at this
        exact ⟨rfl, rfl, .inl ⟨_, this⟩⟩
      · cases h
    · cases h

theorem runPow : (List.range 9).all (fun n => isRun EB 20 75 [.int .i64 n] (.int .i64 ((2 ^ n : Nat) : Int))) = true := by kernel_rfl
def gPow : List Value → Option Value
  | [.int .i64 i] => if 0 ≤ i ∧ i ≤ 8 then some (.int .i64 ((2 ^ i.toNat : Nat) : Int)) else none
  | _ => none

noncomputable def ER : Env := (EK.add 97 gRefLen).add 75 gPow
theorem ER_ok : EnvOk Try.prog ER := by
  have e1 := refLen_run EK_ok
  exact add_run (f := 75) (g := gPow) e1 EB_ok fun args v h => by
    unfold gPow at h
    split at h
    · rename_i i
      split at h
      · rename_i hi
        cases h
        have := all_range runPow (i := i.toNat) (by omega)
        rw [show ((i.toNat : Nat) : Int) = i by omega] at this
        exact ⟨rfl, rfl, .inl ⟨_, this⟩⟩
      · cases h
    · cases h
@[go_sem] theorem ER_prim (i : FuncId) : ER.prim i = ((EK.add 97 gRefLen).add 75 gPow).prim i := Eq.trans rfl rfl
attribute [go_sem] gRefLen gPow
end Go.E1

/-
  The environment of the walks: the laws' fixed answers are primitives, by closed runs.
-/
namespace Go.E1
open Go Go.Proofs

theorem runAwake7 : isRun EK 20 18 [] (.bool true) = true := by
  unfold isRun
  rw [← F.ev_eq]
  kernel_rfl
def gAwake : List Value → Option Value
  | [] => some (.bool true)
  | _ => none
noncomputable def EC : Env := ER.add 18 gAwake
theorem EC_ok : EnvOk Try.prog EC := add_run (f := 18) (g := gAwake) ER_ok EK_ok fun args v h => by
  unfold gAwake at h
  split at h
  · cases h
    exact ⟨rfl, rfl, .inl ⟨_, runAwake7⟩⟩
  · cases h
@[go_sem] theorem EC_prim (i : FuncId) : EC.prim i = (ER.add 18 gAwake).prim i := Eq.trans rfl rfl
attribute [go_sem] gAwake
end Go.E1
