/-
  Texts joined: Stat, Cln, Awk.
-/
import Derived.Test.YtmafdmpmilhnfaaGreatDoorKh
import Derived.Test.YtmafdmpmilhnfaaGreatDoorKe
import Derived.Test.YtmafdmpmilhnfaaGreatDoorKm
/-
 Layer 5: what its functions answer, as primitives.
-/
namespace Go.E1
open Go Go.Proofs
set_option linter.unusedSimpArgs false

noncomputable def ES0 : Env := ER.add 203 gEntries
theorem ES0_ok : EnvOk Tryz.prog ES0 := add_run (f := 203) (g := gEntries) ER_ok EB_ok fun args v h => by
 unfold gEntries at h
 split at h
 ·cases h; exact ⟨rfl, by kernel_rfl, .inl ⟨_, runEntries⟩⟩
 ·cases h
@[go_sem] theorem ES0_prim (i : FuncId) : ES0.prim i = (ER.add 203 gEntries).prim i := Eq.trans rfl rfl
attribute [go_sem] gEntries

theorem len_cells : entCells.length = 122 := by kernel_rfl
theorem one_cells : oneCells entCells = true := by kernel_rfl

theorem c35 (h : LHeap) : LCalls ES0 184 [] h fun v h' => ∃ b, v = .slice (some ⟨b, 0, none⟩) 61 2 ∧ h'.get b = some (.cells entCells true true) ∧ Ext h h' ∧ h.size ≤ b ∧ b < h'.size := by
 refine LCalls.enter (lf := lf184) rfl rfl (by simp [lf184]) ?_
 have hs : splice [Value.string ⟨#[]⟩] 0 entCells = entCells := by
  simp only [splice, List.take_zero, List.nil_append, Nat.zero_add, len_cells]
  simp
 simp only [go_sem, lf184, ↓reduceIte, len_cells, one_cells]
 rw [x_sliceArr0 (cs := entCells) (t := true) (r := true) 61 2 _ _ (by simp) (by simp [len_cells])]
 simp only [go_sem]
 refine ⟨h.size, rfl, ?_, ?_, Nat.le_refl _, ?_⟩
 ·simp [go_sem, hs]
 ·exact ((Ext.push h _).set (Nat.le_refl _) _)
 ·simp

def cellsOf (l : List (ByteArray × ByteArray)) : List Value := l.flatMap fun p => [.string p.1, .string p.2]
theorem cellsOf_len (l : List (ByteArray × ByteArray)) : (cellsOf l).length = 2 * l.length := by
 induction l with
 | nil => rfl
 | cons p l ih => simp only [cellsOf, List.flatMap_cons, List.length_append, List.length_cons, List.length_nil] at ih ⊢; omega
theorem cellsOf_at : ∀ (l : List (ByteArray × ByteArray)) (i : Nat) (p : ByteArray × ByteArray), l[i]? = some p → ((cellsOf l).drop (i * 2)).take 2 = [.string p.1, .string p.2]
 | [], i, p, h => by simp at h
 | x :: l, 0, p, h => by
  simp only [List.getElem?_cons_zero, Option.some.injEq] at h
  subst h
  simp [cellsOf]
 | x :: l, i + 1, p, h => by
  have := cellsOf_at l i p (by simpa using h)
  rw [← this]
  have e : (i + 1) * 2 = i * 2 + 2 := by omega
  simp only [cellsOf, List.flatMap_cons, e]
  rfl

/-- Where the first is, or -1. -/
def ixOf (p : ByteArray × ByteArray → Bool) (l : List (ByteArray × ByteArray)) : Int := match l.findIdx? p with
 | some k => (k : Int)
 | none => -1

theorem ixOf_hit {p : ByteArray × ByteArray → Bool} {l : List (ByteArray × ByteArray)} {i : Nat} {x : ByteArray × ByteArray} (hx : l[i]? = some x) (hp : p x = true) (no : ∀ e ∈ l.take i, p e = false) : ixOf p l = i := by
 have : l.findIdx? p = some i := by
  rw [List.findIdx?_eq_some_iff_getElem]
  obtain ⟨hi, e⟩ := List.getElem?_eq_some_iff.1 hx
  refine ⟨hi, by rw [e]; exact hp, fun j hj => ?_⟩
  have := no (l[j]'(by omega)) (by rw [List.mem_take_iff_getElem]; exact ⟨j, by omega, rfl⟩)
  simp [this]
 simp [ixOf, this]
theorem ixOf_none {p : ByteArray × ByteArray → Bool} {l : List (ByteArray × ByteArray)} (no : ∀ e ∈ l, p e = false) : ixOf p l = -1 := by
 have : l.findIdx? p = none := by
  rw [List.findIdx?_eq_none_iff]
  exact no
 simp [ixOf, this]

theorem c34 {E : Env} (hp : E.prim 183 = none) (hc : E.code 183 = some lf183) {b : Nat} (L : List (ByteArray × ByteArray)) (p : ByteArray × ByteArray → Bool) (g : FuncId) (hpg : E.prim g = none) (cap : Array Value) {h : LHeap} (I : LHeap → Prop)
  (hb : ∀ h', I h' → ∃ t r, h'.get b = some (.cells (cellsOf L) t r)) (hcall : ∀ e ∈ L, ∀ h', I h' → LCalls E g (pairV e :: cap.toList) h' fun v h'' => v = .bool (p e) ∧ I h'')
  (hI : I h) (hlen : L.length < 4611686018427387904) : LCalls E 183 [.slice (some ⟨b, 0, none⟩) L.length 2, .func (.func g) #[] cap] h fun v h' => v = .int .i64 (ixOf p L) ∧ I h' := by
 refine LCalls.enter hp hc (by simp [lf183]) ?_
 simp only [go_sem, lf183, ↓reduceIte]
 refine MC.loop (fun m fr hh => ∃ i, fr = [(0, .slice (some ⟨b, 0, none⟩) L.length 2), (1, .func (.func g) #[] cap), (7, .int .i64 L.length), (8, .int .i64 (i : Nat))] ∧ i ≤ L.length ∧ m = L.length - i ∧ (∀ e ∈ L.take i, p e = false) ∧ I hh) L.length
  ⟨0, rfl, Nat.zero_le _, rfl, by simp, hI⟩ ?_
 rintro m fr hh J ⟨i, rfl, hi, rfl, hno, hII⟩ hJ
 simp only [go_sem, ↓reduceIte]
 by_cases hlt : i < L.length
 ·have hlt' : (i : Int) < (L.length : Int) := by omega
  obtain ⟨t, r, hg⟩ := hb hh hII
  obtain ⟨e, he⟩ : ∃ e, L[i]? = some e := ⟨L[i], by simp [hlt]⟩
  have hz : (0 : Int) ≤ (i : Int) := by omega
  have hlen2 : i * 2 + 2 ≤ (cellsOf L).length := by rw [cellsOf_len]; omega
  simp only [go_sem, hlt', decide_true, ↓reduceIte, hz, Int.toNat_natCast, hg, hlen2, cellsOf_at L i e he, hpg]
  refine MCall.by (hcall e (List.mem_of_getElem? he) hh hII) ?_
  rintro v h' ⟨rfl, hI'⟩
  cases hpe : p e
  ·simp only [go_sem, ↓reduceIte]
   refine hJ (L.length - (i + 1)) _ _ (by omega) ⟨i + 1, ?_, by omega, rfl, ?_, hI'⟩
   ·rw [IntWalk.i64_in _ (by omega)]
    rfl
   ·intro x hx
    rw [List.take_add_one, List.mem_append] at hx
    rcases hx with hx | hx
    ·exact hno x hx
    ·rw [he] at hx
     simp only [Option.toList_some, List.mem_singleton] at hx
     rw [hx]; exact hpe
  ·simp only [go_sem, ↓reduceIte]
   refine ⟨?_, hI'⟩
   rw [ixOf_hit he hpe hno]
 ·have hlt' : ¬ (i : Int) < (L.length : Int) := by omega
  simp only [go_sem, hlt', decide_false, ↓reduceIte]
  refine ⟨?_, hII⟩
  rw [ixOf_none]
  rw [List.take_of_length_le (by omega)] at hno
  exact hno

theorem ixOf_in (p : ByteArray × ByteArray → Bool) (l : List (ByteArray × ByteArray)) : -1 ≤ ixOf p l ∧ ixOf p l < l.length := by
 unfold ixOf
 split
 ·rename_i k hk
  obtain ⟨hlt, _⟩ := List.findIdx?_eq_some_iff_getElem.1 hk
  omega
 ·omega
theorem len_ents : ents.length = 61 := rfl
theorem cells_ents : cellsOf ents = entCells := rfl

theorem c27 {h : LHeap} (p : ByteArray × ByteArray → Bool) (g : FuncId) (hpg : ES0.prim g = none) (cap : Array Value) (hcall : ∀ e ∈ ents, ∀ h', Ext h h' → LCalls ES0 g (pairV e :: cap.toList) h' fun v h'' => v = .bool (p e) ∧ Ext h' h'') :
  LCalls ES0 156 [.func (.func g) #[] cap] h fun v h' => v = .int .i64 (ixOf p ents + 1) ∧ Ext h h' := by
 refine LCalls.enter (lf := lf156) rfl rfl (by simp [lf156]) ?_
 simp only [go_sem, lf156, ↓reduceIte]
 refine MCall.by (c35 h) ?_
 rintro v h1 ⟨b, rfl, hg, hx, hle, hlt⟩
 simp only [go_sem, ↓reduceIte]
 refine MCall.by (c34 (E := ES0) rfl rfl (b := b) ents p g hpg cap (h := h1) (fun h' => Ext h1 h') ?_ ?_ (Ext.refl h1) (by rw [len_ents]; omega)) ?_
 ·intro h' hI
  exact ⟨true, true, by rw [hI.get b hlt, hg, cells_ents]⟩
 ·intro e he h' hI
  exact (hcall e he h' (hx.trans hI)).mono fun v h'' ⟨a, b⟩ => ⟨a, hI.trans b⟩
 ·rintro v h2 ⟨rfl, hI⟩
  have := ixOf_in p ents
  rw [len_ents] at this
  simp only [go_sem, ↓reduceIte]
  exact ⟨by rw [IntWalk.i64_in _ (by omega)], hx.trans hI⟩

def fEq (a b : ByteArray) (e : ByteArray × ByteArray) : Bool := (e.1.data.toList == a.data.toList) && ((e.2.data.toList == b.data.toList) && true)
def nEq (a : ByteArray) (e : ByteArray × ByteArray) : Bool := e.1.data.toList == a.data.toList

@[go_sem] theorem q23 (c d a b : ByteArray) : ES0.q 95 (.agg #[.string c, .string d]) (.agg #[.string a, .string b]) = some (fEq a b (c, d)) := Eq.trans rfl rfl

theorem c28 {h : LHeap} {pb : Nat} {a b : ByteArray} {t r : Bool} (hg : h.get pb = some (.cells [.string a, .string b] t r)) (hlt : pb < h.size) (e : ByteArray × ByteArray) :
  LCalls ES0 157 [pairV e, .pointer (some ⟨pb, 0, none⟩)] h fun v h' => v = .bool (fEq a b e) ∧ Ext h h' := by
 refine LCalls.enter (lf := lf157) rfl rfl (by simp [lf157]) ?_
 have hne : ¬ pb = h.size := by omega
 simp only [go_sem, lf157, ↓reduceIte, pairV, hne, hg]
 exact Ext.push _ _

def nameIx (a : ByteArray) : Int := ixOf (nEq a) ents + 1
def fieldIx (a b : ByteArray) : Int := ixOf (fEq a b) ents + 1
theorem c29 {h : LHeap} {pb : Nat} {a : ByteArray} {t r : Bool} (hg : h.get pb = some (.cells [.string a] t r)) (hlt : pb < h.size) (e : ByteArray × ByteArray) :
  LCalls ES0 160 [pairV e, .pointer (some ⟨pb, 0, none⟩)] h fun v h' => v = .bool (nEq a e) ∧ Ext h h' := by
 refine LCalls.enter (lf := lf160) rfl rfl (by simp [lf160]) ?_
 have hne : ¬ pb = h.size := by omega
 simp only [go_sem, lf160, ↓reduceIte, pairV, hne, hg]
 exact ⟨rfl, Ext.push _ _⟩

theorem c14 (h : LHeap) (a : ByteArray) : LCalls ES0 124 [.string a] h fun v _ => v = .int .i64 (nameIx a) := by
 refine LCalls.enter (lf := lf124) rfl rfl (by simp [lf124]) ?_
 simp only [go_sem, lf124, ↓reduceIte]
 refine MCall.by (c27 (nEq a) 160 rfl _ fun e he h' hx => ?_) ?_
 ·refine c29 (a := a) (t := true) (r := true) ?_ ?_ e
  ·rw [hx.get h.size (by simp)]; simp
  ·have := hx.size; simp at this; omega
 ·rintro v h2 ⟨rfl, _⟩
  simp only [go_sem, ↓reduceIte]
  rfl

theorem c12s (a b : ByteArray) : LCalls ES0 122 [.agg #[.string a, .string b]] LHeap.empty fun v _ => v = if 0 < fieldIx a b then .tuple #[.int .i64 (fieldIx a b), .bool true] else .tuple #[.int .i64 (nameIx a), .bool false] := by
 refine LCalls.enter (lf := lf122) rfl rfl (by simp [lf122]) ?_
 simp only [go_sem, lf122, ↓reduceIte]
 refine MCall.by (c27 (fEq a b) 157 rfl _ fun e he h' hx => ?_) ?_
 ·refine c28 (a := a) (b := b) (t := true) (r := true) ?_ ?_ e
  ·rw [hx.get 0 (by simp)]; simp
  ·have := hx.size; simp at this; omega
 ·rintro v h2 ⟨rfl, hx⟩
  have hg : h2.get 0 = some (.cells [.string a, .string b] true true) := by rw [hx.get 0 (by simp)]; simp
  by_cases h0 : 0 < fieldIx a b
  ·have h0' : 0 < ixOf (fEq a b) ents + 1 := h0
   simp only [go_sem, ↓reduceIte, h0, h0', decide_true]
   rfl
  ·have h0' : ¬ 0 < ixOf (fEq a b) ents + 1 := h0
   simp only [go_sem, ↓reduceIte, h0, h0', decide_false, hg]
   refine MCall.by (c14 _ a) ?_
   rintro v h3 rfl
   simp only [go_sem, ↓reduceIte]

def gName : List Value → Option Value
 | [.string a] => some (.int .i64 (nameIx a))
 | _ => none
def gFind : List Value → Option Value
 | [.agg ⟨[.string a, .string b]⟩] => some (if 0 < fieldIx a b then .tuple #[.int .i64 (fieldIx a b), .bool true] else .tuple #[.int .i64 (nameIx a), .bool false])
 | _ => none

noncomputable def ES : Env := (ES0.add 124 gName).add 122 gFind
theorem ES_ok : EnvOk Tryz.prog ES := by
 have e1 := ES0_ok.add 124 gName fun args v h => by
  unfold gName at h
  split at h
  ·rename_i a
   cases h
   exact ⟨rfl, rfl, c14 _ a⟩
  ·cases h
 exact e1.add' 122 gFind fun args v h => by
  unfold gFind at h
  split at h
  ·rename_i a b
   cases h
   obtain ⟨u, h1, hs, rfl⟩ := (c12s a b).sound ES0_ok
   refine ⟨rfl, ?_, h1, hs⟩
   split <;> rfl
  ·cases h
@[go_sem] theorem ES_prim (i : FuncId) : ES.prim i = ((ES0.add 124 gName).add 122 gFind).prim i := Eq.trans rfl rfl
attribute [go_sem] gName gFind
end Go.E1

/-
 Layer 21: what its functions answer, as primitives.
-/
namespace Go.E1
open Go Go.Proofs
set_option linter.unusedSimpArgs false

def nameB (a : ByteArray) : Bool := (a.data.toList.all fun c => nameBytes.contains c) && (decide (0 < a.size) && decide (a.size ≤ 4096))
theorem cName (a : ByteArray) (ha : a.size < 4611686018427387904) : LCalls ES 151 [.string a] LHeap.empty fun v _ => v = .bool (nameB a) := by
 refine LCalls.enter (lf := lf151) rfl rfl (by simp [lf151]) ?_
 have hsz : a.data.toList.length = a.size := Array.length_toList
 simp only [go_sem, lf151, ↓reduceIte]
 refine MC.cutb (fun fr hh => ∃ tl, fr = (0, .string a) :: tl ∧ (a.data.toList.all fun c => nameBytes.contains c) = true) ?_ ?_
 ·refine MC.loop (fun m fr hh => ∃ i tl, m = a.size - i ∧ fr = (0, .string a) :: (5, .int .i64 a.size) :: (6, .int .i64 (i : Nat)) :: tl ∧ i ≤ a.size ∧ ∀ c ∈ a.data.toList.take i, nameBytes.contains c = true) a.size ⟨0, [], rfl, rfl, Nat.zero_le _, by simp⟩ ?_
  rintro m fr hh J ⟨i, tl, rfl, rfl, hi, hno⟩ hJ
  by_cases hlt : i < a.size
  ·have d1 : (i : Int) < (a.size : Int) := by omega
   have d2 : (0 : Int) ≤ (i : Int) := by omega
   obtain ⟨c, hc⟩ : ∃ c, a.data.toList[i]? = some c := ⟨a.data.toList[i]'(by omega), by simp⟩
   have hcl := c.toNat_lt
   have d3 : (0 : Int) ≤ (c.toNat : Int) ∧ (c.toNat : Int) < 256 := by omega
   have d4 : c.toNat.toUInt8 = c := by simp
   have w1 : IntKind.i64.wrap ((i : Int) + 1) = ((i + 1 : Nat) : Int) := by rw [IntWalk.i64_in _ (by omega)]; omega
   cases hn : nameBytes.contains c with
   | true =>
    simp only [go_sem, ↓reduceIte, d1, d2, hc, d3, d4, hn, w1, Int.toNat_natCast, and_self]
    refine hJ _ _ _ (by omega) ⟨i + 1, _, rfl, rfl, by omega, fun x hx => ?_⟩
    rw [List.take_add_one, List.mem_append] at hx
    rcases hx with hx | hx
    ·exact hno x hx
    ·rw [hc] at hx
     simp only [Option.toList_some, List.mem_singleton] at hx
     rw [hx]; exact hn
   | false =>
    have hall : (a.data.toList.all fun c => nameBytes.contains c) = false := by
     rw [List.all_eq_false]
     exact ⟨c, List.mem_of_getElem? hc, by rw [hn]; decide⟩
    simp only [go_sem, ↓reduceIte, d1, d2, hc, d3, d4, hn, w1, Int.toNat_natCast, and_self]
    unfold nameB
    rw [hall]; rfl
  ·have d1 : ¬ (i : Int) < (a.size : Int) := by omega
   simp only [go_sem, ↓reduceIte, d1]
   refine ⟨_, rfl, List.all_eq_true.2 ?_⟩
   rwa [List.take_of_length_le (by omega)] at hno
 ·rintro fr hh ⟨tl, rfl, hall⟩
  unfold nameB
  rw [hall]
  by_cases e1 : 0 < a.size
  ·have d1 : (a.size : Int) > 0 := by omega
   have d1' : (0 : Int) < (a.size : Int) := by omega
   by_cases e2 : a.size ≤ 4096
   ·have d2 : (a.size : Int) ≤ 4096 := by omega
    simp only [go_sem, ↓reduceIte, d1, d1', d2, e1, e2]
   ·have d2 : ¬ (a.size : Int) ≤ 4096 := by omega
    simp only [go_sem, ↓reduceIte, d1, d1', d2, e1, e2]
  ·have d1 : ¬ (a.size : Int) > 0 := by omega
   have d1' : ¬ (0 : Int) < (a.size : Int) := by omega
   simp only [go_sem, ↓reduceIte, d1, d1', e1]

def hopName (l : List UInt8) : Bool := (l == [99, 111, 110, 110, 101, 99, 116, 105, 111, 110]) || ((l == [107, 101, 101, 112, 45, 97, 108, 105, 118, 101]) || ((l == [112, 114, 111, 120, 121, 45, 99, 111, 110, 110, 101, 99, 116, 105, 111, 110]) || ((l == [116, 114, 97, 110, 115, 102, 101, 114, 45, 101, 110, 99, 111, 100, 105, 110, 103]) || ((l == [117, 112, 103, 114, 97, 100, 101])))))
def hopB (a b : ByteArray) : Bool := hopName a.data.toList || ((a.data.toList == [116, 101]) && !(b.data.toList == [116, 114, 97, 105, 108, 101, 114, 115]))
def sensB (a : ByteArray) : Bool := (a.data.toList == [97, 117, 116, 104, 111, 114, 105, 122, 97, 116, 105, 111, 110]) || ((a.data.toList == [112, 114, 111, 120, 121, 45, 97, 117, 116, 104, 111, 114, 105, 122, 97, 116, 105, 111, 110]) || ((a.data.toList == [99, 111, 111, 107, 105, 101]) || ((a.data.toList == [115, 101, 116, 45, 99, 111, 111, 107, 105, 101]))))

theorem cHop (a b : ByteArray) : LCalls ES 120 [.agg #[.string a, .string b]] LHeap.empty fun v _ => v = .bool (hopB a b) := by
 refine LCalls.enter (lf := lf120) rfl rfl (by simp [lf120]) ?_
 unfold hopB hopName
 simp only [go_sem, lf120, ↓reduceIte]
 cases h0 : (a.data.toList == [99, 111, 110, 110, 101, 99, 116, 105, 111, 110]) with
 | true => simp only [go_sem, ↓reduceIte, h0, Bool.true_or, Bool.or_true, Bool.false_or]
 | false =>
  simp only [go_sem, ↓reduceIte, h0, Bool.false_or]
  cases h1 : (a.data.toList == [107, 101, 101, 112, 45, 97, 108, 105, 118, 101]) with
  | true => simp only [go_sem, ↓reduceIte, h0, h1, Bool.true_or, Bool.or_true, Bool.false_or]
  | false =>
   simp only [go_sem, ↓reduceIte, h0, h1, Bool.false_or]
   cases h2 : (a.data.toList == [112, 114, 111, 120, 121, 45, 99, 111, 110, 110, 101, 99, 116, 105, 111, 110]) with
   | true => simp only [go_sem, ↓reduceIte, h0, h1, h2, Bool.true_or, Bool.or_true, Bool.false_or]
   | false =>
    simp only [go_sem, ↓reduceIte, h0, h1, h2, Bool.false_or]
    cases h3 : (a.data.toList == [116, 114, 97, 110, 115, 102, 101, 114, 45, 101, 110, 99, 111, 100, 105, 110, 103]) with
    | true => simp only [go_sem, ↓reduceIte, h0, h1, h2, h3, Bool.true_or, Bool.or_true, Bool.false_or]
    | false =>
     simp only [go_sem, ↓reduceIte, h0, h1, h2, h3, Bool.false_or]
     cases h4 : (a.data.toList == [117, 112, 103, 114, 97, 100, 101]) with
     | true => simp only [go_sem, ↓reduceIte, h0, h1, h2, h3, h4, Bool.true_or, Bool.or_true, Bool.false_or]
     | false =>
      simp only [go_sem, ↓reduceIte, h0, h1, h2, h3, h4, Bool.false_or]
      cases h5 : (a.data.toList == [116, 101]) with
      | true =>
       cases h6 : (b.data.toList == [116, 114, 97, 105, 108, 101, 114, 115]) <;> simp only [go_sem, ↓reduceIte, h5, h6, Bool.true_and, Bool.not_true, Bool.not_false]
      | false => simp only [go_sem, ↓reduceIte, h5, Bool.false_and]

theorem cSens (a : ByteArray) : LCalls ES 121 [.string a] LHeap.empty fun v _ => v = .bool (sensB a) := by
 refine LCalls.enter (lf := lf121) rfl rfl (by simp [lf121]) ?_
 unfold sensB
 simp only [go_sem, lf121, ↓reduceIte]
 cases h0 : (a.data.toList == [97, 117, 116, 104, 111, 114, 105, 122, 97, 116, 105, 111, 110]) with
 | true => simp only [go_sem, ↓reduceIte, h0, Bool.true_or, Bool.or_true, Bool.false_or]
 | false =>
  simp only [go_sem, ↓reduceIte, h0, Bool.false_or]
  cases h1 : (a.data.toList == [112, 114, 111, 120, 121, 45, 97, 117, 116, 104, 111, 114, 105, 122, 97, 116, 105, 111, 110]) with
  | true => simp only [go_sem, ↓reduceIte, h0, h1, Bool.true_or, Bool.or_true, Bool.false_or]
  | false =>
   simp only [go_sem, ↓reduceIte, h0, h1, Bool.false_or]
   cases h2 : (a.data.toList == [99, 111, 111, 107, 105, 101]) with
   | true => simp only [go_sem, ↓reduceIte, h0, h1, h2, Bool.true_or, Bool.or_true, Bool.false_or]
   | false =>
    simp only [go_sem, ↓reduceIte, h0, h1, h2, Bool.false_or]
    cases h3 : (a.data.toList == [115, 101, 116, 45, 99, 111, 111, 107, 105, 101]) with
    | true => simp only [go_sem, ↓reduceIte, h0, h1, h2, h3, Bool.true_or, Bool.or_true, Bool.false_or]
    | false =>
     simp only [go_sem, ↓reduceIte, h0, h1, h2, h3, Bool.false_or]

/-! ### values -/
def blank (c : UInt8) : Bool := decide (0 ≤ Lib.indexByte [32, 9] c)
theorem cEdge {a : ByteArray} {i : Nat} {c : UInt8} {h : LHeap} (hc : a.data.toList[i]? = some c) : LCalls ES 182 [.string a, .int .i64 (i : Nat)] h fun v h' => v = .bool (blank c) ∧ h' = h := by
 refine LCalls.enter (lf := lf182) rfl rfl (by simp [lf182]) ?_
 have d2 : (0 : Int) ≤ (i : Int) := by omega
 have d4 : c.toNat.toUInt8 = c := by simp
 simp only [go_sem, lf182, ↓reduceIte, d2, Int.toNat_natCast, hc, d4]
 rfl

def valueB (a : ByteArray) : Bool := decide (a.size ≤ 4096) && (!(Lib.containsAny a.data.toList [0, 10, 13]) && (match a.data.toList with | [] => true | c :: l => !(blank c) && !(blank ((c :: l).getLast (by simp)))))
theorem cValue (a : ByteArray) : LCalls ES 155 [.string a] LHeap.empty fun v _ => v = .bool (valueB a) := by
 refine LCalls.enter (lf := lf155) rfl rfl (by simp [lf155]) ?_
 have hsz : a.data.toList.length = a.size := Array.length_toList
 unfold valueB
 by_cases e1 : a.size ≤ 4096
 ·have d1 : ¬ (a.size : Int) > 4096 := by omega
  have d1' : ¬ (4096 : Int) < (a.size : Int) := by omega
  have d2 : a.size < 4294967281 := by omega
  have k1 : (decide (UInt8.toNat 0 < 128) && (decide (UInt8.toNat 10 < 128) && decide (UInt8.toNat 13 < 128))) = true := by decide
  cases hA : Lib.containsAny a.data.toList [0, 10, 13] with
  | true => simp only [go_sem, lf155, ↓reduceIte, e1, d1, d1', d2, k1, hA, Bool.false_and]
  | false =>
   cases hl : a.data.toList with
   | nil =>
    rw [hl] at hA
    have h0 : (a.data.toList == []) = true := by rw [hl]; rfl
    simp only [go_sem, lf155, ↓reduceIte, e1, d1, d1', d2, k1, hl, hA, h0]
   | cons c l =>
    have h0 : (a.data.toList == []) = false := by rw [hl]; rfl
    have hs1 : a.size = l.length + 1 := by rw [← hsz, hl]; rfl
    have hc0 : a.data.toList[0]? = some c := by rw [hl]; rfl
    have hc1 : a.data.toList[l.length]? = some ((c :: l).getLast (by simp)) := by rw [hl, List.getLast_eq_getElem]; simp
    have w1 : IntKind.i64.wrap ((a.size : Int) - 1) = ((l.length : Nat) : Int) := by rw [IntWalk.i64_in _ (by omega)]; omega
    obtain ⟨d, hd⟩ : ∃ d, (c :: l).getLast (by simp) = d := ⟨_, rfl⟩
    rw [hd] at hc1
    simp only [go_sem, lf155, ↓reduceIte, e1, d1, d1', d2, k1, hA, h0]
    refine MCall.by (cEdge (i := 0) hc0) ?_
    rintro v h1 ⟨rfl, rfl⟩
    cases hb : blank c with
    | true => simp only [go_sem, ↓reduceIte, hb]
    | false =>
     simp only [go_sem, ↓reduceIte, hb, w1]
     refine MCall.by (cEdge (i := l.length) hc1) ?_
     rintro v h1 ⟨rfl, rfl⟩
     cases hb1 : blank d <;> simp only [go_sem, ↓reduceIte, hd, hb1]
 ·have d1 : (a.size : Int) > 4096 := by omega
  have d1' : (4096 : Int) < (a.size : Int) := by omega
  simp only [go_sem, lf155, ↓reduceIte, e1, d1, d1', Bool.false_and]

def gCName : List Value → Option Value
 | [.string a] => if a.size < 4611686018427387904 then some (.bool (nameB a)) else none
 | _ => none
def gCValue : List Value → Option Value
 | [.string a] => some (.bool (valueB a))
 | _ => none
def gHop : List Value → Option Value
 | [.agg ⟨[.string a, .string b]⟩] => some (.bool (hopB a b))
 | _ => none
def gSens : List Value → Option Value
 | [.string a] => some (.bool (sensB a))
 | _ => none
noncomputable def EN0 : Env := (((ES.add 151 gCName).add 155 gCValue).add 120 gHop).add 121 gSens
theorem EN0_ok : EnvOk Tryz.prog EN0 := by
 have e1 := add_run (f := 151) (g := gCName) ES_ok ES_ok fun args v h => by
  unfold gCName at h
  split at h
  ·rename_i a
   split at h
   ·rename_i ha
    cases h
    exact ⟨rfl, rfl, .inr (cName a ha)⟩
   ·cases h
  ·cases h
 have e2 := add_run (f := 155) (g := gCValue) e1 ES_ok fun args v h => by
  unfold gCValue at h
  split at h
  ·cases h; exact ⟨rfl, rfl, .inr (cValue _)⟩
  ·cases h
 have e3 := add_run (f := 120) (g := gHop) e2 ES_ok fun args v h => by
  unfold gHop at h
  split at h
  ·cases h; exact ⟨rfl, rfl, .inr (cHop _ _)⟩
  ·cases h
 exact add_run (f := 121) (g := gSens) e3 ES_ok fun args v h => by
  unfold gSens at h
  split at h
  ·cases h; exact ⟨rfl, rfl, .inr (cSens _)⟩
  ·cases h
@[go_sem] theorem EN0_prim (i : FuncId) : EN0.prim i = ((((ES.add 151 gCName).add 155 gCValue).add 120 gHop).add 121 gSens).prim i := Eq.trans rfl rfl
attribute [go_sem] gCName gCValue gHop gSens

def wrongN (a b : ByteArray) : Nat := match nameB a, valueB b with
 | false, _ => 30
 | true, false => 31
 | true, true => 0
theorem cWrong (a b : ByteArray) (ha : a.size < 4611686018427387904) : LCalls EN0 119 [.agg #[.string a, .string b]] LHeap.empty fun v _ => v = .int .i64 (wrongN a b : Nat) := by
 refine LCalls.enter (lf := lf119) rfl rfl (by simp [lf119]) ?_
 unfold wrongN
 cases hn : nameB a with
 | false => simp only [go_sem, lf119, ↓reduceIte, ha, hn]
 | true => cases hv : valueB b <;> simp only [go_sem, lf119, ↓reduceIte, ha, hn, hv]
def gWrong : List Value → Option Value
 | [.agg ⟨[.string a, .string b]⟩] => if a.size < 4611686018427387904 then some (.int .i64 (wrongN a b : Nat)) else none
 | _ => none
noncomputable def EN : Env := EN0.add 119 gWrong
theorem EN_ok : EnvOk Tryz.prog EN := add_run (f := 119) (g := gWrong) EN0_ok EN0_ok fun args v h => by
 unfold gWrong at h
 split at h
 ·rename_i a b
  split at h
  ·rename_i ha
   cases h
   exact ⟨rfl, rfl, .inr (cWrong a b ha)⟩
  ·cases h
 ·cases h
@[go_sem] theorem EN_prim (i : FuncId) : EN.prim i = (EN0.add 119 gWrong).prim i := Eq.trans rfl rfl
attribute [go_sem] gWrong
end Go.E1

/-
 ViewRefuses: the environment of the walks; what is sent first, and the fixed answer of layer 26, are primitives.
-/
namespace Go.E1
open Go Go.Proofs

/-- A new block, wherever it stands. -/
theorem HR.newPl {ν : Inj} {h : LHeap} {w w' : World} (hr : HR ν h w) (hb : RowKit.Below w.heap.size w w') {pl : Place} {cs : List Value} (h1 : w.heap.size ≤ pl.B) (h2 : ObjR (ν.put h.size pl) (some (.cells cs true true)) pl w') :
  HR (ν.put h.size pl) (h.push (.cells cs true true)) w' ∧ Step ν h w (ν.put h.size pl) (h.push (.cells cs true true)) w' := by
 obtain ⟨k1, k2⟩ := hr.below hb
 have hlt : pl.B < w'.heap.size := by
  obtain ⟨c, e, fz, q, _⟩ := h2
  exact (Array.getElem?_eq_some_iff.1 q).1
 have hle := Inj.le_put (pl := pl) hr.fresh
 have old : ∀ b ql, (ν.put h.size pl) b = some ql → b ≠ h.size → ν b = some ql := fun b ql hb hne => by simpa [Inj.put, hne] using hb
 have new : ∀ ql, (ν.put h.size pl) h.size = some ql → ql = pl := fun ql hb => by rw [Inj.put_same] at hb; exact (Option.some.inj hb).symm
 refine hr.of0 ⟨⟨?_, ?_, ?_, ?_⟩, ⟨hle, hb.os, hb.tape, hb.output, hb.size, by simp, fun B' hB' _ => hb.block B' hB', ?_, fun x hx hn => ⟨by simp [Inj.put, Nat.ne_of_lt hx, hn], by simp [Nat.ne_of_lt hx]⟩⟩⟩
 ·intro b ql hp
  by_cases e : b = h.size
  ·simp [e]
  ·have := hr.dom b ql (old b ql hp e); simp; omega
 ·intro b ql hp
  by_cases e : b = h.size
  ·subst e
   have := new ql hp; subst this
   simp only [LHeap.get_push, if_pos]
   exact h2
  ·have hp' := old b ql hp e
   simp only [LHeap.get_push, e, if_false]
   exact (k1.obj b ql hp').mono hle rfl
 ·intro b d ql rl hp hq hne hB
  by_cases e : b = h.size
  ·subst e
   have := new ql hp; subst this
   have := hr.real d rl (old d rl hq (Ne.symm hne))
   omega
  ·by_cases e' : d = h.size
   ·subst e'
    have := new rl hq; subst this
    have := hr.real b ql (old b ql hp e)
    omega
   ·simp only [LHeap.get_push, e, e', if_false]
    exact hr.sep b d ql rl (old b ql hp e) (old d rl hq e') hne hB
 ·intro b ql hp
  by_cases e : b = h.size
  ·subst e
   have := new ql hp; subst this
   exact hlt
  ·exact k1.real b ql (old b ql hp e)
 ·intro b ql hp hw hlt'
  by_cases e : b = h.size
  ·subst e
   have := new ql hp; subst this
   omega
  ·simp only [LHeap.get_push, e, if_false] at hw
   exact ⟨b, ql, old b ql hp e, rfl, hw⟩

/-- What is sent first. -/
def prefB : List UInt8 := [80, 82, 73, 32, 42, 32, 72, 84, 84, 80, 47, 50, 46, 48, 13, 10, 13, 10, 83, 77, 13, 10, 13, 10, 0, 0, 12, 4, 0, 0, 0, 0, 0, 0, 1, 0, 0, 0, 0, 0, 2, 0, 0, 0, 0]
def prefV : List Value := prefB.map fun c => .int .u8 c.toNat
noncomputable def runPB (E : Env) (k : Nat) : Bool := match evF E k 14 [] LHeap.empty with
 | some (.slice (some ⟨b, 0, none⟩) n 1, h1) => (match h1.get b with
  | some (.cells cs true true) => decide (n = 45) && veqs cs prefV
  | _ => false)
 | _ => false
theorem runPref : runPB EI 60 = true := by
 unfold runPB
 rw [← F.ev_eq]
 kernel_rfl
def prefP : List Value → LHeap → Option (Value × LHeap)
 | [], h => some (.slice (some ⟨h.size, 0, none⟩) 45 1, h.push (.cells prefV true true))
 | _, _ => none
theorem prefV_plain : plains prefV = true := by rfl
theorem pref_sound {args : List Value} {h h' : LHeap} {v : Value} (hx : prefP args h = some (v, h')) : Sound Tryz.prog 14 args h v h' := by
 unfold prefP at hx
 split at hx
 rotate_left
 ·cases hx
 cases hx
 have hrun := runPref
 unfold runPB at hrun
 split at hrun
 rotate_left
 ·cases hrun
 rename_i b n h1 he
 split at hrun
 rotate_left
 ·cases hrun
 rename_i cs hg
 simp only [Bool.and_eq_true, decide_eq_true_eq] at hrun
 obtain ⟨rfl, hrun⟩ := hrun
 have := veqs_eq _ _ hrun
 subst this
 have S := evF_sound EI_ok 60 _ _ _ _ _ he
 refine ⟨S.1, fun ν w args' hr hargs => ?_⟩
 have ha := hargs.nil_inv
 refine (S.2 (fun _ => none) w args' (HR.none hr.glW _) (by rw [ha]; exact .nil _)).mono ?_
 rintro e w' ⟨ν', v', rfl, hv, hr', hs⟩
 have bel : RowKit.Below w.heap.size w w' := hs.below fun b pl hb => by cases hb
 cases hv with
 | @slice _ _ _ _ cap pl hp hcap hfin =>
  have ho := hr'.obj b pl hp
  have hw : LObj.writable (h1.get b) = true := by rw [hg]; rfl
  have hnew : w.heap.size ≤ pl.B := by
   rcases Nat.lt_or_ge pl.B w.heap.size with q | q
   ·obtain ⟨c, ql, hc, _⟩ := hs.back b pl hp hw q
    cases hc
   ·exact q
  rw [hg] at ho
  obtain ⟨c, e, fz, q1, q2, q3, q4, q5, q6⟩ := ho
  obtain ⟨H1, H2⟩ := hr.newPl bel (pl := pl) (cs := prefV) hnew ⟨c, e, fz, q1, q2, q3, q4, fun i v hi => by
   obtain ⟨v', k1, k2⟩ := q5 i v hi
   have hpv := plains_get prefV_plain hi
   have := plain_eq _ _ hpv k2
   subst this
   exact ⟨_, k1, plain_VR _ _ hpv⟩, q6⟩
  exact ⟨_, _, rfl, .slice (Inj.put_same ν h.size pl) hcap hfin, H1, H2⟩

def gAwake : List Value → Option Value
 | [] => some (.bool true)
 | _ => none
def methB (c : UInt8) : Bool := (decide (65 ≤ c.toNat) && decide (c.toNat ≤ 90)) || decide (c.toNat = 45)
def plainC (c : UInt8) : Bool := decide (33 ≤ c.toNat) && !decide (c.toNat = 127)
theorem runMeth : (List.range 256).all (fun n => isRun EI 4 116 [.int .u8 (n : Nat)] (.bool (methB n.toUInt8))) = true := by kernel_rfl
theorem runPlainC : (List.range 256).all (fun n => isRun EI 4 118 [.int .u8 (n : Nat)] (.bool (plainC n.toUInt8))) = true := by kernel_rfl
def gMeth : List Value → Option Value
 | [.int .u8 i] => if 0 ≤ i ∧ i < 256 then some (.bool (methB i.toNat.toUInt8)) else none
 | _ => none
def gPlainC : List Value → Option Value
 | [.int .u8 i] => if 0 ≤ i ∧ i < 256 then some (.bool (plainC i.toNat.toUInt8)) else none
 | _ => none
noncomputable def EC : Env := (((EN.add 116 gMeth).add 118 gPlainC).add 8 gAwake).put 14 prefP
theorem EC_ok : EnvOk Tryz.prog EC := by
 have e1 := add_run (f := 116) (g := gMeth) EN_ok EI_ok fun args v h => by
  unfold gMeth at h
  split at h
  ·rename_i i
   split at h
   ·rename_i hi
    cases h
    have := all_range runMeth (i := i.toNat) (by omega)
    rw [show ((i.toNat : Nat) : Int) = i by omega] at this
    exact ⟨rfl, rfl, .inl ⟨_, this⟩⟩
   ·cases h
  ·cases h
 have e2 := add_run (f := 118) (g := gPlainC) e1 EI_ok fun args v h => by
  unfold gPlainC at h
  split at h
  ·rename_i i
   split at h
   ·rename_i hi
    cases h
    have := all_range runPlainC (i := i.toNat) (by omega)
    rw [show ((i.toNat : Nat) : Int) = i by omega] at this
    exact ⟨rfl, rfl, .inl ⟨_, this⟩⟩
   ·cases h
  ·cases h
 have e3 := add_run (f := 8) (g := gAwake) e2 EV_ok fun args v h => by
  unfold gAwake at h
  split at h
  ·cases h
   exact ⟨rfl, rfl, .inl ⟨_, runAwake26⟩⟩
  ·cases h
 exact e3.put 14 prefP fun _ _ _ _ => pref_sound
@[go_sem] theorem EC_prim (i : FuncId) : EC.prim i = ((((EN.add 116 gMeth).add 118 gPlainC).add 8 gAwake).put 14 prefP).prim i := Eq.trans rfl rfl
attribute [go_sem] gAwake gMeth gPlainC prefP
end Go.E1
