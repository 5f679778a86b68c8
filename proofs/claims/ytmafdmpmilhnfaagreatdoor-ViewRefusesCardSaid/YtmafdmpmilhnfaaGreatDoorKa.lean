/-
  Texts joined: E1Glob, E1Heap, E1Ops, E1Comp, E1Mem, E1App.
-/
import Derived.Below
import Derived.Laws.IdiomCopy
import Derived.MapKept
import Derived.Orders
/-
 The package-level variables that nothing writes, by their numbers: what their cells hold.
-/
namespace Go.E1
open Go
/-- The table of streams' states (layer 13). -/
def stateTab : List Int := [1, -1, -1, -1, -2, -2, -2, -2, -2, 1, 1, 3, 4, 1, 1, 2, 4, 1, 2, 2, 4, 4, -3, -3, -3, 4, 2, -1, -1, -1, 4, 3, 3, 4, 4, 3, -1, -1, -1, -1, -3, -3, -3, 4, 4]
def glob : Nat → Option (List Value) := fun g => if g = 0 then some (stateTab.map fun n => .int .i64 n) else none
end Go.E1

/-
 The logical heap of the engine: objects by number, kept in a binary tree; and the renaming relation between logical and real values.
-/
namespace Go.E1
open Go

/-! ### The logical heap -/

/-- A logical object: cells ('tip': what stands behind them in real memory is free; 'rw': they may be written), a map's entries, or what may not be looked at any more. -/
inductive LObj where
 | cells (cs : List Value) (tip rw : Bool)
 | map (es : List (Value × Value))
 | dead

inductive Tr where
 | leaf
 | node (l : Tr) (v : Option LObj) (r : Tr)

namespace Tr
def get : Tr → Nat → Option LObj
 | .leaf, _ => none
 | .node l v r, n => if n = 0 then v else if n % 2 = 1 then l.get (n / 2) else r.get (n / 2 - 1)

def lft : Tr → Tr | .leaf => .leaf | .node l _ _ => l
def mid : Tr → Option LObj | .leaf => none | .node _ v _ => v
def rgt : Tr → Tr | .leaf => .leaf | .node _ _ r => r

def setF : Nat → Tr → Nat → LObj → Tr
 | 0, t, _, _ => t
 | f + 1, t, n, o =>
  if n = 0 then .node t.lft (some o) t.rgt
  else if n % 2 = 1 then .node (setF f t.lft (n / 2) o) t.mid t.rgt
  else .node t.lft t.mid (setF f t.rgt (n / 2 - 1) o)

theorem get_parts (t : Tr) (n : Nat) : t.get n = if n = 0 then t.mid else if n % 2 = 1 then t.lft.get (n / 2) else t.rgt.get (n / 2 - 1) := by
 cases t with
 | leaf => simp [get, lft, mid, rgt]
 | node l v r => rfl

theorem get_setF : ∀ (f : Nat) (t : Tr) (n : Nat) (o : LObj) (m : Nat), n < f → (setF f t n o).get m = if m = n then some o else t.get m
 | 0, _, _, _, _, h => absurd h (Nat.not_lt_zero _)
 | f + 1, t, n, o, m, h => by
  simp only [setF]
  by_cases h0 : n = 0
  ·subst h0
   rw [if_pos rfl, get_parts t m]
   by_cases hm : m = 0
   ·subst hm; simp [get]
   ·simp [get, hm]
  ·by_cases h1 : n % 2 = 1
   ·simp only [h0, h1, if_false, if_true, get]
    rw [get_parts t m]
    by_cases hm : m = 0
    ·subst hm; simp; intro hh; omega
    ·simp only [hm, if_false]
     by_cases hm1 : m % 2 = 1
     ·simp only [hm1, if_true]
      rw [get_setF f t.lft (n / 2) o (m / 2) (by omega)]
      by_cases e : m = n
      ·subst e; simp
      ·have : ¬ m / 2 = n / 2 := by omega
       simp [e, this]
     ·have : ¬ m = n := by intro e; subst e; exact hm1 h1
      simp [hm1, this]
   ·simp only [h0, h1, if_false, get]
    rw [get_parts t m]
    by_cases hm : m = 0
    ·subst hm; simp; intro hh; omega
    ·simp only [hm, if_false]
     by_cases hm1 : m % 2 = 1
     ·have : ¬ m = n := by intro e; subst e; exact h1 hm1
      simp [hm1, this]
     ·simp only [hm1, if_false]
      rw [get_setF f t.rgt (n / 2 - 1) o (m / 2 - 1) (by omega)]
      by_cases e : m = n
      ·subst e; simp
      ·have : ¬ m / 2 - 1 = n / 2 - 1 := by omega
       simp [e, this]
end Tr

structure LHeap where
 size : Nat
 t : Tr

namespace LHeap
def get (h : LHeap) (b : Nat) : Option LObj := h.t.get b
def set (h : LHeap) (b : Nat) (o : LObj) : LHeap := ⟨h.size, h.t.setF (b + 1) b o⟩
def push (h : LHeap) (o : LObj) : LHeap := ⟨h.size + 1, h.t.setF (h.size + 1) h.size o⟩
def empty : LHeap := ⟨0, .leaf⟩

@[simp] theorem get_set (h : LHeap) (b : Nat) (o : LObj) (c : Nat) : (h.set b o).get c = if c = b then some o else h.get c := Tr.get_setF _ _ _ _ _ (Nat.lt_succ_self _)
@[simp] theorem get_push (h : LHeap) (o : LObj) (c : Nat) : (h.push o).get c = if c = h.size then some o else h.get c := Tr.get_setF _ _ _ _ _ (Nat.lt_succ_self _)
@[simp] theorem size_set (h : LHeap) (b : Nat) (o : LObj) : (h.set b o).size = h.size := rfl
@[simp] theorem size_push (h : LHeap) (o : LObj) : (h.push o).size = h.size + 1 := rfl
@[simp] theorem get_empty (b : Nat) : empty.get b = none := rfl
@[simp] theorem size_empty : empty.size = 0 := rfl
end LHeap

/-! ### Where a logical block lies -/

/-- A logical block begins at cell 'base' of the real block 'B', which has 'fin' cells. -/
structure Place where
 B : Nat
 base : Nat
 fin : Nat

abbrev Inj := Nat → Option Place

def Inj.le (ν ν' : Inj) : Prop := ∀ b pl, ν b = some pl → ν' b = some pl
theorem Inj.le_refl (ν : Inj) : ν.le ν := fun _ _ h => h
theorem Inj.le_trans {a b c : Inj} (h : a.le b) (k : b.le c) : a.le c := fun x pl hx => k x pl (h x pl hx)

/-- A logical value and the real one. A logical slice bears in its third place how many cells an element has. -/
inductive VR (ν : Inj) : Value → Value → Prop where
 | bool (b : Bool) : VR ν (.bool b) (.bool b)
 | int (k : IntKind) (n : Int) : VR ν (.int k n) (.int k n)
 | string (s : ByteArray) : VR ν (.string s) (.string s)
 | pnil : VR ν (.pointer none) (.pointer none)
 | ptr {b o : Nat} {pl : Place} : ν b = some pl → VR ν (.pointer (some ⟨b, o, none⟩)) (.pointer (some ⟨pl.B, pl.base + o, none⟩))
 | glob {g o : Nat} : VR ν (.pointer (some ⟨g, o, some 0⟩)) (.pointer (some ⟨g, o, none⟩))
 | snil {c : Nat} : VR ν (.slice none 0 c) (.slice none 0 0)
 | slice {b o n E cap : Nat} {pl : Place} : ν b = some pl → n ≤ cap → pl.base + o + cap * E ≤ pl.fin →
   VR ν (.slice (some ⟨b, o, none⟩) n E) (.slice (some ⟨pl.B, pl.base + o, none⟩) n cap)
 | sempty {a a' : Addr} {E : Nat} : VR ν (.slice (some a) 0 E) (.slice (some a') 0 0)
 | mnil : VR ν (.map none) (.map none)
 | map {r : Nat} {pl : Place} : ν r = some pl → VR ν (.map (some r)) (.map (some pl.B))
 | fnil : VR ν .nilFunc .nilFunc
 | func {fn : Fn} {c c' : Array Value} : c.size = c'.size → (∀ (i : Nat) (v v' : Value), c[i]? = some v → c'[i]? = some v' → VR ν v v') → VR ν (.func fn #[] c) (.func fn #[] c')
 | inil : VR ν .nilIface .nilIface
 | iface {t : TypeId} {v v' : Value} : VR ν v v' → VR ν (.iface t v) (.iface t v')
 | agg {c c' : Array Value} : c.size = c'.size → (∀ (i : Nat) (v v' : Value), c[i]? = some v → c'[i]? = some v' → VR ν v v') → VR ν (.agg c) (.agg c')
 | tuple {c c' : Array Value} : c.size = c'.size → (∀ (i : Nat) (v v' : Value), c[i]? = some v → c'[i]? = some v' → VR ν v v') → VR ν (.tuple c) (.tuple c')

theorem VR.mono {ν ν' : Inj} (hle : ν.le ν') {v v' : Value} (h : VR ν v v') : VR ν' v v' := by
 induction h with
 | bool b => exact .bool b
 | int k n => exact .int k n
 | string s => exact .string s
 | pnil => exact .pnil
 | ptr h => exact .ptr (hle _ _ h)
 | glob => exact .glob
 | snil => exact .snil
 | slice h a b => exact .slice (hle _ _ h) a b
 | sempty => exact .sempty
 | mnil => exact .mnil
 | map h => exact .map (hle _ _ h)
 | fnil => exact .fnil
 | func h _ ih => exact .func h (fun i v v' a b => ih i v v' a b)
 | inil => exact .inil
 | iface _ ih => exact .iface ih
 | agg h _ ih => exact .agg h (fun i v v' a b => ih i v v' a b)
 | tuple h _ ih => exact .tuple h (fun i v v' a b => ih i v v' a b)

theorem VR.oneCell {ν : Inj} {v v' : Value} (h : VR ν v v') : v'.oneCell' = v.oneCell' := by
 cases h <;> rfl

/-- Lists of values, one by one. -/
def VRs (ν : Inj) (l : List Value) (l' : List Value) : Prop := l.length = l'.length ∧ ∀ (i : Nat) (v v' : Value), l[i]? = some v → l'[i]? = some v' → VR ν v v'

theorem VRs.mono {ν ν' : Inj} (hle : ν.le ν') {l l' : List Value} (h : VRs ν l l') : VRs ν' l l' := ⟨h.1, fun i v v' a b => (h.2 i v v' a b).mono hle⟩
theorem VRs.nil (ν : Inj) : VRs ν [] [] := ⟨rfl, fun i v v' h => by simp at h⟩
theorem VRs.cons {ν : Inj} {v v' : Value} {l l' : List Value} (h : VR ν v v') (hl : VRs ν l l') : VRs ν (v :: l) (v' :: l') :=
 ⟨by simp [hl.1], fun i x x' a b => by cases i with
  | zero => simp at a b; subst a; subst b; exact h
  | succ i => exact hl.2 i x x' (by simpa using a) (by simpa using b)⟩
theorem VRs.cons_inv {ν : Inj} {v : Value} {l m : List Value} (h : VRs ν (v :: l) m) : ∃ v' l', m = v' :: l' ∧ VR ν v v' ∧ VRs ν l l' := by
 cases m with
 | nil => have := h.1; simp at this
 | cons x m => exact ⟨x, m, rfl, h.2 0 v x rfl rfl, ⟨by have := h.1; simpa using this, fun i a b p q => h.2 (i + 1) a b (by simpa using p) (by simpa using q)⟩⟩
theorem VRs.nil_inv {ν : Inj} {m : List Value} (h : VRs ν [] m) : m = [] := by
 cases m with
 | nil => rfl
 | cons x m => have := h.1; simp at this
theorem VRs.append {ν : Inj} {a a' b b' : List Value} (h : VRs ν a a') (k : VRs ν b b') : VRs ν (a ++ b) (a' ++ b') := by
 induction a generalizing a' with
 | nil => have := h.nil_inv; subst this; simpa using k
 | cons x a ih => obtain ⟨y, m, rfl, h1, h2⟩ := h.cons_inv; exact .cons h1 (ih h2)
theorem VRs.get {ν : Inj} {l l' : List Value} (h : VRs ν l l') {i : Nat} {v : Value} (hi : l[i]? = some v) : ∃ v', l'[i]? = some v' ∧ VR ν v v' := by
 have hlt : i < l.length := by
  rcases Nat.lt_or_ge i l.length with h | h
  ·exact h
  ·simp [List.getElem?_eq_none h] at hi
 have : i < l'.length := h.1 ▸ hlt
 exact ⟨l'[i], by simp [this], h.2 i v _ hi (by simp [this])⟩
theorem VRs.take {ν : Inj} {l l' : List Value} (h : VRs ν l l') (n : Nat) : VRs ν (l.take n) (l'.take n) :=
 ⟨by simp [h.1], fun i v v' a b => by
  simp only [List.getElem?_take] at a b
  split at a
  ·rename_i hlt; simp only [hlt, if_true] at b; exact h.2 i v v' a b
  ·simp at a⟩
theorem VRs.drop {ν : Inj} {l l' : List Value} (h : VRs ν l l') (n : Nat) : VRs ν (l.drop n) (l'.drop n) :=
 ⟨by simp [h.1], fun i v v' a b => by simp only [List.getElem?_drop] at a b; exact h.2 _ v v' a b⟩
theorem VRs.set {ν : Inj} {l l' : List Value} (h : VRs ν l l') (n : Nat) {v v' : Value} (hv : VR ν v v') : VRs ν (l.set n v) (l'.set n v') :=
 ⟨by simp [h.1], fun i x x' a b => by
  simp only [List.getElem?_set] at a b
  split at a
  ·rename_i e
   subst e
   split at a
   ·rename_i hlt; simp at a; subst a; simp [← h.1, hlt] at b; subst b; exact hv
   ·simp at a
  ·rename_i e; simp only [e, if_false] at b; exact h.2 i x x' a b⟩
theorem VRs.replicate {ν : Inj} {v v' : Value} (hv : VR ν v v') (n : Nat) : VRs ν (List.replicate n v) (List.replicate n v') :=
 ⟨by simp, fun i x x' a b => by
  simp only [List.getElem?_replicate] at a b
  split at a
  ·rename_i h; simp [h] at a b; subst a; subst b; exact hv
  ·simp at a⟩
theorem VRs.agg {ν : Inj} {c c' : Array Value} (h : VRs ν c.toList c'.toList) : VR ν (.agg c) (.agg c') :=
 .agg (by simpa using h.1) (fun i v v' a b => h.2 i v v' (by simpa using a) (by simpa using b))
theorem VRs.of_agg {ν : Inj} {c c' : Array Value} (h : VR ν (.agg c) (.agg c')) : VRs ν c.toList c'.toList := by
 cases h with
 | agg hs h => exact ⟨by simpa using hs, fun i v v' a b => h i v v' (by simpa using a) (by simpa using b)⟩
theorem VRs.tuple {ν : Inj} {c c' : Array Value} (h : VRs ν c.toList c'.toList) : VR ν (.tuple c) (.tuple c') :=
 .tuple (by simpa using h.1) (fun i v v' a b => h.2 i v v' (by simpa using a) (by simpa using b))
theorem VRs.oneCells {ν : Inj} {l l' : List Value} (h : VRs ν l l') (hl : l.all (·.oneCell') = true) : ∀ v ∈ l', v.oneCell' = true := by
 intro v' hv'
 obtain ⟨i, hi, rfl⟩ := List.getElem_of_mem hv'
 have hi' : i < l.length := h.1 ▸ hi
 have := h.2 i l[i] l'[i] (by simp [hi']) (by simp [hi])
 rw [this.oneCell]
 exact List.all_eq_true.1 hl _ (List.getElem_mem hi')
theorem VRs.cells {ν : Inj} {v v' : Value} (h : VR ν v v') : VRs ν v.cells.toList v'.cells.toList := by
 cases h <;> first | exact VRs.of_agg (.agg (by assumption) (by assumption)) | (refine .cons ?_ (.nil _); first | constructor; done | (constructor <;> assumption))

/-! ### The heaps' relation -/

/-- From where to where the real cells of a logical object reach that are its own. -/
def LObj.ext (pl : Place) : LObj → Nat
 | .cells cs tip _ => if tip then pl.fin else pl.base + cs.length
 | _ => 0

def LObj.writable : Option LObj → Bool
 | some (.cells _ _ rw) => rw
 | some (.map _) => true
 | _ => false

/-- No cell of the block is frozen. -/
def FzOk (fin : Nat) (fz : Nat × Nat) : Prop := fz.1 = fz.2 ∨ fin ≤ fz.1
theorem FzOk.not {fin : Nat} {fz : Nat × Nat} (h : FzOk fin fz) (k : Nat) (hk : k < fin) : ¬ (fz.1 ≤ k ∧ k < fz.2) := by
 rcases h with h | h <;> omega

def MapR (ν : Inj) (es : List (Value × Value)) (ents : Array MapEntry) : Prop :=
 es.length = ents.size ∧ ∀ (i : Nat) (e : Value × Value) (e' : MapEntry), es[i]? = some e → ents[i]? = some e' → VR ν e.1 e'.key ∧ VR ν e.2 e'.val

def ObjR (ν : Inj) (o : Option LObj) (pl : Place) (w : World) : Prop :=
 match o with
 | some (.cells cs tip rw) => ∃ c e fz, w.heap[pl.B]? = some (.cells c e fz) ∧ c.size = pl.fin ∧ pl.base + cs.length ≤ pl.fin ∧ (tip = true → rw = true) ∧
   (∀ i v, cs[i]? = some v → ∃ v', c[pl.base + i]? = some v' ∧ VR ν v v') ∧ (rw = true → FzOk pl.fin fz)
 | some (.map es) => ∃ ents clock, w.heap[pl.B]? = some (.map ents clock) ∧ MapR ν es ents ∧ MapKept.Stamped ents clock
 | _ => True

def Apart (o₁ : Option LObj) (o₂ : Option LObj) : Prop :=
 match o₁, o₂ with
 | some (.cells _ _ r₁), some (.cells _ _ r₂) => r₁ = true ∨ r₂ = true → False
 | some (.map _), some (.map _) => False
 | _, _ => True

structure HR0 (ν : Inj) (h : LHeap) (w : World) : Prop where
 dom : ∀ b pl, ν b = some pl → b < h.size
 obj : ∀ b pl, ν b = some pl → ObjR ν (h.get b) pl w
 sep : ∀ b c pl ql, ν b = some pl → ν c = some ql → b ≠ c → pl.B = ql.B → Apart (h.get b) (h.get c)
 real : ∀ b pl, ν b = some pl → pl.B < w.heap.size

/-- The package-level variables that nothing writes hold what they held. -/
def Gl (ν : Inj) (h : LHeap) (w : World) : Prop := ∀ g cs, glob g = some cs →
 (∃ c e fz, w.heap[g]? = some (.cells c e fz) ∧ c.size = cs.length ∧ ∀ (i : Nat) (v : Value), cs[i]? = some v → c[i]? = some v) ∧ ∀ b pl, ν b = some pl → pl.B = g → LObj.writable (h.get b) = false

structure HR (ν : Inj) (h : LHeap) (w : World) : Prop extends HR0 ν h w where
 gl : Gl ν h w

/-- From one world to a later one. -/
structure Step (ν : Inj) (h : LHeap) (w : World) (ν' : Inj) (h' : LHeap) (w' : World) : Prop where
 le : ν.le ν'
 os : w'.os = w.os
 tape : w'.tape = w.tape
 output : w'.output = w.output
 size : w.heap.size ≤ w'.heap.size
 lsize : h.size ≤ h'.size
 frame : ∀ B, B < w.heap.size → (∀ b pl, ν b = some pl → pl.B = B → LObj.writable (h.get b) = false) → w'.heap[B]? = w.heap[B]?
 back : ∀ b pl, ν' b = some pl → LObj.writable (h'.get b) = true → pl.B < w.heap.size → ∃ c ql, ν c = some ql ∧ ql.B = pl.B ∧ LObj.writable (h.get c) = true
 un : ∀ b, b < h.size → ν b = none → ν' b = none ∧ (h'.get b = h.get b ∨ h'.get b = some .dead)

theorem Step.refl (ν : Inj) (h : LHeap) (w : World) : Step ν h w ν h w :=
 ⟨Inj.le_refl ν, rfl, rfl, rfl, Nat.le_refl _, Nat.le_refl _, fun _ _ _ => rfl, fun b pl hb hw _ => ⟨b, pl, hb, rfl, hw⟩, fun _ _ hn => ⟨hn, .inl rfl⟩⟩

theorem Step.trans {ν ν₁ ν₂ : Inj} {h h₁ h₂ : LHeap} {w w₁ w₂ : World} (a : Step ν h w ν₁ h₁ w₁) (b : Step ν₁ h₁ w₁ ν₂ h₂ w₂) : Step ν h w ν₂ h₂ w₂ where
 le := Inj.le_trans a.le b.le
 os := b.os.trans a.os
 tape := b.tape.trans a.tape
 output := b.output.trans a.output
 size := Nat.le_trans a.size b.size
 lsize := Nat.le_trans a.lsize b.lsize
 frame := fun B hB hno => by
  rw [b.frame B (Nat.lt_of_lt_of_le hB a.size) ?_, a.frame B hB hno]
  intro x pl hx hB'
  cases hw : LObj.writable (h₁.get x) with
  | false => rfl
  | true =>
   obtain ⟨c, ql, hc, hcB, hcw⟩ := a.back x pl hx hw (hB' ▸ hB)
   rw [hno c ql hc (hcB.trans hB')] at hcw
   cases hcw
 back := fun x pl hx hw hlt => by
  obtain ⟨c, ql, hc, hcB, hcw⟩ := b.back x pl hx hw (Nat.lt_of_lt_of_le hlt a.size)
  obtain ⟨d, rl, hd, hdB, hdw⟩ := a.back c ql hc hcw (hcB ▸ hlt)
  exact ⟨d, rl, hd, hdB.trans hcB, hdw⟩
 un := fun x hx hn => by
  obtain ⟨h1, h2⟩ := a.un x hx hn
  obtain ⟨h3, h4⟩ := b.un x (Nat.lt_of_lt_of_le hx a.lsize) h1
  refine ⟨h3, h4.elim (fun e => ?_) .inr⟩
  rw [e]; exact h2

theorem Gl.step {ν ν' : Inj} {h h' : LHeap} {w w' : World} (gl : Gl ν h w) (s : Step ν h w ν' h' w') : Gl ν' h' w' := by
 intro g cs hg
 obtain ⟨⟨c, e, fz, h1, h2, h3⟩, h4⟩ := gl g cs hg
 have hlt : g < w.heap.size := by
  rcases Nat.lt_or_ge g w.heap.size with h | h
  ·exact h
  ·simp [Array.getElem?_eq_none h] at h1
 refine ⟨⟨c, e, fz, by rw [s.frame g hlt h4]; exact h1, h2, h3⟩, fun b pl hb hB => ?_⟩
 cases hw : LObj.writable (h'.get b) with
 | false => rfl
 | true =>
  obtain ⟨c, ql, hc, hcB, hcw⟩ := s.back b pl hb hw (hB ▸ hlt)
  rw [h4 c ql hc (hcB.trans hB)] at hcw
  cases hcw

theorem HR.of0 {ν ν' : Inj} {h h' : LHeap} {w w' : World} (hr : HR ν h w) (p : HR0 ν' h' w' ∧ Step ν h w ν' h' w') : HR ν' h' w' ∧ Step ν h w ν' h' w' := ⟨⟨p.1, hr.gl.step p.2⟩, p.2⟩

/-- A world that differs in what was drawn alone. -/
theorem HR.drew {ν : Inj} {h : LHeap} {w : World} (hr : HR ν h w) (n : Nat) : HR ν h { w with drawn := n } := ⟨⟨hr.dom, hr.obj, hr.sep, hr.real⟩, fun g cs hg => hr.gl g cs hg⟩
theorem Step.drew {ν : Inj} {h : LHeap} {w : World} (n : Nat) : Step ν h w ν h { w with drawn := n } :=
 ⟨Inj.le_refl ν, rfl, rfl, rfl, Nat.le_refl _, Nat.le_refl _, fun _ _ _ => rfl, fun b pl hb hw _ => ⟨b, pl, hb, rfl, hw⟩, fun _ _ hn => ⟨hn, .inl rfl⟩⟩

end Go.E1

/-
 The engine's operations: each reads values, may read or change the logical heap, and yields a value or nothing.
-/
namespace Go.E1
open Go

inductive LO where
 | t (n : Nat)
 | c (v : Value)

/-- What is equal to what: kinds of types for '==' and '!='. -/
inductive EqT where
 | basic
 | bool
 | ptr | slice | map | func
 | typed (t : TypeId)

inductive LOp (α : Type) where
 | mov (x : α)
 | alloc (zero : List Value)
 | box (x : α)
 | build (zero : List Value) (parts : List (Nat × Nat × α))
 | buildSlice (len esz : Nat) (zero : List Value) (parts : List (Nat × Nat × α))
 | load1 (a : α)
 | loadN (n : Nat) (a : α)
 | store (n : Nat) (a x : α)
 | nilCheck (a : α)
 | bin (op : BinOp) (ty : EqT) (x y : α)
 | un (op : UnOp) (x : α)
 | convInt (k : IntKind) (x : α)
 | convStr (x : α)
 | strBytes (x : α)
 | bytesStr (x : α)
 | makeFunc (fn : Fn) (captured : List α)
 | makeMap
 | makeSlice (esz bytes : Nat) (zero : List Value) (len cap : α)
 | slice (esz : Nat) (x : α) (lo hi max : Option α)
 | sliceStr (x : α) (lo hi : Option α)
 | sliceArr (n esz : Nat) (x : α) (lo hi max : Option α)
 | fieldAddr (off : Nat) (x : α)
 | field1 (off : Nat) (x : α)
 | fieldN (off n : Nat) (x : α)
 | idxAddrA (len esz : Nat) (x i : α)
 | idxAddrS (esz : Nat) (x i : α)
 | idxA1 (len : Nat) (x i : α)
 | idxAN (len esz : Nat) (x i : α)
 | idxStr (x i : α)
 | extract (i : Nat) (x : α)
 | lenStr (x : α)
 | lenS (x : α)
 | append (esz bytes : Nat) (s x : α)
 | copy (esz : Nat) (d s : α)
 | minmax (mx : Bool) (xs : List α)
 | markB (x : α)
 | mapGet (ok : Bool) (z : Value) (m k : α)
 | mapSet (m k v : α)
 | mapDel (m k : α)
 | clearS (z : List Value) (x : α)
 | bad

namespace LOp
variable {α β : Type}
def optM (f : α → Option β) : Option α → Option (Option β)
 | none => some none
 | some x => (f x).map some
def listM (f : α → Option β) : List α → Option (List β)
 | [] => some []
 | x :: l => match f x, listM f l with
  | some y, some m => some (y :: m)
  | _, _ => none
def partsM (f : α → Option β) : List (Nat × Nat × α) → Option (List (Nat × Nat × β))
 | [] => some []
 | (a, b, x) :: l => match f x, partsM f l with
  | some y, some m => some ((a, b, y) :: m)
  | _, _ => none

/-- The operands read. -/
def sub (f : α → Option β) : LOp α → Option (LOp β)
 | .mov x => (f x).map .mov
 | .alloc z => some (.alloc z)
 | .box x => (f x).map .box
 | .build z ps => (partsM f ps).map (.build z)
 | .buildSlice n e z ps => (partsM f ps).map (.buildSlice n e z)
 | .load1 x => (f x).map .load1
 | .loadN n x => (f x).map (.loadN n)
 | .store n a x => match f a, f x with | some a, some x => some (.store n a x) | _, _ => none
 | .nilCheck x => (f x).map .nilCheck
 | .bin op t x y => match f x, f y with | some x, some y => some (.bin op t x y) | _, _ => none
 | .un op x => (f x).map (.un op)
 | .convInt k x => (f x).map (.convInt k)
 | .convStr x => (f x).map .convStr
 | .strBytes x => (f x).map .strBytes
 | .bytesStr x => (f x).map .bytesStr
 | .makeFunc g c => (listM f c).map (.makeFunc g)
 | .makeMap => some .makeMap
 | .makeSlice e b z x y => match f x, f y with | some x, some y => some (.makeSlice e b z x y) | _, _ => none
 | .slice e x lo hi mx => match f x, optM f lo, optM f hi, optM f mx with | some x, some lo, some hi, some mx => some (.slice e x lo hi mx) | _, _, _, _ => none
 | .sliceStr x lo hi => match f x, optM f lo, optM f hi with | some x, some lo, some hi => some (.sliceStr x lo hi) | _, _, _ => none
 | .sliceArr n e x lo hi mx => match f x, optM f lo, optM f hi, optM f mx with | some x, some lo, some hi, some mx => some (.sliceArr n e x lo hi mx) | _, _, _, _ => none
 | .fieldAddr o x => (f x).map (.fieldAddr o)
 | .field1 o x => (f x).map (.field1 o)
 | .fieldN o n x => (f x).map (.fieldN o n)
 | .idxAddrA l e x i => match f x, f i with | some x, some i => some (.idxAddrA l e x i) | _, _ => none
 | .idxAddrS e x i => match f x, f i with | some x, some i => some (.idxAddrS e x i) | _, _ => none
 | .idxA1 l x i => match f x, f i with | some x, some i => some (.idxA1 l x i) | _, _ => none
 | .idxAN l e x i => match f x, f i with | some x, some i => some (.idxAN l e x i) | _, _ => none
 | .idxStr x i => match f x, f i with | some x, some i => some (.idxStr x i) | _, _ => none
 | .extract n x => (f x).map (.extract n)
 | .lenStr x => (f x).map .lenStr
 | .lenS x => (f x).map .lenS
 | .append e b s x => match f s, f x with | some s, some x => some (.append e b s x) | _, _ => none
 | .copy e d s => match f d, f s with | some d, some s => some (.copy e d s) | _, _ => none
 | .minmax m xs => (listM f xs).map (.minmax m)
 | .markB x => (f x).map .markB
 | .mapGet o z m k => match f m, f k with | some m, some k => some (.mapGet o z m k) | _, _ => none
 | .mapSet m k v => match f m, f k, f v with | some m, some k, some v => some (.mapSet m k v) | _, _, _ => none
 | .mapDel m k => match f m, f k with | some m, some k => some (.mapDel m k) | _, _ => none
 | .clearS z x => (f x).map (.clearS z)
 | .bad => some .bad

inductive Cls where | pure | reader | effect
 deriving DecidableEq

/-- Does it only reckon, does it read memory, or does it change it or make some? -/
def cls : LOp α → Cls
 | .alloc _ | .box _ | .buildSlice .. | .store .. | .strBytes _ | .makeMap | .makeSlice .. | .append .. | .copy .. | .markB _ | .mapSet .. | .mapDel .. | .clearS .. => .effect
 | .load1 _ | .loadN .. | .bytesStr _ | .sliceArr .. | .mapGet .. => .reader
 | _ => .pure
end LOp

/-! ### Numbers -/

def ibin (op : BinOp) (k : IntKind) (a b : Int) : Option Value :=
 match op with
 | .add => some (.int k (k.wrap (a + b)))
 | .sub => some (.int k (k.wrap (a - b)))
 | .mul => some (.int k (k.wrap (a * b)))
 | .quo => if b = 0 then none else some (.int k (k.wrap (a.tdiv b)))
 | .rem => if b = 0 then none else some (.int k (a.tmod b))
 | .and => some (.int k (k.wrap (BitVec.ofInt k.bits a &&& BitVec.ofInt k.bits b).toNat))
 | .or => some (.int k (k.wrap (BitVec.ofInt k.bits a ||| BitVec.ofInt k.bits b).toNat))
 | .xor => some (.int k (k.wrap (BitVec.ofInt k.bits a ^^^ BitVec.ofInt k.bits b).toNat))
 | .andNot => some (.int k (k.wrap (BitVec.ofInt k.bits a &&& ~~~ BitVec.ofInt k.bits b).toNat))
 | .eql => some (.bool (a == b))
 | .neq => some (.bool (a != b))
 | .lss => some (.bool (a < b))
 | .leq => some (.bool (a ≤ b))
 | .gtr => some (.bool (a > b))
 | .geq => some (.bool (a ≥ b))
 | _ => none

def ishift (op : BinOp) (k : IntKind) (a b : Int) : Option Value :=
 if b < 0 then none else
 match op with
 | .shl => some (.int k (k.wrap (a * 2 ^ (min b.toNat k.bits))))
 | .shr => some (.int k (a.fdiv (2 ^ (min b.toNat k.bits))))
 | _ => none

def BinOp.isShift : BinOp → Bool
 | .shl | .shr => true
 | _ => false

def sbin (op : BinOp) (a b : ByteArray) : Option Value :=
 match op with
 | .add => if a.size + b.size ≤ 4611686018427387904 then some (.string (a ++ b)) else none
 | .eql => some (.bool (a.data.toList == b.data.toList))
 | .neq => some (.bool (!(a.data.toList == b.data.toList)))
 | _ => none

def eqOr (op : BinOp) (b : Bool) : Option Value :=
 match op with
 | .eql => some (.bool b)
 | .neq => some (.bool (!b))
 | _ => none

abbrev EqF := TypeId → Value → Value → Option Bool

def lbin (q : EqF) (op : BinOp) (ty : EqT) (x y : Value) : Option Value :=
 match x, y with
 | .int k a, .int k' b => if BinOp.isShift op then ishift op k a b else if k = k' then ibin op k a b else none
 | .string a, .string b => sbin op a b
 | .bool a, .bool b => match ty with
  | .bool => eqOr op (a == b)
  | _ => none
 | .pointer a, .pointer b => match ty, a, b with
  | .ptr, none, b => eqOr op b.isNone
  | .ptr, some _, none => eqOr op false
  | _, _, _ => none
 | .slice a _ _, .slice b _ _ => match ty, a, b with
  | .slice, none, b => eqOr op b.isNone
  | .slice, some _, none => eqOr op false
  | _, _, _ => none
 | .map a, .map b => match ty, a, b with
  | .map, none, b => eqOr op b.isNone
  | .map, some _, none => eqOr op false
  | _, _, _ => none
 | .agg a, .agg b => match ty with
  | .typed t => match q t (.agg a) (.agg b) with
   | some r => eqOr op r
   | none => none
  | _ => none
 | _, _ => none

/-! ### Cells -/

def splice (cs : List Value) (o : Nat) (vs : List Value) : List Value := cs.take o ++ vs ++ cs.drop (o + vs.length)

/-! The same, by recursors: so the kernel reckons fast. -/

noncomputable def nthR {α : Type} (l : List α) : Nat → Option α :=
 List.rec (motive := fun _ => Nat → Option α) (fun _ => none) (fun v _ ih k => Nat.rec (motive := fun _ => Option α) (some v) (fun k _ => ih k) k) l
noncomputable def splR (l : List Value) (vs : List Value) : Nat → List Value :=
 List.rec (motive := fun _ => Nat → List Value) (fun _ => vs) (fun v l ih k => Nat.rec (motive := fun _ => List Value) (vs ++ (v :: l).drop vs.length) (fun k _ => v :: ih k) k) l
noncomputable def hasLen (l : List Value) (n : Nat) : Bool := Nat.rec (motive := fun _ => Bool) true (fun k _ => (nthR l k).isSome) n

theorem nthR_eq {α : Type} (l : List α) (k : Nat) : nthR l k = l[k]? := by
 induction l generalizing k with
 | nil => simp [nthR]
 | cons v l ih => cases k with
  | zero => rfl
  | succ k => rw [List.getElem?_cons_succ, ← ih k]; rfl
theorem splR_eq (l vs : List Value) (o : Nat) : splR l vs o = splice l o vs := by
 induction l generalizing o with
 | nil => simp [splR, splice]
 | cons v l ih => cases o with
  | zero =>
   have : splR (v :: l) vs 0 = vs ++ (v :: l).drop vs.length := rfl
   rw [this]
   simp [splice]
  | succ o =>
   have : splR (v :: l) vs (o + 1) = v :: splR l vs o := rfl
   rw [this, ih o]
   simp [splice, show o + 1 + vs.length = (o + vs.length) + 1 by omega]
theorem hasLen_eq (l : List Value) (n : Nat) : hasLen l n = true ↔ n ≤ l.length := by
 cases n with
 | zero => exact ⟨fun _ => Nat.zero_le _, fun _ => rfl⟩
 | succ k =>
  have : hasLen l (k + 1) = (nthR l k).isSome := rfl
  rw [this, nthR_eq]
  constructor
  ·intro h
   rcases Nat.lt_or_ge k l.length with q | q
   ·exact q
   ·simp [List.getElem?_eq_none q] at h
  ·intro h
   simp [show k < l.length from h]

def lfill : List Value → List (Nat × Nat × Value) → Option (List Value)
 | cs, [] => some cs
 | cs, (off, sz, v) :: r =>
  if v.cells.size = sz ∧ off + sz ≤ cs.length then lfill (splice cs off v.cells.toList) r else none

def oneCells (l : List Value) : Bool := l.all (·.oneCell')

def LHeap.loadCells (h : LHeap) (b o n : Nat) : Option (List Value) :=
 match h.get b with
 | some (.cells cs _ _) => if o + n ≤ cs.length then some ((cs.drop o).take n) else none
 | _ => none

noncomputable def LHeap.load1 (h : LHeap) (b o : Nat) : Option Value :=
 match h.get b with
 | some (.cells cs _ _) => nthR cs o
 | _ => none
theorem LHeap.load1_eq (h : LHeap) (b o : Nat) : h.load1 b o = match h.get b with
 | some (.cells cs _ _) => cs[o]?
 | _ => none := by
 unfold LHeap.load1
 split <;> simp [nthR_eq]

noncomputable def LHeap.storeCells (h : LHeap) (b o : Nat) (vs : List Value) : Option LHeap :=
 match h.get b with
 | some (.cells cs tip true) => if hasLen cs (o + vs.length) = true ∧ oneCells vs = true then some (h.set b (.cells (splR cs vs o) tip true)) else none
 | _ => none
theorem LHeap.storeCells_eq (h : LHeap) (b o : Nat) (vs : List Value) : h.storeCells b o vs = match h.get b with
 | some (.cells cs tip true) => if o + vs.length ≤ cs.length ∧ oneCells vs = true then some (h.set b (.cells (splice cs o vs) tip true)) else none
 | _ => none := by
 unfold LHeap.storeCells
 split <;> simp only [hasLen_eq, splR_eq]

/-- The first 'n' elements of a slice, or a string's bytes. -/
def LHeap.firstCells (h : LHeap) (esz : Nat) : Value → Option (Nat × List Value)
 | .slice none 0 _ => some (0, [])
 | .slice (some ⟨b, o, none⟩) n E => if E = esz then (if n = 0 then some (0, []) else (h.loadCells b o (n * esz)).map (n, ·)) else none
 | .string s => if esz = 1 then some (s.size, s.data.toList.map fun b => .int .u8 b.toNat) else none
 | _ => none

def bytesOf : List Value → Option (List UInt8)
 | [] => some []
 | .int .u8 n :: l => (bytesOf l).map (UInt8.ofNat n.toNat :: ·)
 | _ => none

def roomOk (n bytes : Nat) : Bool := n * bytes ≤ 140737488355328 && n ≤ 140737488355328

def lo1 : Option Value → Option (Option Nat)
 | none => some none
 | some (.int _ i) => if 0 ≤ i then some (some i.toNat) else none
 | _ => none

/-! ### Maps whose keys are whole numbers -/
def mfind (k : IntKind) (n : Int) : List (Value × Value) → Option (Option Value)
 | [] => some none
 | (.int k' m, v) :: r => if k = k' then (if n = m then some (some v) else mfind k n r) else none
 | _ => none
def mput (k : IntKind) (n : Int) (u : Value) : List (Value × Value) → List (Value × Value)
 | [] => [(.int k n, u)]
 | (.int k' m, v) :: r => if n = m then (.int k n, u) :: r else (.int k' m, v) :: mput k n u r
 | e :: r => e :: mput k n u r
def mdel (n : Int) : List (Value × Value) → List (Value × Value)
 | [] => []
 | (.int k' m, v) :: r => if n = m then r else (.int k' m, v) :: mdel n r
 | e :: r => e :: mdel n r
def mres (ok : Bool) (v : Value) (b : Bool) : Value := if ok then .tuple #[v, .bool b] else v

/-- A plain cell of a package-level variable that nothing writes. -/
noncomputable def globCell (g o : Nat) : Option Value := match glob g with
 | some cs => match nthR cs o with
  | some (.int k n) => some (.int k n)
  | _ => none
 | none => none

/-- One operation: what it yields, and the heap then. Nothing: it panics, or isn't served. -/
noncomputable def lexec (q : EqF) (o : LOp Value) (h : LHeap) : Option (Value × LHeap) :=
 match o with
 | .mov x => some (x, h)
 | .alloc z => some (.pointer (some ⟨h.size, 0, none⟩), h.push (.cells z true true))
 | .box x => some (.pointer (some ⟨h.size, 0, none⟩), h.push (.cells x.cells.toList true true))
 | .build z ps => (lfill z ps).map fun cs => (.agg cs.toArray, h)
 | .buildSlice n e z ps => if n * e ≤ 16777216 then (lfill z ps).map fun cs => (.slice (some ⟨h.size, 0, none⟩) n e, h.push (.cells cs true true)) else none
 | .load1 a => match a with
  | .pointer (some ⟨b, o, none⟩) => (h.load1 b o).map (·, h)
  | .pointer (some ⟨g, o, some 0⟩) => (globCell g o).map (·, h)
  | _ => none
 | .loadN n a => match a with
  | .pointer (some ⟨b, o, none⟩) => (h.loadCells b o n).map fun cs => (.agg cs.toArray, h)
  | _ => none
 | .store n a x => match a with
  | .pointer (some ⟨b, o, none⟩) => if x.cells.size = n then (h.storeCells b o x.cells.toList).map (.tuple #[], ·) else none
  | _ => none
 | .nilCheck a => match a with
  | .pointer (some p) => some (.pointer (some p), h)
  | .func (.func f) first c => if first.size = 0 then some (.func (.func f) first c, h) else none
  | _ => none
 | .bin op ty x y => (lbin q op ty x y).map (·, h)
 | .un op x => match op, x with
  | .neg, .int k n => some (.int k (k.wrap (0 - n)), h)
  | .xor, .int k n => (ibin .xor k (if k.signed then -1 else k.max) n).map (·, h)
  | .not, .bool b => some (.bool (!b), h)
  | _, _ => none
 | .convInt k x => match x with
  | .int _ n => some (.int k (k.wrap n), h)
  | _ => none
 | .convStr x => match x with
  | .string s => some (.string s, h)
  | _ => none
 | .strBytes x => match x with
  | .string s => some (.slice (some ⟨h.size, 0, none⟩) s.size 1, h.push (.cells (s.data.toList.map fun b => .int .u8 b.toNat) true true))
  | _ => none
 | .bytesStr x => match x with
  | .slice none 0 _ => some (.string ⟨#[]⟩, h)
  | .slice (some ⟨b, o, none⟩) n 1 => match (if n = 0 then some [] else h.loadCells b o n) with
   | some cs => (bytesOf cs).map fun l => (.string ⟨l.toArray⟩, h)
   | none => none
  | _ => none
 | .makeFunc f c => some (.func f #[] c.toArray, h)
 | .makeMap => some (.map (some h.size), h.push (.map []))
 | .makeSlice e bytes z n c => match n, c with
  | .int _ n, .int _ c => if 0 ≤ n ∧ n ≤ c ∧ roomOk c.toNat bytes = true ∧ z.length = e then
    some (.slice (some ⟨h.size, 0, none⟩) n.toNat e, h.push (.cells (List.replicate n.toNat z).flatten true true)) else none
  | _, _ => none
 | .slice e x lo hi mx => match x, lo1 lo, lo1 hi, mx with
  | .slice a n E, some lo, some hi, none =>
   if E = e ∨ a = none then
    if hi.getD n ≤ n ∧ lo.getD 0 ≤ hi.getD n then some (.slice (a.map fun p => ⟨p.block, p.off + lo.getD 0 * e, p.spot⟩) (hi.getD n - lo.getD 0) E, h) else none
   else none
  | .slice a n E, some lo, some (some hi), some (.int _ m) =>
   if E = e ∨ a = none then
    if hi ≤ n ∧ lo.getD 0 ≤ hi ∧ (m = (hi : Nat)) then some (.slice (a.map fun p => ⟨p.block, p.off + lo.getD 0 * e, p.spot⟩) (hi - lo.getD 0) E, h) else none
   else none
  | _, _, _, _ => none
 | .sliceStr x lo hi => match x, lo1 lo, lo1 hi with
  | .string s, some lo, some hi => if hi.getD s.size ≤ s.size ∧ lo.getD 0 ≤ hi.getD s.size then some (.string (s.extract (lo.getD 0) (hi.getD s.size)), h) else none
  | _, _, _ => none
 | .sliceArr n e x lo hi mx => match x, lo1 lo, lo1 hi, mx with
  | .pointer (some ⟨b, o, none⟩), some lo, some hi, none =>
   match h.get b with
   | some (.cells cs _ _) => if o + n * e ≤ cs.length ∧ hi.getD n ≤ n ∧ lo.getD 0 ≤ hi.getD n then some (.slice (some ⟨b, o + lo.getD 0 * e, none⟩) (hi.getD n - lo.getD 0) e, h) else none
   | _ => none
  | _, _, _, _ => none
 | .fieldAddr off x => match x with
  | .pointer (some ⟨b, o, none⟩) => some (.pointer (some ⟨b, o + off, none⟩), h)
  | .pointer (some ⟨b, o, some 0⟩) => some (.pointer (some ⟨b, o + off, some 0⟩), h)
  | _ => none
 | .field1 off x => match x with
  | .agg cs => (cs[off]?).map (·, h)
  | _ => none
 | .fieldN off n x => match x with
  | .agg cs => if off + n ≤ cs.size then some (.agg (cs.extract off (off + n)), h) else none
  | _ => none
 | .idxAddrA len e x i => match x, i with
  | .pointer (some ⟨b, o, none⟩), .int _ i => if 0 ≤ i ∧ i < len then some (.pointer (some ⟨b, o + i.toNat * e, none⟩), h) else none
  | .pointer (some ⟨b, o, some 0⟩), .int _ i => if 0 ≤ i ∧ i < len then some (.pointer (some ⟨b, o + i.toNat * e, some 0⟩), h) else none
  | _, _ => none
 | .idxAddrS e x i => match x, i with
  | .slice (some ⟨b, o, none⟩) n E, .int _ i => if 0 ≤ i ∧ i < n ∧ E = e then some (.pointer (some ⟨b, o + i.toNat * e, none⟩), h) else none
  | _, _ => none
 | .idxA1 len x i => match x, i with
  | .agg cs, .int _ i => if 0 ≤ i ∧ i < len then (cs[i.toNat]?).map (·, h) else none
  | _, _ => none
 | .idxAN len e x i => match x, i with
  | .agg cs, .int _ i => if 0 ≤ i ∧ i < len ∧ i.toNat * e + e ≤ cs.size then some (.agg (cs.extract (i.toNat * e) (i.toNat * e + e)), h) else none
  | _, _ => none
 | .idxStr x i => match x, i with
  | .string s, .int _ i => if 0 ≤ i then (nthR s.data.toList i.toNat).map fun b => (.int .u8 b.toNat, h) else none
  | _, _ => none
 | .extract i x => match x with
  | .tuple vs => (vs[i]?).map (·, h)
  | _ => none
 | .lenStr x => match x with
  | .string s => some (.int .i64 s.size, h)
  | _ => none
 | .lenS x => match x with
  | .slice _ n _ => some (.int .i64 n, h)
  | _ => none
 | .append e bytes s x => match s, h.firstCells e x with
  | .slice none 0 E, some (m, news) => if m = 0 then some (.slice none 0 E, h) else
   if roomOk m bytes = true ∧ oneCells news = true then some (.slice (some ⟨h.size, 0, none⟩) m e, h.push (.cells news true true)) else none
  | .slice (some ⟨b, o, none⟩) n E, some (m, news) =>
   if E = e ∧ oneCells news = true ∧ roomOk (n + m) bytes = true then
    match h.get b with
    | some (.cells cs tip _) =>
     if (tip = true ∧ o + n * e = cs.length) ∨ m = 0 then
      if m = 0 then some (.slice (some ⟨b, o, none⟩) n E, h) else
      some (.slice (some ⟨h.size, 0, none⟩) (n + m) e, (h.set b .dead).push (.cells (cs.drop o ++ news) true true))
     else if tip = true ∧ o + n * e ≤ cs.length then
      some (.slice (some ⟨h.size, 0, none⟩) (n + m) e, (h.set b .dead).push (.cells ((cs.take (o + n * e)).drop o ++ news) true true))
     else none
    | _ => none
   else none
  | _, _ => none
 | .copy e d s => match d, h.firstCells e s with
  | .slice none 0 _, some _ => some (.int .i64 0, h)
  | .slice (some ⟨b, o, none⟩) n E, some (m, cs) =>
   if E = e then (if min m n = 0 then some (.int .i64 0, h) else (h.storeCells b o (cs.take (min m n * e))).map (.int .i64 (min m n : Nat), ·)) else none
  | _, _ => none
 | .minmax mx xs => match xs with
  | .int k a :: r => (r.foldl (fun acc v => match acc, v with
   | some (Value.int k x), .int k' y => if k = k' then some (Value.int k (if mx then (if y > x then y else x) else (if y < x then y else x))) else none
   | _, _ => none) (some (.int k a))).map (·, h)
  | _ => none
 | .markB x => match x with
  | .slice (some ⟨b, o, none⟩) n E => if n = 0 then none else match h.get b with
   | some (.cells _ _ true) => some (.slice (some ⟨b, o, none⟩) n E, h)
   | _ => none
  | _ => none
 | .mapGet ok z m k => match m, k with
  | .map none, .int _ _ => some (mres ok z false, h)
  | .map (some r), .int k n => match h.get r with
   | some (.map es) => match mfind k n es with
    | some (some v) => some (mres ok v true, h)
    | some none => some (mres ok z false, h)
    | none => none
   | _ => none
  | _, _ => none
 | .mapSet m k v => match m, k with
  | .map (some r), .int k n => match h.get r with
   | some (.map es) => match mfind k n es with
    | some _ => some (.tuple #[], h.set r (.map (mput k n v es)))
    | none => none
   | _ => none
  | _, _ => none
 | .mapDel m k => match m, k with
  | .map (some r), .int k n => match h.get r with
   | some (.map es) => match mfind k n es with
    | some _ => some (.tuple #[], h.set r (.map (mdel n es)))
    | none => none
   | _ => none
  | _, _ => none
 | .clearS z x => match x with
  | .slice none 0 _ => some (.tuple #[], h)
  | .slice (some ⟨b, o, none⟩) n E => if E = z.length then (if n = 0 then some (.tuple #[], h) else (h.storeCells b o (List.replicate n z).flatten).map (.tuple #[], ·)) else none
  | _ => none
 | .bad => none

end Go.E1

/-
 The engine's code, its evaluator, and how a loaded function becomes such code.
-/
namespace Go.E1
open Go

inductive LAct where
 | op (o : LOp LO)
 | pick (c a b : LO)
 | call (f : LO) (args : List LO)
 | ncall (g : FuncId) (args : List LO)

/-! Plain values: no addresses in them. -/
mutual
def plain : Value → Bool
 | .bool _ | .int _ _ | .string _ | .pointer none | .slice none 0 0 | .map none | .nilFunc | .nilIface => true
 | .agg ⟨a⟩ => plains a
 | .tuple ⟨a⟩ => plains a
 | .iface _ v => plain v
 | _ => false
def plains : List Value → Bool
 | [] => true
 | v :: l => plain v && plains l
end


structure LOper where
 dst : Option Nat
 act : LAct
 guard : Option (Nat × Bool)

inductive LCode where
 | skip
 | region (ops : List LOper) (keep : List Nat)
 | dregion (ops : List (LOper × Nat × Nat)) (keep : List Nat)
 | seq (a b : LCode)
 | cond (c : LO) (a b : LCode)
 | block (id : Nat) (a : LCode)
 | loop (a : LCode)
 | exit (id : Nat)
 | ret
 | bad

inductive LRes where
 | tmp (t : Nat)
 | cell1 (t : Nat)
 | cellN (t n : Nat)

structure LFunc where
 ntmps : Nat
 results : List LRes
 body : LCode

/-! ### Frames -/

abbrev Fr := List (Nat × Value)

def Fr.get : Fr → Nat → Option Value
 | [], _ => none
 | (k, v) :: r, n => if k = n then some v else Fr.get r n

def Fr.rd (fr : Fr) : LO → Option Value
 | .t n => fr.get n
 | .c v => some v

def Fr.put (fr : Fr) (d : Option Nat) (v : Value) : Fr :=
 match d with
 | some d => (d, v) :: fr
 | none => fr

def Fr.keep (fr : Fr) : List Nat → Fr
 | [] => []
 | k :: ks => match fr.get k with
  | some v => (k, v) :: fr.keep ks
  | none => fr.keep ks

/-! ### The evaluator -/

abbrev CallF := FuncId → List Value → LHeap → Option (Value × LHeap)

noncomputable def lact (q : EqF) (call : CallF) (a : LAct) (fr : Fr) (h : LHeap) : Option (Value × LHeap) :=
 match a with
 | .op o => match o.sub fr.rd with
  | some lv => lexec q lv h
  | none => none
 | .pick c a b => match fr.rd c with
  | some (.bool true) => (fr.rd a).map (·, h)
  | some (.bool false) => (fr.rd b).map (·, h)
  | _ => none
 | .call f args => match fr.rd f, LOp.listM fr.rd args with
  | some (.func (.func g) first cap), some vs => if first.size = 0 then call g (vs ++ cap.toList) h else none
  | _, _ => none
 | .ncall g args => match LOp.listM fr.rd args with
  | some vs => if plains vs = true then match call g vs LHeap.empty with
    | some (v, _) => if plain v = true then some (v, h) else none
    | none => none
   else none
  | none => none

def undefL : Value := .tuple #[]

/-- A guard that was skipped itself says no. -/
def undefB (w : Bool) (v : Value) : Value :=
 match v with
 | .tuple ⟨[]⟩ => .bool (!w)
 | v => v

/-- Is it wanted? -/
def LOper.wanted (o : LOper) (fr : Fr) : Option Bool :=
 match o.guard with
 | none => some true
 | some (t, want) => match (fr.get t).map (undefB want) with
  | some (.bool b) => some (b == want)
  | _ => none

noncomputable def loper (q : EqF) (call : CallF) (o : LOper) (fr : Fr) (h : LHeap) : Option (Fr × LHeap) :=
 match o.wanted fr with
 | some true => match lact q call o.act fr h with
  | some (v, h') => some (fr.put o.dst v, h')
  | none => none
 | some false => some (fr.put o.dst undefL, h)
 | none => none

noncomputable def lops (q : EqF) (call : CallF) : List LOper → Fr → LHeap → Option (Fr × LHeap)
 | [], fr, h => some (fr, h)
 | o :: r, fr, h => match loper q call o fr h with
  | some (fr', h') => lops q call r fr' h'
  | none => none

def LAct.cls : LAct → LOp.Cls
 | .op o => o.cls
 | .pick .. => .pure
 | .call .. => .effect
 | .ncall .. => .pure

/-! Values that are one (for a reader that is asked at several places). -/
mutual
def veq : Value → Value → Bool
 | .bool a, .bool b => a == b
 | .int k a, .int l b => k == l && a == b
 | .string a, .string b => decide (a = b)
 | .pointer a, .pointer b => a == b
 | .slice a n c, .slice b m d => a == b && n == m && c == d
 | .map a, .map b => a == b
 | .nilFunc, .nilFunc => true
 | .func f ⟨a⟩ ⟨c⟩, .func g ⟨b⟩ ⟨d⟩ => f == g && veqs a b && veqs c d
 | .nilIface, .nilIface => true
 | .iface t a, .iface u b => t == u && veq a b
 | .agg ⟨a⟩, .agg ⟨b⟩ => veqs a b
 | .tuple ⟨a⟩, .tuple ⟨b⟩ => veqs a b
 | _, _ => false
def veqs : List Value → List Value → Bool
 | [], [] => true
 | a :: l, b :: m => veq a b && veqs l m
 | _, _ => false
end

/-- A reader, as it stood when it was asked; what it told; behind how many effects it must have come. -/
structure Pend where
 op : LOp Value
 v : Value
 hi : Nat

noncomputable def Pend.ok (q : EqF) (p : Pend) (h : LHeap) : Bool :=
 match lexec q p.op h with
 | some (v, _) => veq v p.v
 | none => false

/-- A region that draws its order, in the text's order: 'past': the heaps from the first on, each behind one effect more, the latest first. -/
noncomputable def ldops (q : EqF) (call : CallF) : List (LOper × Nat × Nat) → Fr → LHeap → List LHeap → List Pend → Option (Fr × LHeap)
 | [], fr, h, _, _ => some (fr, h)
 | (o, lo, hi) :: r, fr, h, past, pend =>
  match o.act.cls with
  | .pure => match loper q call o fr h with
   | some (fr', _) => ldops q call r fr' h past pend
   | none => none
  | .reader => match o.wanted fr with
   | some false => ldops q call r (fr.put o.dst undefL) h past pend
   | some true => match o.act with
    | .op op => match op.sub fr.rd with
     | some lv => match lexec q lv h with
      | some (v, _) =>
       let p : Pend := ⟨lv, v, hi⟩
       if (past.take (past.length - lo)).all (p.ok q) = true then ldops q call r (fr.put o.dst v) h past (p :: pend) else none
      | none => none
     | none => none
    | _ => none
   | none => none
  | .effect => match o.wanted fr with
   | some false => ldops q call r (fr.put o.dst undefL) h (h :: past) pend
   | some true => match lact q call o.act fr h with
    | some (v, h') => if pend.all (fun p => (p.hi ≤ past.length) || p.ok q h') = true then ldops q call r (fr.put o.dst v) h' (h :: past) pend else none
    | none => none
   | none => none

inductive LEx where
 | normal
 | exit (id : Nat)
 | ret

abbrev StepF := Fr → LHeap → Option (LEx × Fr × LHeap)

def loopN (step : StepF) : Nat → StepF
 | 0, _, _ => none
 | n + 1, fr, h => match step fr h with
  | some (.normal, fr', h') => loopN step n fr' h'
  | r => r

noncomputable def evC (q : EqF) (call : CallF) (fuel : Nat) : LCode → StepF
 | .skip, fr, h => some (.normal, fr, h)
 | .region ops ks, fr, h => match lops q call ops fr h with
  | some (fr', h') => some (.normal, fr'.keep ks, h')
  | none => none
 | .dregion ops ks, fr, h => match ldops q call ops fr h [] [] with
  | some (fr', h') => some (.normal, fr'.keep ks, h')
  | none => none
 | .seq a b, fr, h => match evC q call fuel a fr h with
  | some (.normal, fr', h') => evC q call fuel b fr' h'
  | r => r
 | .cond c a b, fr, h => match fr.rd c with
  | some (.bool true) => evC q call fuel a fr h
  | some (.bool false) => evC q call fuel b fr h
  | _ => none
 | .block id a, fr, h => match evC q call fuel a fr h with
  | some (.exit j, fr', h') => if j = id then some (.normal, fr', h') else some (.exit j, fr', h')
  | r => r
 | .loop a, fr, h => loopN (evC q call fuel a) fuel fr h
 | .exit id, fr, h => some (.exit id, fr, h)
 | .ret, fr, h => some (.ret, fr, h)
 | .bad, _, _ => none

noncomputable def lres (fr : Fr) (h : LHeap) : LRes → Option Value
 | .tmp t => fr.get t
 | .cell1 t => match fr.get t with
  | some (.pointer (some ⟨b, o, none⟩)) => h.load1 b o
  | _ => none
 | .cellN t n => match fr.get t with
  | some (.pointer (some ⟨b, o, none⟩)) => (h.loadCells b o n).map fun cs => .agg cs.toArray
  | _ => none

noncomputable def finish (rs : List LRes) (fr : Fr) (h : LHeap) : Option Value :=
 match LOp.listM (lres fr h) rs with
 | some [v] => some v
 | some vs => some (.tuple vs.toArray)
 | none => none

def params : Nat → List Value → Fr
 | _, [] => []
 | i, v :: l => (i, v) :: params (i + 1) l

/-- What a function is evaluated by: its code, or a contract proved otherwise. -/
structure Env where
 code : FuncId → Option LFunc
 prim : FuncId → Option (List Value → LHeap → Option (Value × LHeap))
 q : EqF

noncomputable def evF (E : Env) : Nat → CallF
 | 0, _, _, _ => none
 | n + 1, f, args, h => match E.prim f with
  | some p => p args h
  | none => match E.code f with
   | some lf => if args.length ≤ lf.ntmps then
     match evC E.q (evF E n) n lf.body (params 0 args) h with
     | some (.normal, fr, h') => (finish lf.results fr h').map (·, h')
     | some (.ret, fr, h') => (finish lf.results fr h').map (·, h')
     | _ => none
    else none
   | none => none

/-! ### From a loaded function to the engine's code -/

def constOk : Value → Bool
 | .bool _ | .int _ _ | .string _ | .pointer none | .slice none 0 0 | .map none | .nilFunc | .nilIface => true
 | _ => false

def cLO : Operand → Option LO
 | .tmp t => some (.t t)
 | .const v => if constOk v then some (.c v) else none
 | .func f => some (.c (.func (.func f) #[] #[]))
 | .global g => if (glob g).isSome then some (.c (.pointer (some ⟨g, 0, some 0⟩))) else none

def zeroOf (P : Program) (t : TypeId) : Option (List Value) :=
 match (P.info? t).bind (·.zero) with
 | some z => if z.cells.toList.all constOk then some z.cells.toList else none
 | none => none

def sizeP (P : Program) (t : TypeId) : Option Nat := (P.info? t).map (·.size)
def isAggP (P : Program) (t : TypeId) : Option Bool :=
 match P.underlying t with
 | some (.struct _) | some (.array _ _) => some true
 | some _ => some false
 | none => none

def zeroV (P : Program) (t : TypeId) : Option Value :=
 match (P.info? t).bind (·.zero) with
 | some z => if plain z then some z else none
 | none => none

def cParts (f : Nat → Option (Nat × Nat)) : List (Nat × Operand) → Option (List (Nat × Nat × LO))
 | [] => some []
 | (i, x) :: r => match f i, cLO x, cParts f r with
  | some (o, n), some y, some m => some ((o, n, y) :: m)
  | _, _, _ => none

def cPlaces (P : Program) : List Field → Option (List (Nat × Nat))
 | [] => some []
 | f :: r => match sizeP P f.type, cPlaces P r with
  | some n, some m => some ((f.offset, n) :: m)
  | _, _ => none

def cEq (P : Program) (t : TypeId) : Option EqT :=
 match P.underlying t with
 | some .bool => some .bool
 | some (.int _) | some .string => some .basic
 | some (.pointer _) => some .ptr
 | some (.slice _) => some .slice
 | some (.map _ _) => some .map
 | some (.func _ _ _) => some .func
 | some (.struct _) | some (.array _ _) => some (.typed t)
 | _ => none

def opt (f : Operand → Option LO) : Option Operand → Option (Option LO)
 | none => some none
 | some x => (f x).map some

def cBuiltin (P : Program) (b : Builtin) (ts : Array TypeId) (args : List LO) : Option (LOp LO) :=
 match b, args with
 | .len, [x] => match (ts[0]?).bind P.underlying with
  | some .string => some (.lenStr x)
  | some (.slice _) => some (.lenS x)
  | some (.array n _) => some (.mov (.c (.int .i64 n)))
  | _ => none
 | .append, [s, x] => match (ts[0]?).bind P.underlying with
  | some (.slice e) => match P.info? e, (ts[1]?).bind P.underlying with
   | some i, some (.slice _) => if i.size ≠ 0 ∧ (zeroOf P e).map (·.length) = some i.size then some (.append i.size i.bytes s x) else none
   | some i, some .string => if i.size ≠ 0 ∧ (zeroOf P e).map (·.length) = some i.size then some (.append i.size i.bytes s x) else none
   | _, _ => none
  | _ => none
 | .copy, [d, s] => match (ts[0]?).bind P.underlying with
  | some (.slice e) => match sizeP P e with
   | some n => if n = 0 then none else some (.copy n d s)
   | none => none
  | _ => none
 | .clear, [x] => match (ts[0]?).bind P.underlying with
  | some (.slice e) => match P.info? e, zeroOf P e with
   | some i, some z => if z.length = i.size ∧ i.size ≠ 0 then some (.clearS z x) else none
   | _, _ => none
  | _ => none
 | .delete, [m, k] => match (ts[0]?).bind P.underlying with
  | some (.map kt _) => match P.underlying kt with
   | some (.int _) => some (.mapDel m k)
   | _ => none
  | _ => none
 | .max, xs => some (.minmax true xs)
 | .min, xs => some (.minmax false xs)
 | _, _ => none

def cOp (P : Program) (op : Op) : Option (LOp LO) :=
 match op with
 | .move x | .assign x => (cLO x).map .mov
 | .alloc e => (zeroOf P e).map .alloc
 | .box _ x => (cLO x).map .box
 | .build t ps => match P.underlying t, zeroOf P t with
  | some (.struct fs), some z => match cPlaces P fs.toList with
   | some pl => (cParts (fun i => pl[i]?) ps.toList).map (.build z)
   | none => none
  | some (.array _ e), some z => match sizeP P e with
   | some n => (cParts (fun i => some (i * n, n)) ps.toList).map (.build z)
   | none => none
  | _, _ => none
 | .buildSlice t len ps => match P.underlying t with
  | some (.slice e) => match sizeP P e, zeroOf P e with
   | some n, some z => if z.length = n ∧ n ≠ 0 then (cParts (fun i => some (i * n, n)) ps.toList).map (.buildSlice len n (List.replicate len z).flatten) else none
   | _, _ => none
  | _ => none
 | .load t a => match cLO a, isAggP P t, sizeP P t with
  | some a, some true, some n => some (.loadN n a)
  | some a, some false, some _ => some (.load1 a)
  | _, _, _ => none
 | .store t a x => match cLO a, cLO x, sizeP P t with
  | some a, some x, some n => some (.store n a x)
  | _, _, _ => none
 | .nilCheck x => (cLO x).map .nilCheck
 | .binOp op t x y _ => match cEq P t, cLO x, cLO y with
  | some e, some x, some y => some (.bin op e x y)
  | _, _, _ => none
 | .unOp op _ x => (cLO x).map (.un op)
 | .convert src dst x => match P.underlying src, P.underlying dst, cLO x with
  | some _, some (.int k), some x => some (.convInt k x)
  | some .string, some .string, some x => some (.convStr x)
  | some .string, some (.slice e), some x => match P.underlying e with
   | some (.int .u8) => some (.strBytes x)
   | _ => none
  | some (.slice e), some .string, some x => match P.underlying e with
   | some (.int .u8) => some (.bytesStr x)
   | _ => none
  | some (.slice _), some (.slice e), some x => match P.underlying e with
   | some (.int .u8) => if src = dst then some (.markB x) else none
   | _ => none
  | _, _, _ => none
 | .makeFunc fn first cap => if first.size = 0 then (LOp.listM cLO cap.toList).map (.makeFunc fn) else none
 | .makeMap _ none => some .makeMap
 | .lookup t m k ok => match P.underlying t with
  | some (.map kt e) => match P.underlying kt, zeroV P e, cLO m, cLO k with
   | some (.int _), some z, some m, some k => some (.mapGet ok z m k)
   | _, _, _, _ => none
  | _ => none
 | .mapUpdate t m k v => match P.underlying t with
  | some (.map kt _) => match P.underlying kt, cLO m, cLO k, cLO v with
   | some (.int _), some m, some k, some v => some (.mapSet m k v)
   | _, _, _, _ => none
  | _ => none
 | .makeSlice t n c => match P.underlying t with
  | some (.slice e) => match P.info? e, zeroOf P e, cLO n, cLO c with
   | some i, some z, some n, some c => if z.length = i.size ∧ i.size ≠ 0 then some (.makeSlice i.size i.bytes z n c) else none
   | _, _, _, _ => none
  | _ => none
 | .slice t x lo hi mx => match P.underlying t, cLO x, opt cLO lo, opt cLO hi, opt cLO mx with
  | some (.slice e), some x, some lo, some hi, some mx => match sizeP P e with
   | some n => some (.slice n x lo hi mx)
   | none => none
  | some .string, some x, some lo, some hi, some none => some (.sliceStr x lo hi)
  | some (.array n e), some x, some lo, some hi, some mx => match sizeP P e with
   | some k => if k = 0 then none else some (.sliceArr n k x lo hi mx)
   | none => none
  | _, _, _, _, _ => none
 | .fieldAddr s x i => match P.underlying s, cLO x with
  | some (.struct fs), some x => match fs[i]? with
   | some f => match sizeP P f.type with
    | some n => if n = 0 then none else some (.fieldAddr f.offset x)
    | none => none
   | none => none
  | _, _ => none
 | .field s x i => match P.underlying s, cLO x with
  | some (.struct fs), some x => match fs[i]? with
   | some f => match isAggP P f.type, sizeP P f.type with
    | some true, some n => some (.fieldN f.offset n x)
    | some false, some _ => some (.field1 f.offset x)
    | _, _ => none
   | none => none
  | _, _ => none
 | .indexAddr t x i => match P.underlying t, cLO x, cLO i with
  | some (.array len e), some x, some i => (sizeP P e).map fun n => .idxAddrA len n x i
  | some (.slice e), some x, some i => (sizeP P e).map fun n => .idxAddrS n x i
  | _, _, _ => none
 | .index t x i => match P.underlying t, cLO x, cLO i with
  | some (.array len e), some x, some i => match isAggP P e, sizeP P e with
   | some true, some n => some (.idxAN len n x i)
   | some false, some 1 => some (.idxA1 len x i)
   | _, _ => none
  | some .string, some x, some i => some (.idxStr x i)
  | _, _, _ => none
 | .extract x i => (cLO x).map (.extract i)
 | .call { callee := .builtin b, args, argTypes } => match LOp.listM cLO args.toList with
  | some l => cBuiltin P b argTypes l
  | none => none
 | _ => none

def cCall (nt : List FuncId) (f : LO) (l : List LO) : LAct :=
 match f with
 | .c (.func (.func g) ⟨[]⟩ ⟨[]⟩) => if nt.contains g = true then .ncall g l else .call f l
 | _ => .call f l

def cAct (nt : List FuncId) (P : Program) (op : Op) : Option LAct :=
 match op with
 | .pick c a b => match cLO c, cLO a, cLO b with
  | some c, some a, some b => some (.pick c a b)
  | _, _, _ => some (.op .bad)
 | .call { callee := .value f, args, .. } => match cLO f, LOp.listM cLO args.toList with
  | some f, some l => some (cCall nt f l)
  | _, _ => some (.op .bad)
 | op => some (.op ((cOp P op).getD .bad))

def dstOk (n : Nat) : Option Nat → Bool
 | some d => decide (d < n)
 | none => true

def cOper (nt : List FuncId) (P : Program) (n : Nat) (ops : Array Oper) (o : Oper) : Option LOper :=
 match cAct nt P o.op with
 | none => none
 | some a =>
  if dstOk n o.dst = true then
   match o.guard with
   | none => some ⟨o.dst, a, none⟩
   | some (j, want) => match (ops[j]?).bind (·.dst) with
    | some t => some ⟨o.dst, a, some (t, want)⟩
    | none => none
  else none

def cOpers (nt : List FuncId) (P : Program) (n : Nat) (ops : Array Oper) : List Oper → Option (List LOper)
 | [] => some []
 | o :: r => match cOper nt P n ops o, cOpers nt P n ops r with
  | some x, some l => some (x :: l)
  | _, _ => none

/-! Regions that draw their order: which operations must come ahead of which, as bits. -/

def direct (o : Oper) : List Nat := (o.after.toList.filter (Region.binds .any)).map (·.on)

def maskOf (ms : List Nat) (ds : List Nat) : Nat := ds.foldl (fun s d => s ||| 2 ^ d ||| ms.getD d 0) 0

def masks : List Oper → List Nat → List Nat
 | [], ms => ms
 | o :: r, ms => masks r (ms ++ [maskOf ms (direct o)])

def isEff (l : LOper) : Bool := l.act.cls == .effect

/-- Does it only make a new block? -/
def laOp (o : Oper) : Bool := match o.op with
 | .alloc .. | .box .. | .buildSlice .. | .makeSlice .. | .makeMap _ none => true
 | _ => false

/-- How many of the effects there are up to the last one of these. -/
def topGo (p : Nat → Bool) : List LOper → Nat → Nat → Nat → Nat
 | [], _, _, b => b
 | l :: r, i, c, b => if isEff l = true then topGo p r (i + 1) (c + 1) (if p i = true then c + 1 else b) else topGo p r (i + 1) c b
def topIn (ls : List LOper) (p : Nat → Bool) : Nat := topGo p ls 0 0 0

/-- Is all well ordered? What only makes a block may come later than what stands behind it. -/
def dOk (ops : List Oper) (ls : List LOper) (ms : List Nat) : Bool :=
 (ms.length == ops.length) && (ls.length == ops.length) &&
 (List.range ops.length).all fun j => match ops[j]?, ls[j]? with
  | some oj, some lj =>
   (direct oj).all (· < j) && (ms.getD j 0 == maskOf ms (direct oj)) &&
   (List.range j).all fun i => match ops[i]?, ls[i]? with
    | some oi, some li => (ms.getD j 0).testBit i || (Oper.apart ops.toArray oi oj && !(isEff li && isEff lj && !laOp oi))
    | _, _ => false
  | _, _ => false

def dBounds (ls : List LOper) (ms : List Nat) : List (LOper × Nat × Nat) :=
 ls.zipIdx.map fun (l, i) => (l, topIn ls (fun j => (ms.getD i 0).testBit j), topIn ls (fun j => !(ms.getD j 0).testBit i))

/-! ### In another order -/
def renum (π : List Nat) (o : Oper) : Oper := { o with after := o.after.map fun e => { e with on := π.idxOf e.on }, guard := o.guard.map fun g => (π.idxOf g.1, g.2) }
def permOps (π : List Nat) (ops : Array Oper) : Array Oper := (π.map fun i => renum π (ops.getD i default)).toArray
def permOk (π : List Nat) (n : Nat) : Bool :=
 (π.length == n) && (((List.range n).all fun i => decide (π.idxOf i < n) && (π[π.idxOf i]? == some i)) && ((List.range n).all fun k => match π[k]? with | some i => decide (i < n) && (π.idxOf i == k) | none => false))
/-- What only makes a block, and may come ahead of effects that stand before it, goes first, with all it stands on. -/
def earlyOrd (ops : List Oper) (ls : List LOper) (ms : List Nat) : List Nat :=
 let eff := fun i => (ls[i]?).any isEff
 let la := fun i => (ops[i]?).any laOp
 let bad := (List.range ops.length).filter fun j => la j && (eff j && (List.range j).any fun i => eff i && (!la i && !(ms.getD j 0).testBit i))
 let m := bad.foldl (fun s j => s ||| 2 ^ j ||| ms.getD j 0) 0
 ((List.range ops.length).filter fun i => m.testBit i) ++ ((List.range ops.length).filter fun i => !m.testBit i)
def dCode (nt : List FuncId) (P : Program) (n : Nat) (ops : Array Oper) (l : List LOper) (k : List Nat) : LCode :=
 if dOk ops.toList l (masks ops.toList []) = true then .dregion (dBounds l (masks ops.toList [])) k else
  let π := earlyOrd ops.toList l (masks ops.toList [])
  match cOpers nt P n (permOps π ops) (permOps π ops).toList with
  | some l' => if permOk π ops.size = true ∧ dOk (permOps π ops).toList l' (masks (permOps π ops).toList []) = true then .dregion (dBounds l' (masks (permOps π ops).toList [])) k else .bad
  | none => .bad

def cCode (nt : List FuncId) (P : Program) (n : Nat) : Code → List (List Nat) → Option (LCode × List (List Nat))
 | .skip, ks => some (.skip, ks)
 | .region _ ops false, k :: ks => match cOpers nt P n ops ops.toList with
  | some l => some (.region l k, ks)
  | none => none
 | .region _ ops true, k :: ks => match cOpers nt P n ops ops.toList with
  | some l => some (dCode nt P n ops l k, ks)
  | none => none
 | .seq a b, ks => match cCode nt P n a ks with
  | some (x, ks) => match cCode nt P n b ks with
   | some (y, ks) => some (.seq x y, ks)
   | none => none
  | none => none
 | .cond c a b, ks => match cLO c, cCode nt P n a ks with
  | some c, some (x, ks) => match cCode nt P n b ks with
   | some (y, ks) => some (.cond c x y, ks)
   | none => none
  | _, _ => none
 | .block id a, ks => match cCode nt P n a ks with
  | some (x, ks) => some (.block id x, ks)
  | none => none
 | .loop a, ks => match cCode nt P n a ks with
  | some (x, ks) => some (.loop x, ks)
  | none => none
 | .exit id, ks => some (.exit id, ks)
 | .ret, ks => some (.ret, ks)
 | _, ks => some (.bad, ks)

def cRes (P : Program) : ResultVar → Option LRes
 | .tmp t => some (.tmp t)
 | .cell a t => match isAggP P t, sizeP P t with
  | some true, some n => some (.cellN a n)
  | some false, some _ => some (.cell1 a)
  | _, _ => none

def cFunc (P : Program) (f : Func) (ks : List (List Nat)) (nt : List FuncId := []) : Option LFunc :=
 match f.body with
 | none => none
 | some c => match cCode nt P f.ntmps c ks, LOp.listM (cRes P) f.results.toList with
  | some (lc, []), some rs => if f.name = "runtime.NumGoroutine" then none else some ⟨f.ntmps, rs, lc⟩
  | _, _ => none

end Go.E1

/-
 What becomes of the two heaps' relation when something is made, written, or appended to.
-/
namespace Go.E1
open Go

/-! ### Worlds -/

/-- Block 'B' becomes 'o'. -/
def wput (w : World) (B : Nat) (o : Obj) : World := { w with heap := w.heap.setIfInBounds B o }

theorem wput_same {w : World} {B : Nat} {o : Obj} (h : B < w.heap.size) : (wput w B o).heap[B]? = some o := by simp [wput, h]
theorem wput_other {w : World} {B k : Nat} {o : Obj} (h : k ≠ B) : (wput w B o).heap[k]? = w.heap[k]? := by
 simp [wput, Ne.symm h]

theorem cell?_of_heap {w : World} {B k : Nat} {c : Array Value} {e : TypeId} {fz : Nat × Nat} (h : w.heap[B]? = some (.cells c e fz)) : w.cell? ⟨B, k, none⟩ = c[k]? := by
 simp [World.cell?, h]

theorem frozen?_of_heap {w : World} {B k : Nat} {c : Array Value} {e : TypeId} {fz : Nat × Nat} (h : w.heap[B]? = some (.cells c e fz)) (hf : ¬ (fz.1 ≤ k ∧ k < fz.2)) : w.frozen? ⟨B, k, none⟩ = false := by
 obtain ⟨lo, hi⟩ := fz
 simp only [World.frozen?, h]
 simp at hf ⊢
 intro h1
 exact hf h1

theorem add_plain (B k i : Nat) : (⟨B, k, none⟩ : Addr).add i = ⟨B, k + i, none⟩ := by unfold Addr.add; split <;> simp_all

/-- The cells from 'k' on become these. -/
def aput (c : Array Value) (k : Nat) (vs : List Value) : Array Value := (splice c.toList k vs).toArray

theorem splice_nil (cs : List Value) (o : Nat) : splice cs o [] = cs := by simp [splice]
theorem splice_cons (cs : List Value) (o : Nat) (v : Value) (vs : List Value) (h : o < cs.length) : splice (cs.set o v) (o + 1) vs = splice cs o (v :: vs) := by
 simp only [splice, List.length_cons]
 rw [List.drop_set_of_lt (by omega), show o + 1 + vs.length = o + (vs.length + 1) by omega]
 have h1 : (cs.set o v).take (o + 1) = cs.take o ++ [v] := by
  apply List.ext_getElem?
  intro i
  rw [List.getElem?_take, List.getElem?_append]
  simp only [List.length_take, Nat.min_eq_left (Nat.le_of_lt h), List.getElem?_set, List.getElem?_take]
  by_cases h1 : i < o
  ·have : ¬ o = i := by omega
   simp [h1, this, show i < o + 1 by omega]
  ·by_cases h2 : i = o
   ·subst h2; simp [h]
   ·have : ¬ i < o + 1 := by omega
    simp only [this, h1, if_false]
    rw [List.getElem?_eq_none (by simp; omega)]
 rw [h1]
 simp
theorem length_splice (cs : List Value) (o : Nat) (vs : List Value) (h : o + vs.length ≤ cs.length) : (splice cs o vs).length = cs.length := by
 simp [splice]; omega
theorem getElem?_splice (cs : List Value) (o : Nat) (vs : List Value) (h : o + vs.length ≤ cs.length) (i : Nat) :
  (splice cs o vs)[i]? = if i < o then cs[i]? else if i < o + vs.length then vs[i - o]? else cs[i]? := by
 simp only [splice]
 rw [List.getElem?_append, List.getElem?_append]
 simp only [List.length_append, List.length_take, Nat.min_eq_left (show o ≤ cs.length by omega)]
 by_cases h1 : i < o
 ·have : i < o + vs.length := by omega
  simp [h1, this]
 ·by_cases h2 : i < o + vs.length
  ·simp [h1, h2]
  ·simp only [h1, h2, if_false, List.getElem?_drop]
   congr 1
   omega

theorem setCells_heap : ∀ (vs : List Value) (w : World) (B k : Nat) (c : Array Value) (e : TypeId) (fz : Nat × Nat), w.heap[B]? = some (.cells c e fz) → k + vs.length ≤ c.size →
  w.setCells B k vs = wput w B (.cells (aput c k vs) e fz)
 | [], w, B, k, c, e, fz, h, _ => by
  simp only [World.setCells, aput, splice_nil, wput]
  have hb : B < w.heap.size := by
   rcases Nat.lt_or_ge B w.heap.size with h' | h'
   ·exact h'
   ·simp [Array.getElem?_eq_none h'] at h
  have : w.heap.setIfInBounds B (.cells c.toList.toArray e fz) = w.heap := by
   apply Array.ext_getElem?
   intro i
   simp only [Array.getElem?_setIfInBounds]
   split
   ·rename_i e'; subst e'; simp [hb] at h ⊢; simpa using h.symm
   ·rfl
  rw [this]
 | v :: vs, w, B, k, c, e, fz, h, hl => by
  have hb : B < w.heap.size := by
   rcases Nat.lt_or_ge B w.heap.size with h' | h'
   ·exact h'
   ·simp [Array.getElem?_eq_none h'] at h
  have hk : k < c.size := by simp at hl; omega
  have h1 : w.setCell ⟨B, k, none⟩ v = wput w B (.cells (c.setIfInBounds k v) e fz) := by
   simp only [World.setCell, wput]
   congr 1
   apply Array.ext_getElem?
   intro i
   simp only [Array.getElem?_modify, Array.getElem?_setIfInBounds]
   by_cases hi : B = i
   ·subst hi; simp [hb] at h ⊢; simp [h]
   ·simp [hi]
  simp only [World.setCells, h1]
  rw [setCells_heap vs (wput w B (.cells (c.setIfInBounds k v) e fz)) B (k + 1) (c.setIfInBounds k v) e fz (wput_same hb) (by simp at hl ⊢; omega)]
  simp only [wput, aput]
  have h2 : (c.setIfInBounds k v).toList = c.toList.set k v := by simp
  rw [h2, splice_cons _ _ _ _ (by simpa using hk)]
  congr 1
  apply Array.ext_getElem?
  intro i
  simp only [Array.getElem?_setIfInBounds]
  split <;> simp_all

/-! ### Making -/

def Inj.put (ν : Inj) (b : Nat) (pl : Place) : Inj := fun c => if c = b then some pl else ν c
theorem Inj.put_same (ν : Inj) (b : Nat) (pl : Place) : ν.put b pl b = some pl := by simp [Inj.put]
theorem Inj.le_put {ν : Inj} {b : Nat} {pl : Place} (h : ν b = none) : ν.le (ν.put b pl) := fun c ql hc => by
 by_cases e : c = b
 ·subst e; rw [h] at hc; cases hc
 ·simpa [Inj.put, e] using hc

theorem HR.fresh {ν : Inj} {h : LHeap} {w : World} (hr : HR ν h w) : ν h.size = none := by
 cases e : ν h.size with
 | none => rfl
 | some pl => exact absurd (hr.dom _ _ e) (Nat.lt_irrefl _)

theorem ObjR.mono {ν ν' : Inj} (hle : Inj.le ν ν') {o : Option LObj} {pl : Place} {w w' : World} (hh : w'.heap[pl.B]? = w.heap[pl.B]?) (h : ObjR ν o pl w) : ObjR ν' o pl w' := by
 unfold ObjR at *
 split at h
 ·obtain ⟨c, e, fz, h1, h2, h3, h4, h5, h6⟩ := h
  exact ⟨c, e, fz, hh ▸ h1, h2, h3, h4, fun i v hi => let ⟨v', a, b⟩ := h5 i v hi; ⟨v', a, b.mono hle⟩, h6⟩
 ·obtain ⟨ents, clock, h1, ⟨h2, h3⟩, h4⟩ := h
  exact ⟨ents, clock, hh ▸ h1, ⟨h2, fun i e e' a b => let ⟨x, y⟩ := h3 i e e' a b; ⟨x.mono hle, y.mono hle⟩⟩, h4⟩
 ·trivial

theorem alloc_get {w : World} {o : Obj} (k : Nat) (h : k < w.heap.size) : (w.alloc o).heap[k]? = w.heap[k]? := RowKit.Below.heap_alloc w o k h
theorem alloc_size {w : World} {o : Obj} : (w.alloc o).heap.size = w.heap.size + 1 := by
 show (w.heap.push o).size = _
 simp
theorem alloc_new {w : World} {o : Obj} : (w.alloc o).heap[w.heap.size]? = some o := by
 show (w.heap.push o)[w.heap.size]? = _
 simp

/-- A new block. 'cs'': the real cells, of which the first ones are the logical ones. -/
theorem HR.alloc {ν : Inj} {h : LHeap} {w : World} (hr : HR ν h w) (cs : List Value) (cs' : Array Value) (t : TypeId) (fz : Nat × Nat) (hlen : cs.length ≤ cs'.size)
  (hv : ∀ (i : Nat) v, cs[i]? = some v → ∃ v', cs'[i]? = some v' ∧ VR ν v v') (hfz : FzOk cs'.size fz) :
  HR (ν.put h.size ⟨w.heap.size, 0, cs'.size⟩) (h.push (.cells cs true true)) (w.alloc (.cells cs' t fz)) ∧
  Step ν h w (ν.put h.size ⟨w.heap.size, 0, cs'.size⟩) (h.push (.cells cs true true)) (w.alloc (.cells cs' t fz)) := by
 have hle := Inj.le_put (pl := ⟨w.heap.size, 0, cs'.size⟩) hr.fresh
 have old : ∀ b pl, (ν.put h.size ⟨w.heap.size, 0, cs'.size⟩) b = some pl → b ≠ h.size → ν b = some pl := fun b pl hb hne => by simpa [Inj.put, hne] using hb
 have new : ∀ pl, (ν.put h.size ⟨w.heap.size, 0, cs'.size⟩) h.size = some pl → pl = ⟨w.heap.size, 0, cs'.size⟩ := fun pl hb => by rw [Inj.put_same] at hb; exact (Option.some.inj hb).symm
 refine hr.of0 ?_
 refine ⟨⟨?_, ?_, ?_, ?_⟩, ⟨hle, rfl, rfl, rfl, by rw [alloc_size]; omega, by simp, ?_, ?_, fun x hx hn => ⟨by simp [Inj.put, Nat.ne_of_lt hx, hn], by simp [Nat.ne_of_lt hx]⟩⟩⟩
 ·intro b pl hb
  by_cases e : b = h.size
  ·simp [e]
  ·have := hr.dom b pl (old b pl hb e); simp; omega
 ·intro b pl hb
  by_cases e : b = h.size
  ·subst e
   have := new pl hb; subst this
   simp only [LHeap.get_push, if_pos]
   exact ⟨cs', t, fz, alloc_new, rfl, by simpa using hlen, fun _ => rfl, fun i v hi => let ⟨v', a, b⟩ := hv i v hi; ⟨v', by simpa using a, b.mono hle⟩, fun _ => hfz⟩
  ·have hb' := old b pl hb e
   simp only [LHeap.get_push, e, if_false]
   exact (hr.obj b pl hb').mono hle (alloc_get _ (hr.real b pl hb'))
 ·intro b c pl ql hb hc hne hB
  by_cases e : b = h.size
  ·subst e
   have := new pl hb; subst this
   have := hr.real c ql (old c ql hc (Ne.symm hne))
   simp at hB; omega
  ·by_cases e' : c = h.size
   ·subst e'
    have := new ql hc; subst this
    have := hr.real b pl (old b pl hb e)
    simp at hB; omega
   ·simp only [LHeap.get_push, e, e', if_false]
    exact hr.sep b c pl ql (old b pl hb e) (old c ql hc e') hne hB
 ·intro b pl hb
  by_cases e : b = h.size
  ·subst e
   have := new pl hb; subst this
   rw [alloc_size]; simp
  ·have := hr.real b pl (old b pl hb e); rw [alloc_size]; omega
 ·intro B hB _
  exact alloc_get B hB
 ·intro b pl hb hw hlt
  by_cases e : b = h.size
  ·subst e
   have := new pl hb; subst this
   simp at hlt
  ·simp only [LHeap.get_push, e, if_false] at hw
   exact ⟨b, pl, old b pl hb e, rfl, hw⟩

/-- A new map. -/
theorem HR.allocMap {ν : Inj} {h : LHeap} {w : World} (hr : HR ν h w) (fin : Nat) :
  HR (ν.put h.size ⟨w.heap.size, 0, fin⟩) (h.push (.map [])) (w.alloc (.map #[] 0)) ∧
  Step ν h w (ν.put h.size ⟨w.heap.size, 0, fin⟩) (h.push (.map [])) (w.alloc (.map #[] 0)) := by
 have hle := Inj.le_put (pl := ⟨w.heap.size, 0, fin⟩) hr.fresh
 have old : ∀ b pl, (ν.put h.size ⟨w.heap.size, 0, fin⟩) b = some pl → b ≠ h.size → ν b = some pl := fun b pl hb hne => by simpa [Inj.put, hne] using hb
 have new : ∀ pl, (ν.put h.size ⟨w.heap.size, 0, fin⟩) h.size = some pl → pl = ⟨w.heap.size, 0, fin⟩ := fun pl hb => by rw [Inj.put_same] at hb; exact (Option.some.inj hb).symm
 refine hr.of0 ?_
 refine ⟨⟨?_, ?_, ?_, ?_⟩, ⟨hle, rfl, rfl, rfl, by rw [alloc_size]; omega, by simp, ?_, ?_, fun x hx hn => ⟨by simp [Inj.put, Nat.ne_of_lt hx, hn], by simp [Nat.ne_of_lt hx]⟩⟩⟩
 ·intro b pl hb
  by_cases e : b = h.size
  ·simp [e]
  ·have := hr.dom b pl (old b pl hb e); simp; omega
 ·intro b pl hb
  by_cases e : b = h.size
  ·subst e
   have := new pl hb; subst this
   simp only [LHeap.get_push, if_pos]
   exact ⟨#[], 0, alloc_new, ⟨rfl, fun i e e' h => by simp at h⟩, MapKept.stamped_empty 0⟩
  ·have hb' := old b pl hb e
   simp only [LHeap.get_push, e, if_false]
   exact (hr.obj b pl hb').mono hle (alloc_get _ (hr.real b pl hb'))
 ·intro b c pl ql hb hc hne hB
  by_cases e : b = h.size
  ·subst e
   have := new pl hb; subst this
   have := hr.real c ql (old c ql hc (Ne.symm hne))
   simp at hB; omega
  ·by_cases e' : c = h.size
   ·subst e'
    have := new ql hc; subst this
    have := hr.real b pl (old b pl hb e)
    simp at hB; omega
   ·simp only [LHeap.get_push, e, e', if_false]
    exact hr.sep b c pl ql (old b pl hb e) (old c ql hc e') hne hB
 ·intro b pl hb
  by_cases e : b = h.size
  ·subst e
   have := new pl hb; subst this
   rw [alloc_size]; simp
  ·have := hr.real b pl (old b pl hb e); rw [alloc_size]; omega
 ·intro B hB _
  exact alloc_get B hB
 ·intro b pl hb hw hlt
  by_cases e : b = h.size
  ·subst e
   have := new pl hb; subst this
   simp at hlt
  ·simp only [LHeap.get_push, e, if_false] at hw
   exact ⟨b, pl, old b pl hb e, rfl, hw⟩

/-! ### Reading -/

theorem HR.cells {ν : Inj} {h : LHeap} {w : World} (hr : HR ν h w) {b : Nat} {pl : Place} {cs : List Value} {tip rw : Bool} (hb : ν b = some pl) (hg : h.get b = some (.cells cs tip rw)) :
  ∃ c e fz, w.heap[pl.B]? = some (.cells c e fz) ∧ c.size = pl.fin ∧ pl.base + cs.length ≤ pl.fin ∧ (tip = true → rw = true) ∧
   (∀ (i : Nat) v, cs[i]? = some v → ∃ v', c[pl.base + i]? = some v' ∧ VR ν v v') ∧ (rw = true → FzOk pl.fin fz) := by
 have := hr.obj b pl hb
 rw [hg] at this
 exact this

theorem HR.load1 {ν : Inj} {h : LHeap} {w : World} (hr : HR ν h w) {b o : Nat} {v : Value} (hl : h.load1 b o = some v) {pl : Place} (hb : ν b = some pl) :
  ∃ v', w.cell? ⟨pl.B, pl.base + o, none⟩ = some v' ∧ VR ν v v' := by
 rw [LHeap.load1_eq] at hl
 split at hl
 ·rename_i cs tip rw hg
  obtain ⟨c, e, fz, h1, _, _, _, h5, _⟩ := hr.cells hb hg
  obtain ⟨v', a, b⟩ := h5 o v hl
  exact ⟨v', by rw [cell?_of_heap h1]; exact a, b⟩
 ·cases hl

/-- The real cells that a run of logical ones stands for. -/
theorem HR.loadCells {ν : Inj} {h : LHeap} {w : World} (hr : HR ν h w) {b o n : Nat} {vs : List Value} (hl : h.loadCells b o n = some vs) {pl : Place} (hb : ν b = some pl) :
  vs.length = n ∧ ∃ vs', VRs ν vs vs' ∧ ∀ (j : Nat) v, vs'[j]? = some v → w.cell? ⟨pl.B, pl.base + o + j, none⟩ = some v := by
 unfold LHeap.loadCells at hl
 split at hl
 ·rename_i cs tip rw hg
  split at hl
  ·rename_i hle
   simp only [Option.some.injEq] at hl
   subst hl
   obtain ⟨c, e, fz, h1, h2, h3, _, h5, _⟩ := hr.cells hb hg
   refine ⟨by simp; omega, (c.toList.drop (pl.base + o)).take n, ⟨by simp; omega, ?_⟩, ?_⟩
   ·intro i v v' hv hv'
    simp only [List.getElem?_take, List.getElem?_drop] at hv hv'
    split at hv
    ·rename_i hi
     simp only [hi, if_true] at hv'
     obtain ⟨u, hu, hvr⟩ := h5 (o + i) v hv
     have : c.toList[pl.base + o + i]? = some u := by simpa [Nat.add_assoc] using hu
     rw [this] at hv'
     cases hv'
     exact hvr
    ·cases hv
   ·intro j v hj
    simp only [List.getElem?_take, List.getElem?_drop] at hj
    split at hj
    ·rw [cell?_of_heap h1]; simpa using hj
    ·cases hj
  ·cases hl
 ·cases hl

/-! ### Writing -/

theorem writable_sep {ν : Inj} {h : LHeap} {w : World} (hr : HR ν h w) {b c : Nat} {pl ql : Place} {cs : List Value} {tip : Bool} (hb : ν b = some pl) (hg : h.get b = some (.cells cs tip true))
  (hc : ν c = some ql) (hne : b ≠ c) (hB : pl.B = ql.B) {ds : List Value} {t r : Bool} (hgc : h.get c = some (.cells ds t r)) : False := by
 have hs := hr.sep b c pl ql hb hc hne hB
 rw [hg, hgc] at hs
 exact hs (.inl rfl)

/-- Cells of a block that may be written become others. -/
theorem HR.write {ν : Inj} {h : LHeap} {w : World} (hr : HR ν h w) {b o : Nat} {pl : Place} {cs : List Value} {tip : Bool} (hb : ν b = some pl) (hg : h.get b = some (.cells cs tip true))
  {vs vs' : List Value} (ho : o + vs.length ≤ cs.length) (hv : VRs ν vs vs') :
  HR ν (h.set b (.cells (splice cs o vs) tip true)) (w.setCells pl.B (pl.base + o) vs') ∧ Step ν h w ν (h.set b (.cells (splice cs o vs) tip true)) (w.setCells pl.B (pl.base + o) vs') := by
 obtain ⟨c, e, fz, h1, h2, h3, h4, h5, h6⟩ := hr.cells hb hg
 have hvl := hv.1
 have hreal := hr.real b pl hb
 have hw := setCells_heap vs' w pl.B (pl.base + o) c e fz h1 (by omega)
 have hsz : (aput c (pl.base + o) vs').size = c.size := by
  simp only [aput, List.size_toArray]
  rw [length_splice _ _ _ (by simp; omega)]
  simp
 have hget : ∀ (i : Nat), (aput c (pl.base + o) vs')[i]? = if i < pl.base + o then c[i]? else if i < pl.base + o + vs'.length then vs'[i - (pl.base + o)]? else c[i]? := by
  intro i
  simp only [aput, List.getElem?_toArray]
  rw [getElem?_splice _ _ _ (by simp; omega)]
  simp
 rw [hw]
 have hlen : (splice cs o vs).length = cs.length := length_splice _ _ _ ho
 refine hr.of0 ?_
 refine ⟨⟨hr.dom, ?_, ?_, ?_⟩, ⟨Inj.le_refl ν, rfl, rfl, rfl, by simp [wput], by simp, ?_, ?_, fun x _ hn => ⟨hn, .inl (by rw [LHeap.get_set, if_neg (fun e => by rw [e, hb] at hn; cases hn)])⟩⟩⟩
 ·intro x ql hx
  by_cases ex : x = b
  ·subst ex
   rw [hb] at hx
   cases hx
   simp only [LHeap.get_set, if_pos]
   refine ⟨aput c (pl.base + o) vs', e, fz, wput_same hreal, by rw [hsz, h2], by rw [hlen]; exact h3, fun _ => rfl, ?_, h6⟩
   intro i v hi
   rw [getElem?_splice _ _ _ ho] at hi
   rw [hget]
   split at hi
   ·rename_i hlt
    rw [if_pos (by omega)]
    exact h5 i v hi
   ·rename_i hlt
    split at hi
    ·rename_i hlt2
     rw [if_neg (by omega), if_pos (by omega)]
     obtain ⟨v', a, b⟩ := hv.get hi
     exact ⟨v', by rw [show pl.base + i - (pl.base + o) = i - o by omega]; exact a, b⟩
    ·rename_i hlt2
     rw [if_neg (by omega), if_neg (by omega)]
     exact h5 i v hi
  ·simp only [LHeap.get_set, ex, if_false]
   by_cases hB : ql.B = pl.B
   ·have hox := hr.obj x ql hx
    cases hgx : h.get x with
    | none => trivial
    | some ox =>
     rw [hgx] at hox
     cases ox with
     | dead => trivial
     | map es => obtain ⟨ents, clock, k1, _⟩ := hox; rw [hB, h1] at k1; cases k1
     | cells ds t r =>
      obtain ⟨c', e', fz', k1, k2, k3, k4, k5, k6⟩ := hox
      rw [hB, h1] at k1
      cases k1
      refine ⟨aput c (pl.base + o) vs', e, fz, by rw [hB]; exact wput_same hreal, by rw [hsz, k2], k3, k4, ?_, k6⟩
      intro i v hi
      have hil : i < ds.length := by
       rcases Nat.lt_or_ge i ds.length with q | q
       ·exact q
       ·simp [List.getElem?_eq_none q] at hi
      rw [hget]
      by_cases hin : ql.base + i < pl.base + o
      ·rw [if_pos hin]; exact k5 i v hi
      ·by_cases hin2 : ql.base + i < pl.base + o + vs'.length
       ·exact (writable_sep hr hb hg hx (Ne.symm ex) hB.symm hgx).elim
       ·rw [if_neg hin, if_neg hin2]; exact k5 i v hi
   ·exact (hr.obj x ql hx).mono (Inj.le_refl ν) (wput_other hB)
 ·intro x y pl' ql' hx hy hne hB
  have hs := hr.sep x y pl' ql' hx hy hne hB
  by_cases ex : x = b
  ·subst ex
   have ey : y ≠ x := Ne.symm hne
   simp only [LHeap.get_set, if_pos, ey, if_false]
   rw [hg] at hs
   cases hgy : h.get y with
   | none => trivial
   | some oy =>
    rw [hgy] at hs
    cases oy with
    | dead => trivial
    | map es => trivial
    | cells ds t r => exact hs
  ·by_cases ey : y = b
   ·subst ey
    simp only [LHeap.get_set, if_pos, ex, if_false]
    rw [hg] at hs
    cases hgx : h.get x with
    | none => trivial
    | some ox =>
     rw [hgx] at hs
     cases ox with
     | dead => trivial
     | map es => trivial
     | cells ds t r => exact hs
   ·simp only [LHeap.get_set, ex, ey, if_false]
    exact hs
 ·intro x ql hx
  have := hr.real x ql hx
  simpa [wput] using this
 ·intro B hB hno
  by_cases eB : B = pl.B
  ·have := hno b pl hb eB.symm
   rw [hg] at this
   simp [LObj.writable] at this
  ·exact wput_other eB
 ·intro x ql hx hwr _
  by_cases ex : x = b
  ·subst ex; exact ⟨x, ql, hx, rfl, by rw [hg]; rfl⟩
  ·simp only [LHeap.get_set, ex, if_false] at hwr
   exact ⟨x, ql, hx, rfl, hwr⟩

theorem HR.storeCells {ν : Inj} {h h' : LHeap} {w : World} (hr : HR ν h w) {b o : Nat} {pl : Place} (hb : ν b = some pl) {vs vs' : List Value} (hs : h.storeCells b o vs = some h') (hv : VRs ν vs vs') (P : Program) :
  (Go.storeCells ⟨pl.B, pl.base + o, none⟩ vs').run P w = .ok () (w.setCells pl.B (pl.base + o) vs') ∧ HR ν h' (w.setCells pl.B (pl.base + o) vs') ∧ Step ν h w ν h' (w.setCells pl.B (pl.base + o) vs') := by
 rw [LHeap.storeCells_eq] at hs
 split at hs
 ·rename_i cs tip hg
  split at hs
  ·rename_i hc
   obtain ⟨hle, hone⟩ := hc
   cases hs
   obtain ⟨c, e, fz, h1, h2, h3, h4, h5, h6⟩ := hr.cells hb hg
   have hvl := hv.1
   refine ⟨?_, hr.write hb hg hle hv⟩
   have := run_storeCells_cells (P := P) pl.B (pl.base + o) vs' 0 w (fun j hj => by
     rw [cell?_of_heap h1]; simp; omega) (fun j hj => frozen?_of_heap h1 ((h6 rfl).not _ (by omega))) (hv.oneCells hone)
   simpa using this
  ·cases hs
 ·cases hs

/-- A conversion's mark behind the last cell. -/
theorem HR.mark {ν : Inj} {h : LHeap} {w : World} (hr : HR ν h w) {b : Nat} {pl : Place} {cs : List Value} {tip : Bool} (hb : ν b = some pl) (hg : h.get b = some (.cells cs tip true)) :
  ∃ c e fz, w.heap[pl.B]? = some (.cells c e fz) ∧ HR ν h (w.freeze ⟨pl.B, c.size, none⟩ 1) ∧ Step ν h w ν h (w.freeze ⟨pl.B, c.size, none⟩ 1) := by
 obtain ⟨c, e, fz, h1, h2, h3, h4, h5, h6⟩ := hr.cells hb hg
 have hreal := hr.real b pl hb
 refine ⟨c, e, fz, h1, ?_⟩
 obtain ⟨fz', hfz, hw⟩ : ∃ fz', FzOk c.size fz' ∧ w.freeze ⟨pl.B, c.size, none⟩ 1 = wput w pl.B (.cells c e fz') := by
  obtain ⟨lo, hi⟩ := fz
  refine ⟨if lo == hi then (c.size, c.size + 1) else (min lo c.size, max hi (c.size + 1)), ?_, ?_⟩
  ·split
   ·exact .inr (Nat.le_refl _)
   ·rename_i hne
    have hne' : ¬ lo = hi := by simpa using hne
    rcases h6 rfl with h7 | h7
    ·exact absurd h7 hne'
    ·refine .inr ?_
     simp only at h7 ⊢
     omega
  ·unfold World.freeze
   rw [if_neg (by decide)]
   unfold wput
   congr 1
   apply Array.ext
   ·simp
   ·intro i hi1 hi2
    simp only [Array.size_modify] at hi1
    simp only [Array.getElem_modify, Array.getElem_setIfInBounds hi1]
    by_cases hB : pl.B = i
    ·subst hB
     have : w.heap[pl.B] = .cells c e (lo, hi) := by
      rw [Array.getElem?_eq_getElem hi1] at h1
      simpa using h1
     simp [this]
    ·simp [hB]
 rw [hw]
 have other : ∀ k, k ≠ pl.B → (wput w pl.B (.cells c e fz')).heap[k]? = w.heap[k]? := fun k hk => wput_other hk
 have same : (wput w pl.B (.cells c e fz')).heap[pl.B]? = some (.cells c e fz') := wput_same hreal
 refine hr.of0 ?_
 refine ⟨⟨hr.dom, ?_, hr.sep, fun x ql hx => by have := hr.real x ql hx; simpa [wput] using this⟩,
  ⟨Inj.le_refl ν, rfl, rfl, rfl, by simp [wput], Nat.le_refl _, ?_, fun x ql hx hw _ => ⟨x, ql, hx, rfl, hw⟩, fun _ _ hn => ⟨hn, .inl rfl⟩⟩⟩
 ·intro x ql hx
  have ho := hr.obj x ql hx
  by_cases hB : ql.B = pl.B
  ·unfold ObjR at ho ⊢
   split at ho
   ·obtain ⟨c', e', fz2, k1, k2, k3, k4, k5, k6⟩ := ho
    rw [hB, h1] at k1
    cases k1
    exact ⟨c, e, fz', by rw [hB]; exact same, k2, k3, k4, k5, fun _ => by rw [← k2]; exact hfz⟩
   ·obtain ⟨en, cl, k1, k2⟩ := ho
    rw [hB, h1] at k1
    cases k1
   ·exact ho
  ·unfold ObjR at ho ⊢
   rw [other _ hB]
   exact ho
 ·intro B hB hno
  refine other B fun hBe => ?_
  have := hno b pl hb hBe.symm
  rw [hg] at this
  simp [LObj.writable] at this

end Go.E1

/-
 Appending: the old logical block dies, a new one has the old one's cells and the new ones.
-/
namespace Go.E1
open Go

theorem HR.kill {ν : Inj} {h : LHeap} {w : World} (hr : HR ν h w) (b : Nat) : HR ν (h.set b .dead) w ∧ Step ν h w ν (h.set b .dead) w := by
 refine hr.of0 ?_
 refine ⟨⟨hr.dom, ?_, ?_, hr.real⟩, ⟨Inj.le_refl ν, rfl, rfl, rfl, Nat.le_refl _, by simp, fun _ _ _ => rfl, ?_, fun x _ hn => ⟨hn, by by_cases e : x = b <;> simp [e]⟩⟩⟩
 ·intro x pl hx
  by_cases e : x = b
  ·subst e; simp [ObjR]
  ·simp only [LHeap.get_set, e, if_false]; exact hr.obj x pl hx
 ·intro x y pl ql hx hy hne hB
  have hs := hr.sep x y pl ql hx hy hne hB
  by_cases e : x = b
  ·subst e; simp [Apart]
  ·by_cases e' : y = b
   ·subst e'
    simp only [LHeap.get_set, if_pos, e, if_false]
    cases h.get x with
    | none => trivial
    | some o => cases o <;> trivial
   ·simp only [LHeap.get_set, e, e', if_false]; exact hs
 ·intro x pl hx hw _
  by_cases e : x = b
  ·subst e; simp [LObj.writable] at hw
  ·simp only [LHeap.get_set, e, if_false] at hw; exact ⟨x, pl, hx, rfl, hw⟩

/-- The free cells behind a block become its own. -/
theorem HR.grow {ν : Inj} {h : LHeap} {w : World} (hr : HR ν h w) {b : Nat} {pl : Place} {cs : List Value} (hb : ν b = some pl) (hg : h.get b = some (.cells cs true true))
  {vs vs' : List Value} (ho : pl.base + cs.length + vs.length ≤ pl.fin) (hv : VRs ν vs vs') :
  HR ν (h.set b (.cells (cs ++ vs) true true)) (w.setCells pl.B (pl.base + cs.length) vs') ∧ Step ν h w ν (h.set b (.cells (cs ++ vs) true true)) (w.setCells pl.B (pl.base + cs.length) vs') := by
 obtain ⟨c, e, fz, h1, h2, h3, h4, h5, h6⟩ := hr.cells hb hg
 have hvl := hv.1
 have hreal := hr.real b pl hb
 have hw := setCells_heap vs' w pl.B (pl.base + cs.length) c e fz h1 (by omega)
 have hsz : (aput c (pl.base + cs.length) vs').size = c.size := by
  simp only [aput, List.size_toArray]
  rw [length_splice _ _ _ (by simp; omega)]
  simp
 have hget : ∀ (i : Nat), (aput c (pl.base + cs.length) vs')[i]? = if i < pl.base + cs.length then c[i]? else if i < pl.base + cs.length + vs'.length then vs'[i - (pl.base + cs.length)]? else c[i]? := by
  intro i
  simp only [aput, List.getElem?_toArray]
  rw [getElem?_splice _ _ _ (by simp; omega)]
  simp
 rw [hw]
 refine hr.of0 ?_
 refine ⟨⟨hr.dom, ?_, ?_, ?_⟩, ⟨Inj.le_refl ν, rfl, rfl, rfl, by simp [wput], by simp, ?_, ?_, fun x _ hn => ⟨hn, .inl (by rw [LHeap.get_set, if_neg (fun e => by rw [e, hb] at hn; cases hn)])⟩⟩⟩
 ·intro x ql hx
  by_cases ex : x = b
  ·subst ex
   rw [hb] at hx
   cases hx
   simp only [LHeap.get_set, if_pos]
   refine ⟨aput c (pl.base + cs.length) vs', e, fz, wput_same hreal, by rw [hsz, h2], by simp; omega, fun _ => rfl, ?_, h6⟩
   intro i v hi
   rw [List.getElem?_append] at hi
   rw [hget]
   split at hi
   ·rename_i hlt
    rw [if_pos (by omega)]
    exact h5 i v hi
   ·rename_i hlt
    have hil : i - cs.length < vs.length := by
     rcases Nat.lt_or_ge (i - cs.length) vs.length with q | q
     ·exact q
     ·simp [List.getElem?_eq_none q] at hi
    rw [if_neg (by omega), if_pos (by omega)]
    obtain ⟨v', a, b⟩ := hv.get hi
    exact ⟨v', by rw [show pl.base + i - (pl.base + cs.length) = i - cs.length by omega]; exact a, b⟩
  ·simp only [LHeap.get_set, ex, if_false]
   by_cases hB : ql.B = pl.B
   ·have hox := hr.obj x ql hx
    have hs := hr.sep b x pl ql hb hx (Ne.symm ex) hB.symm
    rw [hg] at hs
    cases hgx : h.get x with
    | none => trivial
    | some ox =>
     rw [hgx] at hox hs
     cases ox with
     | dead => trivial
     | map es => obtain ⟨ents, clock, k1, _⟩ := hox; rw [hB, h1] at k1; cases k1
     | cells ds t r =>
      obtain ⟨c', e', fz', k1, k2, k3, k4, k5, k6⟩ := hox
      rw [hB, h1] at k1
      cases k1
      refine ⟨aput c (pl.base + cs.length) vs', e, fz, by rw [hB]; exact wput_same hreal, by rw [hsz, k2], k3, k4, ?_, k6⟩
      intro i v hi
      have hil : i < ds.length := by
       rcases Nat.lt_or_ge i ds.length with q | q
       ·exact q
       ·simp [List.getElem?_eq_none q] at hi
      rw [hget]
      by_cases hin : ql.base + i < pl.base + cs.length
      ·rw [if_pos hin]; exact k5 i v hi
      ·by_cases hin2 : ql.base + i < pl.base + cs.length + vs'.length
       ·exact (hs (.inl rfl)).elim
       ·rw [if_neg hin, if_neg hin2]; exact k5 i v hi
   ·exact (hr.obj x ql hx).mono (Inj.le_refl ν) (wput_other hB)
 ·intro x y pl' ql' hx hy hne hB
  have hs := hr.sep x y pl' ql' hx hy hne hB
  by_cases ex : x = b
  ·subst ex
   have ey : y ≠ x := Ne.symm hne
   simp only [LHeap.get_set, if_pos, ey, if_false]
   rw [hg] at hs
   cases hgy : h.get y with
   | none => trivial
   | some oy =>
    rw [hgy] at hs
    cases oy with
    | dead => trivial
    | map es => trivial
    | cells ds t r => exact hs
  ·by_cases ey : y = b
   ·subst ey
    simp only [LHeap.get_set, if_pos, ex, if_false]
    rw [hg] at hs
    cases hgx : h.get x with
    | none => trivial
    | some ox =>
     rw [hgx] at hs
     cases ox with
     | dead => trivial
     | map es => trivial
     | cells ds t r => exact hs
   ·simp only [LHeap.get_set, ex, ey, if_false]
    exact hs
 ·intro x ql hx
  have := hr.real x ql hx
  simpa [wput] using this
 ·intro B hB hno
  by_cases eB : B = pl.B
  ·have := hno b pl hb eB.symm
   rw [hg] at this
   simp [LObj.writable] at this
  ·exact wput_other eB
 ·intro x ql hx hwr _
  by_cases ex : x = b
  ·subst ex; exact ⟨x, ql, hx, rfl, by rw [hg]; rfl⟩
  ·simp only [LHeap.get_set, ex, if_false] at hwr
   exact ⟨x, ql, hx, rfl, hwr⟩

/-- A block under another number, from a later cell on. -/
theorem HR.move {ν : Inj} {h : LHeap} {w : World} (hr : HR ν h w) {b o : Nat} {pl : Place} {cs : List Value} (hb : ν b = some pl) (hg : h.get b = some (.cells cs true true)) (ho : o ≤ cs.length) :
  HR (ν.put h.size ⟨pl.B, pl.base + o, pl.fin⟩) ((h.set b .dead).push (.cells (cs.drop o) true true)) w ∧
  Step ν h w (ν.put h.size ⟨pl.B, pl.base + o, pl.fin⟩) ((h.set b .dead).push (.cells (cs.drop o) true true)) w := by
 have hbs := hr.dom b pl hb
 have hbn : b ≠ h.size := by omega
 have hle := Inj.le_put (pl := ⟨pl.B, pl.base + o, pl.fin⟩) hr.fresh
 have old : ∀ x ql, (ν.put h.size ⟨pl.B, pl.base + o, pl.fin⟩) x = some ql → x ≠ h.size → ν x = some ql := fun x ql hx hne => by simpa [Inj.put, hne] using hx
 have new : ∀ ql, (ν.put h.size ⟨pl.B, pl.base + o, pl.fin⟩) h.size = some ql → ql = ⟨pl.B, pl.base + o, pl.fin⟩ := fun ql hx => by rw [Inj.put_same] at hx; exact (Option.some.inj hx).symm
 obtain ⟨c, e, fz, h1, h2, h3, h4, h5, h6⟩ := hr.cells hb hg
 have other : ∀ x ql, ν x = some ql → x ≠ b → ql.B = pl.B → Apart (some (.cells (cs.drop o) true true)) (h.get x) ∧ Apart (h.get x) (some (.cells (cs.drop o) true true)) := by
  intro x ql hx hne hB
  have hs := hr.sep b x pl ql hb hx (Ne.symm hne) hB.symm
  rw [hg] at hs
  cases hgx : h.get x with
  | none => exact ⟨trivial, trivial⟩
  | some ox =>
   rw [hgx] at hs
   cases ox with
   | dead => exact ⟨trivial, trivial⟩
   | map es => exact ⟨trivial, trivial⟩
   | cells ds t r =>
    exact (hs (.inl rfl)).elim
 refine hr.of0 ?_
 refine ⟨⟨?_, ?_, ?_, ?_⟩, ⟨hle, rfl, rfl, rfl, Nat.le_refl _, by simp, fun _ _ _ => rfl, ?_, fun x hx hn => ⟨by simp [Inj.put, Nat.ne_of_lt hx, hn], by simp [Nat.ne_of_lt hx, show x ≠ b from fun e => by rw [e, hb] at hn; cases hn]⟩⟩⟩
 ·intro x ql hx
  by_cases ex : x = h.size
  ·simp [ex]
  ·have := hr.dom x ql (old x ql hx ex); simp; omega
 ·intro x ql hx
  by_cases ex : x = h.size
  ·subst ex
   have := new ql hx; subst this
   simp only [LHeap.get_push, LHeap.size_set, if_pos]
   refine ⟨c, e, fz, h1, h2, by simp; omega, fun _ => rfl, ?_, h6⟩
   intro i v hi
   rw [List.getElem?_drop] at hi
   obtain ⟨v', a, b⟩ := h5 (o + i) v hi
   exact ⟨v', by rw [show pl.base + o + i = pl.base + (o + i) by omega]; exact a, b.mono hle⟩
  ·simp only [LHeap.get_push, LHeap.size_set, ex, if_false, LHeap.get_set]
   by_cases eb : x = b
   ·simp [eb, ObjR]
   ·simp only [eb, if_false]
    exact (hr.obj x ql (old x ql hx ex)).mono hle rfl
 ·intro x y pl' ql' hx hy hne hB
  by_cases ex : x = h.size
  ·subst ex
   have := new pl' hx; subst this
   have hy' := old y ql' hy (Ne.symm hne)
   simp only [LHeap.get_push, LHeap.size_set, if_pos, Ne.symm hne, if_false, LHeap.get_set]
   by_cases eb : y = b
   ·simp [eb, Apart]
   ·simp only [eb, if_false]
    exact (other y ql' hy' eb hB.symm).1
  ·by_cases ey : y = h.size
   ·subst ey
    have := new ql' hy; subst this
    have hx' := old x pl' hx ex
    simp only [LHeap.get_push, LHeap.size_set, if_pos, ex, if_false, LHeap.get_set]
    by_cases eb : x = b
    ·simp [eb, Apart]
    ·simp only [eb, if_false]
     exact (other x pl' hx' eb hB).2
   ·have hx' := old x pl' hx ex
    have hy' := old y ql' hy ey
    simp only [LHeap.get_push, LHeap.size_set, ex, ey, if_false, LHeap.get_set]
    have hs := hr.sep x y pl' ql' hx' hy' hne hB
    by_cases e1 : x = b
    ·simp [e1, Apart]
    ·by_cases e2 : y = b
     ·simp only [e2, e1, if_false, if_true]
      cases h.get x with
      | none => trivial
      | some o => cases o <;> trivial
     ·simp only [e1, e2, if_false]; exact hs
 ·intro x ql hx
  by_cases ex : x = h.size
  ·subst ex
   have := new ql hx; subst this
   exact hr.real b pl hb
  ·exact hr.real x ql (old x ql hx ex)
 ·intro x ql hx hw hlt
  by_cases ex : x = h.size
  ·subst ex
   have := new ql hx; subst this
   exact ⟨b, pl, hb, rfl, by rw [hg]; rfl⟩
  ·simp only [LHeap.get_push, LHeap.size_set, ex, if_false, LHeap.get_set] at hw
   by_cases eb : x = b
   ·simp [eb, LObj.writable] at hw
   ·simp only [eb, if_false] at hw
    exact ⟨x, ql, old x ql hx ex, rfl, hw⟩

end Go.E1
