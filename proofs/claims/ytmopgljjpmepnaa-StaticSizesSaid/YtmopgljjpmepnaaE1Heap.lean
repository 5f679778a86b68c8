/-
  The logical heap of the engine: objects by number, kept in a binary tree; and the renaming relation between logical and real values.
-/
import Derived.Laws.IdiomCopy
import Derived.Below
namespace Go.E1
open Go

/-! ### The logical heap -/

/-- A logical object: cells ('tip': what stands behind them in real memory is free; 'rw': they may be written), a map's entries, or what may not be looked at any more. -/
inductive LObj where
  | cells (cs : List Value) (tip rw : Bool)
  | map (es : List (Value × Value))
  | dead

inductive Tr where
  | leaf
  | node (l : Tr) (v : Option LObj) (r : Tr)

namespace Tr
def get : Tr → Nat → Option LObj
  | .leaf, _ => none
  | .node l v r, n => if n = 0 then v else if n % 2 = 1 then l.get (n / 2) else r.get (n / 2 - 1)

def lft : Tr → Tr | .leaf => .leaf | .node l _ _ => l
def mid : Tr → Option LObj | .leaf => none | .node _ v _ => v
def rgt : Tr → Tr | .leaf => .leaf | .node _ _ r => r

def setF : Nat → Tr → Nat → LObj → Tr
  | 0, t, _, _ => t
  | f + 1, t, n, o =>
    if n = 0 then .node t.lft (some o) t.rgt
    else if n % 2 = 1 then .node (setF f t.lft (n / 2) o) t.mid t.rgt
    else .node t.lft t.mid (setF f t.rgt (n / 2 - 1) o)

theorem get_parts (t : Tr) (n : Nat) : t.get n = if n = 0 then t.mid else if n % 2 = 1 then t.lft.get (n / 2) else t.rgt.get (n / 2 - 1) := by
  cases t with
  | leaf => simp [get, lft, mid, rgt]
  | node l v r => rfl

theorem get_setF : ∀ (f : Nat) (t : Tr) (n : Nat) (o : LObj) (m : Nat), n < f → (setF f t n o).get m = if m = n then some o else t.get m
  | 0, _, _, _, _, h => absurd h (Nat.not_lt_zero _)
  | f + 1, t, n, o, m, h => by
    simp only [setF]
    by_cases h0 : n = 0
    · subst h0
      rw [if_pos rfl, get_parts t m]
      by_cases hm : m = 0
      · subst hm; simp [get]
      · simp [get, hm]
    · by_cases h1 : n % 2 = 1
      · simp only [h0, h1, if_false, if_true, get]
        rw [get_parts t m]
        by_cases hm : m = 0
        · subst hm; simp; intro hh; omega
        · simp only [hm, if_false]
          by_cases hm1 : m % 2 = 1
          · simp only [hm1, if_true]
            rw [get_setF f t.lft (n / 2) o (m / 2) (by omega)]
            by_cases e : m = n
            · subst e; simp
            · have : ¬ m / 2 = n / 2 := by omega
              simp [e, this]
          · have : ¬ m = n := by intro e; subst e; exact hm1 h1
            simp [hm1, this]
      · simp only [h0, h1, if_false, get]
        rw [get_parts t m]
        by_cases hm : m = 0
        · subst hm; simp; intro hh; omega
        · simp only [hm, if_false]
          by_cases hm1 : m % 2 = 1
          · have : ¬ m = n := by intro e; subst e; exact h1 hm1
            simp [hm1, this]
          · simp only [hm1, if_false]
            rw [get_setF f t.rgt (n / 2 - 1) o (m / 2 - 1) (by omega)]
            by_cases e : m = n
            · subst e; simp
            · have : ¬ m / 2 - 1 = n / 2 - 1 := by omega
              simp [e, this]
end Tr

structure LHeap where
  size : Nat
  t : Tr

namespace LHeap
def get (h : LHeap) (b : Nat) : Option LObj := h.t.get b
def set (h : LHeap) (b : Nat) (o : LObj) : LHeap := ⟨h.size, h.t.setF (b + 1) b o⟩
def push (h : LHeap) (o : LObj) : LHeap := ⟨h.size + 1, h.t.setF (h.size + 1) h.size o⟩
def empty : LHeap := ⟨0, .leaf⟩

@[simp] theorem get_set (h : LHeap) (b : Nat) (o : LObj) (c : Nat) : (h.set b o).get c = if c = b then some o else h.get c := Tr.get_setF _ _ _ _ _ (Nat.lt_succ_self _)
@[simp] theorem get_push (h : LHeap) (o : LObj) (c : Nat) : (h.push o).get c = if c = h.size then some o else h.get c := Tr.get_setF _ _ _ _ _ (Nat.lt_succ_self _)
@[simp] theorem size_set (h : LHeap) (b : Nat) (o : LObj) : (h.set b o).size = h.size := rfl
@[simp] theorem size_push (h : LHeap) (o : LObj) : (h.push o).size = h.size + 1 := rfl
@[simp] theorem get_empty (b : Nat) : empty.get b = none := rfl
@[simp] theorem size_empty : empty.size = 0 := rfl
end LHeap

/-! ### Where a logical block lies -/

/-- A logical block begins at cell 'base' of the real block 'B', which has 'fin' cells. -/
structure Place where
  B : Nat
  base : Nat
  fin : Nat

abbrev Inj := Nat → Option Place

def Inj.le (ν ν' : Inj) : Prop := ∀ b pl, ν b = some pl → ν' b = some pl
theorem Inj.le_refl (ν : Inj) : ν.le ν := fun _ _ h => h
theorem Inj.le_trans {a b c : Inj} (h : a.le b) (k : b.le c) : a.le c := fun x pl hx => k x pl (h x pl hx)

/-- A logical value and the real one. A logical slice bears in its third place how many cells an element has. -/
inductive VR (ν : Inj) : Value → Value → Prop where
  | bool (b : Bool) : VR ν (.bool b) (.bool b)
  | int (k : IntKind) (n : Int) : VR ν (.int k n) (.int k n)
  | string (s : ByteArray) : VR ν (.string s) (.string s)
  | pnil : VR ν (.pointer none) (.pointer none)
  | ptr {b o : Nat} {pl : Place} : ν b = some pl → VR ν (.pointer (some ⟨b, o, none⟩)) (.pointer (some ⟨pl.B, pl.base + o, none⟩))
  | snil {c : Nat} : VR ν (.slice none 0 c) (.slice none 0 0)
  | slice {b o n E cap : Nat} {pl : Place} : ν b = some pl → n ≤ cap → pl.base + o + cap * E ≤ pl.fin →
      VR ν (.slice (some ⟨b, o, none⟩) n E) (.slice (some ⟨pl.B, pl.base + o, none⟩) n cap)
  | sempty {a a' : Addr} {E : Nat} : VR ν (.slice (some a) 0 E) (.slice (some a') 0 0)
  | mnil : VR ν (.map none) (.map none)
  | map {r : Nat} {pl : Place} : ν r = some pl → VR ν (.map (some r)) (.map (some pl.B))
  | fnil : VR ν .nilFunc .nilFunc
  | func {fn : Fn} {c c' : Array Value} : c.size = c'.size → (∀ (i : Nat) (v v' : Value), c[i]? = some v → c'[i]? = some v' → VR ν v v') → VR ν (.func fn #[] c) (.func fn #[] c')
  | inil : VR ν .nilIface .nilIface
  | iface {t : TypeId} {v v' : Value} : VR ν v v' → VR ν (.iface t v) (.iface t v')
  | agg {c c' : Array Value} : c.size = c'.size → (∀ (i : Nat) (v v' : Value), c[i]? = some v → c'[i]? = some v' → VR ν v v') → VR ν (.agg c) (.agg c')
  | tuple {c c' : Array Value} : c.size = c'.size → (∀ (i : Nat) (v v' : Value), c[i]? = some v → c'[i]? = some v' → VR ν v v') → VR ν (.tuple c) (.tuple c')

theorem VR.mono {ν ν' : Inj} (hle : ν.le ν') {v v' : Value} (h : VR ν v v') : VR ν' v v' := by
  induction h with
  | bool b => exact .bool b
  | int k n => exact .int k n
  | string s => exact .string s
  | pnil => exact .pnil
  | ptr h => exact .ptr (hle _ _ h)
  | snil => exact .snil
  | slice h a b => exact .slice (hle _ _ h) a b
  | sempty => exact .sempty
  | mnil => exact .mnil
  | map h => exact .map (hle _ _ h)
  | fnil => exact .fnil
  | func h _ ih => exact .func h (fun i v v' a b => ih i v v' a b)
  | inil => exact .inil
  | iface _ ih => exact .iface ih
  | agg h _ ih => exact .agg h (fun i v v' a b => ih i v v' a b)
  | tuple h _ ih => exact .tuple h (fun i v v' a b => ih i v v' a b)

theorem VR.oneCell {ν : Inj} {v v' : Value} (h : VR ν v v') : v'.oneCell' = v.oneCell' := by
  cases h <;> rfl

/-- Lists of values, one by one. -/
def VRs (ν : Inj) (l : List Value) (l' : List Value) : Prop := l.length = l'.length ∧ ∀ (i : Nat) (v v' : Value), l[i]? = some v → l'[i]? = some v' → VR ν v v'

theorem VRs.mono {ν ν' : Inj} (hle : ν.le ν') {l l' : List Value} (h : VRs ν l l') : VRs ν' l l' := ⟨h.1, fun i v v' a b => (h.2 i v v' a b).mono hle⟩
theorem VRs.nil (ν : Inj) : VRs ν [] [] := ⟨rfl, fun i v v' h => by simp at h⟩
theorem VRs.cons {ν : Inj} {v v' : Value} {l l' : List Value} (h : VR ν v v') (hl : VRs ν l l') : VRs ν (v :: l) (v' :: l') :=
  ⟨by simp [hl.1], fun i x x' a b => by cases i with
    | zero => simp at a b; subst a; subst b; exact h
    | succ i => exact hl.2 i x x' (by simpa using a) (by simpa using b)⟩
theorem VRs.cons_inv {ν : Inj} {v : Value} {l m : List Value} (h : VRs ν (v :: l) m) : ∃ v' l', m = v' :: l' ∧ VR ν v v' ∧ VRs ν l l' := by
  cases m with
  | nil => have := h.1; simp at this
  | cons x m => exact ⟨x, m, rfl, h.2 0 v x rfl rfl, ⟨by have := h.1; simpa using this, fun i a b p q => h.2 (i + 1) a b (by simpa using p) (by simpa using q)⟩⟩
theorem VRs.nil_inv {ν : Inj} {m : List Value} (h : VRs ν [] m) : m = [] := by
  cases m with
  | nil => rfl
  | cons x m => have := h.1; simp at this
theorem VRs.append {ν : Inj} {a a' b b' : List Value} (h : VRs ν a a') (k : VRs ν b b') : VRs ν (a ++ b) (a' ++ b') := by
  induction a generalizing a' with
  | nil => have := h.nil_inv; subst this; simpa using k
  | cons x a ih => obtain ⟨y, m, rfl, h1, h2⟩ := h.cons_inv; exact .cons h1 (ih h2)
theorem VRs.get {ν : Inj} {l l' : List Value} (h : VRs ν l l') {i : Nat} {v : Value} (hi : l[i]? = some v) : ∃ v', l'[i]? = some v' ∧ VR ν v v' := by
  have hlt : i < l.length := by
    rcases Nat.lt_or_ge i l.length with h | h
    · exact h
    · simp [List.getElem?_eq_none h] at hi
  have : i < l'.length := h.1 ▸ hlt
  exact ⟨l'[i], by simp [this], h.2 i v _ hi (by simp [this])⟩
theorem VRs.take {ν : Inj} {l l' : List Value} (h : VRs ν l l') (n : Nat) : VRs ν (l.take n) (l'.take n) :=
  ⟨by simp [h.1], fun i v v' a b => by
    simp only [List.getElem?_take] at a b
    split at a
    · rename_i hlt; simp only [hlt, if_true] at b; exact h.2 i v v' a b
    · simp at a⟩
theorem VRs.drop {ν : Inj} {l l' : List Value} (h : VRs ν l l') (n : Nat) : VRs ν (l.drop n) (l'.drop n) :=
  ⟨by simp [h.1], fun i v v' a b => by simp only [List.getElem?_drop] at a b; exact h.2 _ v v' a b⟩
theorem VRs.set {ν : Inj} {l l' : List Value} (h : VRs ν l l') (n : Nat) {v v' : Value} (hv : VR ν v v') : VRs ν (l.set n v) (l'.set n v') :=
  ⟨by simp [h.1], fun i x x' a b => by
    simp only [List.getElem?_set] at a b
    split at a
    · rename_i e
      subst e
      split at a
      · rename_i hlt; simp at a; subst a; simp [← h.1, hlt] at b; subst b; exact hv
      · simp at a
    · rename_i e; simp only [e, if_false] at b; exact h.2 i x x' a b⟩
theorem VRs.replicate {ν : Inj} {v v' : Value} (hv : VR ν v v') (n : Nat) : VRs ν (List.replicate n v) (List.replicate n v') :=
  ⟨by simp, fun i x x' a b => by
    simp only [List.getElem?_replicate] at a b
    split at a
    · rename_i h; simp [h] at a b; subst a; subst b; exact hv
    · simp at a⟩
theorem VRs.agg {ν : Inj} {c c' : Array Value} (h : VRs ν c.toList c'.toList) : VR ν (.agg c) (.agg c') :=
  .agg (by simpa using h.1) (fun i v v' a b => h.2 i v v' (by simpa using a) (by simpa using b))
theorem VRs.of_agg {ν : Inj} {c c' : Array Value} (h : VR ν (.agg c) (.agg c')) : VRs ν c.toList c'.toList := by
  cases h with
  | agg hs h => exact ⟨by simpa using hs, fun i v v' a b => h i v v' (by simpa using a) (by simpa using b)⟩
theorem VRs.tuple {ν : Inj} {c c' : Array Value} (h : VRs ν c.toList c'.toList) : VR ν (.tuple c) (.tuple c') :=
  .tuple (by simpa using h.1) (fun i v v' a b => h.2 i v v' (by simpa using a) (by simpa using b))
theorem VRs.oneCells {ν : Inj} {l l' : List Value} (h : VRs ν l l') (hl : l.all (·.oneCell') = true) : ∀ v ∈ l', v.oneCell' = true := by
  intro v' hv'
  obtain ⟨i, hi, rfl⟩ := List.getElem_of_mem hv'
  have hi' : i < l.length := h.1 ▸ hi
  have := h.2 i l[i] l'[i] (by simp [hi']) (by simp [hi])
  rw [this.oneCell]
  exact List.all_eq_true.1 hl _ (List.getElem_mem hi')
theorem VRs.cells {ν : Inj} {v v' : Value} (h : VR ν v v') : VRs ν v.cells.toList v'.cells.toList := by
  cases h <;> first | exact VRs.of_agg (.agg (by assumption) (by assumption)) | (refine .cons ?_ (.nil _); first | constructor; done | (constructor <;> assumption))

/-! ### The heaps' relation -/

/-- From where to where the real cells of a logical object reach that are its own. -/
def LObj.ext (pl : Place) : LObj → Nat
  | .cells cs tip _ => if tip then pl.fin else pl.base + cs.length
  | _ => 0

def LObj.writable : Option LObj → Bool
  | some (.cells _ _ rw) => rw
  | some (.map _) => true
  | _ => false

def MapR (ν : Inj) (es : List (Value × Value)) (ents : Array MapEntry) : Prop :=
  es.length = ents.size ∧ ∀ (i : Nat) (e : Value × Value) (e' : MapEntry), es[i]? = some e → ents[i]? = some e' → VR ν e.1 e'.key ∧ VR ν e.2 e'.val

def ObjR (ν : Inj) (o : Option LObj) (pl : Place) (w : World) : Prop :=
  match o with
  | some (.cells cs tip rw) => ∃ c e fz, w.heap[pl.B]? = some (.cells c e fz) ∧ c.size = pl.fin ∧ pl.base + cs.length ≤ pl.fin ∧ (tip = true → rw = true) ∧
      (∀ i v, cs[i]? = some v → ∃ v', c[pl.base + i]? = some v' ∧ VR ν v v') ∧ (rw = true → ∀ k, k < pl.fin → ¬ (fz.1 ≤ k ∧ k < fz.2))
  | some (.map es) => ∃ ents clock, w.heap[pl.B]? = some (.map ents clock) ∧ MapR ν es ents
  | _ => True

def Apart (o₁ : Option LObj) (p₁ : Place) (o₂ : Option LObj) (p₂ : Place) : Prop :=
  match o₁, o₂ with
  | some (.cells c₁ t₁ r₁), some (.cells c₂ t₂ r₂) => r₁ = true ∨ r₂ = true → ∀ k, p₁.base ≤ k → k < (LObj.cells c₁ t₁ r₁).ext p₁ → p₂.base ≤ k → k < (LObj.cells c₂ t₂ r₂).ext p₂ → False
  | some (.map _), some (.map _) => False
  | _, _ => True

structure HR (ν : Inj) (h : LHeap) (w : World) : Prop where
  dom : ∀ b pl, ν b = some pl → b < h.size
  obj : ∀ b pl, ν b = some pl → ObjR ν (h.get b) pl w
  sep : ∀ b c pl ql, ν b = some pl → ν c = some ql → b ≠ c → pl.B = ql.B → Apart (h.get b) pl (h.get c) ql
  real : ∀ b pl, ν b = some pl → pl.B < w.heap.size

/-- From one world to a later one. -/
structure Step (ν : Inj) (h : LHeap) (w : World) (ν' : Inj) (h' : LHeap) (w' : World) : Prop where
  le : ν.le ν'
  os : w'.os = w.os
  tape : w'.tape = w.tape
  output : w'.output = w.output
  size : w.heap.size ≤ w'.heap.size
  lsize : h.size ≤ h'.size
  frame : ∀ B, B < w.heap.size → (∀ b pl, ν b = some pl → pl.B = B → LObj.writable (h.get b) = false) → w'.heap[B]? = w.heap[B]?
  back : ∀ b pl, ν' b = some pl → LObj.writable (h'.get b) = true → pl.B < w.heap.size → ∃ c ql, ν c = some ql ∧ ql.B = pl.B ∧ LObj.writable (h.get c) = true

theorem Step.refl (ν : Inj) (h : LHeap) (w : World) : Step ν h w ν h w :=
  ⟨Inj.le_refl ν, rfl, rfl, rfl, Nat.le_refl _, Nat.le_refl _, fun _ _ _ => rfl, fun b pl hb hw _ => ⟨b, pl, hb, rfl, hw⟩⟩

theorem Step.trans {ν ν₁ ν₂ : Inj} {h h₁ h₂ : LHeap} {w w₁ w₂ : World} (a : Step ν h w ν₁ h₁ w₁) (b : Step ν₁ h₁ w₁ ν₂ h₂ w₂) : Step ν h w ν₂ h₂ w₂ where
  le := Inj.le_trans a.le b.le
  os := b.os.trans a.os
  tape := b.tape.trans a.tape
  output := b.output.trans a.output
  size := Nat.le_trans a.size b.size
  lsize := Nat.le_trans a.lsize b.lsize
  frame := fun B hB hno => by
    rw [b.frame B (Nat.lt_of_lt_of_le hB a.size) ?_, a.frame B hB hno]
    intro x pl hx hB'
    cases hw : LObj.writable (h₁.get x) with
    | false => rfl
    | true =>
      obtain ⟨c, ql, hc, hcB, hcw⟩ := a.back x pl hx hw (hB' ▸ hB)
      rw [hno c ql hc (hcB.trans hB')] at hcw
      cases hcw
  back := fun x pl hx hw hlt => by
    obtain ⟨c, ql, hc, hcB, hcw⟩ := b.back x pl hx hw (Nat.lt_of_lt_of_le hlt a.size)
    obtain ⟨d, rl, hd, hdB, hdw⟩ := a.back c ql hc hcw (hcB ▸ hlt)
    exact ⟨d, rl, hd, hdB.trans hcB, hdw⟩

/-- A world that differs in what was drawn alone. -/
theorem HR.drew {ν : Inj} {h : LHeap} {w : World} (hr : HR ν h w) (n : Nat) : HR ν h { w with drawn := n } := ⟨hr.dom, hr.obj, hr.sep, hr.real⟩
theorem Step.drew {ν : Inj} {h : LHeap} {w : World} (n : Nat) : Step ν h w ν h { w with drawn := n } :=
  ⟨Inj.le_refl ν, rfl, rfl, rfl, Nat.le_refl _, Nat.le_refl _, fun _ _ _ => rfl, fun b pl hb hw _ => ⟨b, pl, hb, rfl, hw⟩⟩

end Go.E1
