/-
  Texts joined: VwE, VwF.
-/
import Derived.Test.YtmafdmpmilhnfaaGreatDoorKq
/-
 ViewSame: the walk of the law.
-/
namespace Go.E1
open Go Go.Proofs Go.M
set_option linter.unusedSimpArgs false

/-- Two lists are one, by what is asked of each pair. -/
def AllTo {α : Type} (R : α → α → Prop) (a b : List α) (n : Nat) : Prop := a.length = b.length ∧ ∀ j x y, j < n → a[j]? = some x → b[j]? = some y → R x y
def AllEq {α : Type} (R : α → α → Prop) (a b : List α) : Prop := a.length = b.length ∧ ∀ (j : Nat) x y, a[j]? = some x → b[j]? = some y → R x y
theorem AllTo.all {α : Type} {R : α → α → Prop} {a b : List α} {n : Nat} (h : min a.length b.length ≤ n) : AllTo R a b n ↔ AllEq R a b := by
 constructor
 ·rintro ⟨h1, h2⟩
  refine ⟨h1, fun j x y hx hy => h2 j x y ?_ hx hy⟩
  have : j < a.length := by
   rcases Nat.lt_or_ge j a.length with q | q
   ·exact q
   ·rw [List.getElem?_eq_none q] at hx; cases hx
  omega
 ·rintro ⟨h1, h2⟩
  exact ⟨h1, fun j x y _ hx hy => h2 j x y hx hy⟩
theorem AllTo.succ {α : Type} {R : α → α → Prop} {a b : List α} {n : Nat} {x y : α} (hx : a[n]? = some x) (hy : b[n]? = some y) : AllTo R a b (n + 1) ↔ AllTo R a b n ∧ R x y := by
 constructor
 ·rintro ⟨h1, h2⟩
  exact ⟨⟨h1, fun j x y hj => h2 j x y (by omega)⟩, h2 n x y (by omega) hx hy⟩
 ·rintro ⟨⟨h1, h2⟩, h3⟩
  refine ⟨h1, fun j x' y' hj hx' hy' => ?_⟩
  by_cases e : j = n
  ·subst e
   rw [hx] at hx'; rw [hy] at hy'
   cases hx'; cases hy'
   exact h3
  ·exact h2 j x' y' (by omega) hx' hy'
theorem AllEq.refl {α : Type} {R : α → α → Prop} (hR : ∀ x, R x x) (a : List α) : AllEq R a a := ⟨rfl, fun j x y hx hy => by rw [hx] at hy; cases hy; exact hR x⟩

def fc (f : Fld) : List Value := [.string f.1, .string f.2]
theorem fc_cel : Cel 2 fc := ⟨fun _ => rfl, fun _ => rfl, by omega⟩
def FEq (x y : Fld) : Prop := x.1.data.toList = y.1.data.toList ∧ x.2.data.toList = y.2.data.toList
theorem cells_fld : Tryz.prog.cellsOf 95 = 2 := by kernel_rfl
theorem LRd_fld {h : LHeap} {n : Nat} {cs : List Value} (hl : LRd Tryz.prog h n 95 cs) : ∃ x : Fld, cs = fc x := by
 obtain ⟨m, parts, _, h1, h2, h3⟩ := LRd_struct Tryz.underlying95 hl
 match parts, h2 with
 | [p, q], _ =>
  obtain ⟨a, rfl, ha⟩ := LRd_string Tryz.underlying9 (h3 0 _ p rfl rfl).2
  obtain ⟨b, rfl, hb⟩ := LRd_string Tryz.underlying9 (h3 1 _ q rfl rfl).2
  exact ⟨(a, b), h1⟩
theorem LRd_flds {h : LHeap} {n : Nat} {cs : List Value} (hl : LRd Tryz.prog h n 51 cs) : ∃ v l, cs = [v] ∧ SL 2 fc h v l ∧ l.length ≤ reachBytes := by
 rcases LRd_slice Tryz.underlying51 hl with rfl | ⟨b, len, css, m, rfl, rfl, h1, h2, h3, h4, h5⟩
 ·exact ⟨_, [], rfl, .inl ⟨rfl, rfl⟩, by simp⟩
 ·rw [cells_fld] at h5 ⊢
  have key : ∀ (css : List (List Value)), (∀ c ∈ css, c.length = 2 ∧ LRd Tryz.prog h m 95 c) → ∃ l : List Fld, css.flatten = l.flatMap fc ∧ l.length = css.length := by
   intro css
   induction css with
   | nil => intro _; exact ⟨[], rfl, rfl⟩
   | cons c css ih =>
    intro hc
    obtain ⟨l, h6, h7⟩ := ih fun x hx => hc x (List.mem_cons_of_mem _ hx)
    obtain ⟨x, rfl⟩ := LRd_fld (hc c (List.mem_cons_self ..)).2
    exact ⟨x :: l, by rw [List.flatten_cons, h6]; rfl, by simp [h7]⟩
  obtain ⟨l, h6, h7⟩ := key css h5
  exact ⟨_, l, rfl, .inr ⟨b, _, _, by rw [h7, h3], h1, by rw [h2, h6]⟩, by omega⟩

theorem q_fldV (x y : Fld) : EC.q 95 (.agg #[.string x.1, .string x.2]) (.agg #[.string y.1, .string y.2]) = some ((x.1.data.toList == y.1.data.toList) && ((x.2.data.toList == y.2.data.toList) && true)) := by
 have e : qAll.lookup 95 = some [.str, .str] := rfl
 rw [EC_q]
 simp only [qOf, e, cellsEq, leafEq]

theorem sEqFldsV {h : LHeap} {v w : Value} {l k : List Fld} (A : SL 2 fc h v l) (B : SL 2 fc h w k) (hl : l.length < 1000000000000000) :
  LCalls EC 28 [v, w] h fun u h' => (∃ r : Bool, u = .bool r ∧ (r = true ↔ AllEq FEq l k)) ∧ Ext h h' := by
 refine LCalls.enter (lf := lf28) rfl rfl (by simp [lf28]) ?_
 have eA := fun hh => A.len (q := EC.q) (h := hh)
 have eB := fun hh => B.len (q := EC.q) (h := hh)
 by_cases hne : l.length = k.length
 rotate_left
 ·have q0 : ((l.length : Int) != (k.length : Int)) = true := by simp; omega
  simp only [go_sem, lf28, ↓reduceIte, eA, eB, q0]
  exact ⟨⟨false, rfl, fun h => (by cases h), fun h => absurd h.1 hne⟩, Ext.refl _⟩
 have q0 : ((l.length : Int) != (k.length : Int)) = false := by simp; omega
 simp only [go_sem, lf28, ↓reduceIte, eA, eB, q0]
 refine MC.loop (fun m fr hh => ∃ i, m = l.length - i ∧ fr = [(0, v), (1, w), (12, .int .i64 (l.length : Nat)), (13, .int .i64 (i : Nat))] ∧ i ≤ l.length ∧ AllTo FEq l k i ∧ Ext h hh) l.length ⟨0, rfl, rfl, Nat.zero_le _, ⟨hne, fun j x y hj => absurd hj (Nat.not_lt_zero _)⟩, Ext.refl _⟩ ?_
 rintro m fr hh J ⟨i, rfl, rfl, hi, hsame, X⟩ hJ
 by_cases hlt : i < l.length
 ·have d3 : (i : Int) < (l.length : Int) := by omega
  have d3' : (i : Int) < (k.length : Int) := by omega
  have d4 : (0 : Int) ≤ (i : Int) := by omega
  have w1 : IntKind.i64.wrap ((i : Int) + 1) = ((i + 1 : Nat) : Int) := by rw [IntWalk.i64_in _ (by omega)]; omega
  obtain ⟨x, hx⟩ : ∃ x, l[i]? = some x := ⟨l[i], by simp [hlt]⟩
  obtain ⟨y, hy⟩ : ∃ y, k[i]? = some y := ⟨k[i]'(by omega), by simp [show i < k.length by omega]⟩
  obtain ⟨b1, t1, r1, rfl, hb1, hg1⟩ := A.at hx
  obtain ⟨b2, t2, r2, rfl, hb2, hg2⟩ := B.at hy
  have g1 := (X.get b1 hb1).trans hg1
  have g2 := (X.get b2 hb2).trans hg2
  obtain ⟨k1, k2⟩ := fc_cel.get hx
  obtain ⟨m1, m2⟩ := fc_cel.get hy
  simp only [fc] at k1 m1
  have hq := q_fldV x y
  have hsucc := AllTo.succ (R := FEq) hx hy
  simp only [go_sem, ↓reduceIte, d3]
  refine MC.dregion ?_
  by_cases hE : FEq x y
  ·have hb : ((x.1.data.toList == y.1.data.toList) && ((x.2.data.toList == y.2.data.toList) && true)) = true := by simp [hE.1, hE.2]
   rw [hb] at hq
   simp only [go_sem, ↓reduceIte, d3, d3', d4, Int.toNat_natCast, g1, g2, k1, k2, m1, m2, hq, Bool.not_true, w1]
   exact hJ _ _ _ (by omega) ⟨i + 1, rfl, rfl, by omega, hsucc.2 ⟨hsame, hE⟩, X⟩
  ·have hb : ((x.1.data.toList == y.1.data.toList) && ((x.2.data.toList == y.2.data.toList) && true)) = false := by
    cases hc : ((x.1.data.toList == y.1.data.toList) && ((x.2.data.toList == y.2.data.toList) && true)) with
    | false => rfl
    | true => simp only [Bool.and_true, Bool.and_eq_true, beq_iff_eq] at hc; exact absurd hc hE
   rw [hb] at hq
   simp only [go_sem, ↓reduceIte, d3, d3', d4, Int.toNat_natCast, g1, g2, k1, k2, m1, m2, hq, Bool.not_false]
   exact ⟨⟨false, rfl, fun h => (by cases h), fun h => absurd (h.2 i x y hx hy) hE⟩, X⟩
 ·have d3 : ¬ (i : Int) < (l.length : Int) := by omega
  obtain rfl : i = l.length := by omega
  simp only [go_sem, ↓reduceIte, d3]
  exact ⟨⟨true, rfl, fun _ => (AllTo.all (by omega)).1 hsame, fun _ => rfl⟩, X⟩

theorem sEqBytesV {h : LHeap} {v w : Value} {l k : Bytes} (A : BytesAt h v l) (B : BytesAt h w k) : LCalls EC 29 [v, w] h fun u h' => (∃ r : Bool, u = .bool r ∧ (r = true ↔ l = k)) ∧ h' = h := by
 refine LCalls.enter (lf := lf29) rfl rfl (by simp [lf29]) ?_
 have e1 := A.strV (q := EC.q)
 have e2 := B.strV (q := EC.q)
 simp only [go_sem, lf29, ↓reduceIte, e1, e2]
 exact ⟨_, rfl, by simp [toBA]⟩

/-! ### Deliveries -/
structure DlR where
 n : Int × Int × Int × Int × Int
 fv : SlT
 f : List Fld
 xv : SlT
 x : Bytes
 code : Int
def dc (d : DlR) : List Value := [.int .i64 d.n.1, .int .i64 d.n.2.1, .int .i64 d.n.2.2.1, .int .i64 d.n.2.2.2.1, .int .i64 d.n.2.2.2.2, slW d.fv, slW d.xv, .int .i64 d.code]
theorem dc_cel : Cel 8 dc := ⟨fun _ => rfl, fun _ => rfl, by omega⟩
def DlOk (h : LHeap) (d : DlR) : Prop := SL 2 fc h (slW d.fv) d.f ∧ d.f.length ≤ reachBytes ∧ BA h (slW d.xv) d.x
theorem DlOk.ext {h h' : LHeap} {x : DlR} (a : DlOk h x) (X : Ext h h') : DlOk h' x := ⟨a.1.ext X, a.2.1, a.2.2.ext X⟩
def DEq (d e : DlR) : Prop := (d.n = e.n ∧ d.code = e.code) ∧ AllEq FEq d.f e.f ∧ d.x = e.x
theorem FEq.refl (x : Fld) : FEq x x := ⟨rfl, rfl⟩
theorem DEq.refl (d : DlR) : DEq d d := ⟨⟨rfl, rfl⟩, AllEq.refl FEq.refl _, rfl⟩
theorem SL.shape {α : Type} {k : Nat} {c : α → List Value} {h : LHeap} {v : Value} {l : List α} (g : SL k c h v l) : ∃ a n e, v = .slice a n e := by
 rcases g with ⟨_, rfl⟩ | ⟨b, _, _, rfl, _⟩ <;> exact ⟨_, _, _, rfl⟩
theorem cells_dl : Tryz.prog.cellsOf 53 = 8 := by kernel_rfl
theorem LRd_dl {h : LHeap} {n : Nat} {cs : List Value} (hl : LRd Tryz.prog h n 53 cs) : ∃ x : DlR, cs = dc x ∧ DlOk h x := by
 obtain ⟨m, parts, _, h1, h2, h3⟩ := LRd_struct Tryz.underlying53 hl
 match parts, h2 with
 | [p0, p1, p2, p3, p4, p5, p6, p7], _ =>
  obtain ⟨a0, rfl, _⟩ := LRd_int Tryz.underlying3 (h3 0 _ p0 rfl rfl).2
  obtain ⟨a1, rfl, _⟩ := LRd_int Tryz.underlying3 (h3 1 _ p1 rfl rfl).2
  obtain ⟨a2, rfl, _⟩ := LRd_int Tryz.underlying3 (h3 2 _ p2 rfl rfl).2
  obtain ⟨a3, rfl, _⟩ := LRd_int Tryz.underlying3 (h3 3 _ p3 rfl rfl).2
  obtain ⟨a4, rfl, _⟩ := LRd_int Tryz.underlying3 (h3 4 _ p4 rfl rfl).2
  obtain ⟨fv, f, rfl, hF, hf⟩ := LRd_flds (h3 5 _ p5 rfl rfl).2
  obtain ⟨xv, x, rfl, hX, _⟩ := LRd_bytes (h3 6 _ p6 rfl rfl).2
  obtain ⟨a7, rfl, _⟩ := LRd_int Tryz.underlying40 (h3 7 _ p7 rfl rfl).2
  obtain ⟨x1, y1, z1, rfl⟩ := hF.shape
  obtain ⟨x2, y2, z2, rfl⟩ := (BA.bytes hX).shapeV
  exact ⟨⟨(a0, a1, a2, a3, a4), (x1, y1, z1), f, (x2, y2, z2), x, a7⟩, h1, hF, hf, hX⟩
theorem LRd_dls {h : LHeap} {n : Nat} {cs : List Value} (hl : LRd Tryz.prog h n 48 cs) : ∃ v l, cs = [v] ∧ SL 8 dc h v l ∧ ∀ r ∈ l, DlOk h r := by
 rcases LRd_slice' Tryz.underlying48 hl with h1 | ⟨b, len, css, m, rfl, h0, h1, h2, h3, h4, h5⟩
 ·exact ⟨_, [], h1, .inl ⟨rfl, rfl⟩, by simp⟩
 ·rw [cells_dl] at h5 h0
  have key : ∀ (css : List (List Value)), (∀ c ∈ css, c.length = 8 ∧ LRd Tryz.prog h m 53 c) → ∃ l : List DlR, css.flatten = l.flatMap dc ∧ l.length = css.length ∧ ∀ r ∈ l, DlOk h r := by
   intro css
   induction css with
   | nil => intro _; exact ⟨[], rfl, rfl, by simp⟩
   | cons c css ih =>
    intro hc
    obtain ⟨l, h6, h7, h8⟩ := ih fun x hx => hc x (List.mem_cons_of_mem _ hx)
    obtain ⟨r, rfl, hr⟩ := LRd_dl (hc c (List.mem_cons_self ..)).2
    refine ⟨r :: l, by simp [h6], by simp [h7], fun x hx => ?_⟩
    rcases List.mem_cons.1 hx with rfl | hx
    ·exact hr
    ·exact h8 x hx
  obtain ⟨l, h6, h7, h8⟩ := key css h5
  exact ⟨_, l, h0, .inr ⟨b, _, _, by rw [h7, h3], h1, by rw [← h6]; exact h2⟩, h8⟩
theorem LRd_intsV {h : LHeap} {n : Nat} {cs : List Value} (hl : LRd Tryz.prog h n 29 cs) : ∃ v l, cs = [v] ∧ SL 1 ic h v l ∧ (∀ i ∈ l, (Lit.int .i64 i).wf = true) := by
 have cells_int : Tryz.prog.cellsOf 3 = 1 := by kernel_rfl
 rcases LRd_slice' Tryz.underlying29 hl with h1 | ⟨b, len, css, m, rfl, h0, h1, h2, h3, h4, h5⟩
 ·exact ⟨_, [], h1, .inl ⟨rfl, rfl⟩, by simp⟩
 ·rw [cells_int] at h5 h0
  have key : ∀ (css : List (List Value)), (∀ c ∈ css, c.length = 1 ∧ LRd Tryz.prog h m 3 c) → ∃ l : List Int, css.flatten = l.flatMap ic ∧ l.length = css.length ∧ ∀ i ∈ l, (Lit.int .i64 i).wf = true := by
   intro css
   induction css with
   | nil => intro _; exact ⟨[], rfl, rfl, by simp⟩
   | cons c css ih =>
    intro hc
    obtain ⟨l, h6, h7, h8⟩ := ih fun x hx => hc x (List.mem_cons_of_mem _ hx)
    obtain ⟨i, rfl, hi⟩ := LRd_int Tryz.underlying3 (hc c (List.mem_cons_self ..)).2
    refine ⟨i :: l, by simp [h6, ic], by simp [h7], fun x hx => ?_⟩
    rcases List.mem_cons.1 hx with rfl | hx
    ·exact hi
    ·exact h8 x hx
  obtain ⟨l, h6, h7, h8⟩ := key css h5
  exact ⟨_, l, h0, .inr ⟨b, _, _, by rw [h7, h3], h1, by rw [← h6]; exact h2⟩, h8⟩

theorem q_six (a b c d e f a' b' c' d' e' f' : Int) : EC.q 92 (.agg #[.int .i64 a, .int .i64 b, .int .i64 c, .int .i64 d, .int .i64 e, .int .i64 f]) (.agg #[.int .i64 a', .int .i64 b', .int .i64 c', .int .i64 d', .int .i64 e', .int .i64 f']) = some (decide ((a = a' ∧ b = b' ∧ c = c' ∧ d = d' ∧ e = e') ∧ f = f')) := by
 have h : qAll.lookup 92 = some [.int, .int, .int, .int, .int, .int] := rfl
 rw [EC_q]
 simp only [qOf, h, cellsEq, leafEq, ↓reduceIte, Option.some.injEq]
 rw [Bool.eq_iff_iff]
 simp [and_assoc]

def dV (d : DlR) : Value := .agg #[.int .i64 d.n.1, .int .i64 d.n.2.1, .int .i64 d.n.2.2.1, .int .i64 d.n.2.2.2.1, .int .i64 d.n.2.2.2.2, slW d.fv, slW d.xv, .int .i64 d.code]
theorem sDlEqual {h : LHeap} {d e : DlR} (D : DlOk h d) (E : DlOk h e) : LCalls EC 15 [dV d, dV e] h fun u h' => (∃ r : Bool, u = .bool r ∧ (r = true ↔ DEq d e)) ∧ Ext h h' := by
 have hrb : reachBytes ≤ 140737488355328 := by decide
 obtain ⟨⟨a0, a1, a2, a3, a4⟩, ⟨x1, y1, z1⟩, f, ⟨x2, y2, z2⟩, x, a7⟩ := d
 obtain ⟨⟨b0, b1, b2, b3, b4⟩, ⟨s1, t1, r1⟩, g, ⟨s2, t2, r2⟩, y, b7⟩ := e
 obtain ⟨D1, D2, D3⟩ := D
 obtain ⟨E1, E2, E3⟩ := E
 simp only [slW, dV] at D1 D3 E1 E3 ⊢
 simp only at D2
 refine LCalls.enter (lf := lf15) rfl rfl (by simp [lf15]) ?_
 have hq := q_six a0 a1 a2 a3 a4 a7 b0 b1 b2 b3 b4 b7
 have hn : h.size ≠ h.size + 1 := by omega
 simp only [go_sem, lf15, ↓reduceIte, hn, lfill, hq]
 have X : ∀ {a b}, Ext h ((h.push a).push b) := (Ext.push _ _).trans (Ext.push _ _)
 by_cases hc : (a0 = b0 ∧ a1 = b1 ∧ a2 = b2 ∧ a3 = b3 ∧ a4 = b4) ∧ a7 = b7
 rotate_left
 ·simp only [hc, decide_false, go_sem, ↓reduceIte]
  exact ⟨⟨false, rfl, fun h => (by cases h), fun h => absurd (by simpa [DEq, and_assoc] using h.1) (by simpa [and_assoc] using hc)⟩, X⟩
 ·simp only [hc, and_self, decide_true, go_sem, ↓reduceIte, hn]
  generalize hq2 : LHeap.push _ _ = h2
  have X2 : Ext h h2 := by rw [← hq2]; exact X
  have g1 : h2.get h.size = some (.cells [.int .i64 a0, .int .i64 a1, .int .i64 a2, .int .i64 a3, .int .i64 a4, .slice x1 y1 z1, .slice x2 y2 z2, .int .i64 a7] true true) := by rw [← hq2]; simp [Value.cells, hc]
  have g2 : h2.get (h.size + 1) = some (.cells [.int .i64 b0, .int .i64 b1, .int .i64 b2, .int .i64 b3, .int .i64 b4, .slice s1 t1 r1, .slice s2 t2 r2, .int .i64 b7] true true) := by rw [← hq2]; simp [Value.cells, hc]
  have hs2 : h2.size = h.size + 2 := by rw [← hq2]; simp
  refine MCall.by (sEqFldsV (D1.ext X2) (E1.ext X2) (by omega)) ?_
  rintro u h3 ⟨⟨r, rfl, hr⟩, X3⟩
  have g1' := (X3.get h.size (by omega)).trans g1
  have g2' := (X3.get (h.size + 1) (by omega)).trans g2
  cases r with
  | false =>
   simp only [go_sem, ↓reduceIte]
   exact ⟨⟨false, rfl, fun h => (by cases h), fun h => hr.2 h.2.1⟩, X2.trans X3⟩
  | true =>
   simp only [go_sem, ↓reduceIte, g1', g2']
   refine MCall.by (sEqBytesV (BA.bytes (D3.ext (X2.trans X3))) (BA.bytes (E3.ext (X2.trans X3)))) ?_
   rintro u h4 ⟨⟨r, rfl, hr2⟩, rfl⟩
   simp only [go_sem, ↓reduceIte]
   refine ⟨⟨r, rfl, fun h => ⟨by simp [hc], hr.1 rfl, hr2.1 h⟩, fun h => hr2.2 h.2.2⟩, X2.trans X3⟩

theorem sVSame {h : LHeap} {v w : Value} {l k : List DlR} (A : SL 8 dc h v l) (B : SL 8 dc h w k) (hl : l.length < 1000000) (ha : ∀ r ∈ l, DlOk h r) (hb : ∀ r ∈ k, DlOk h r) :
  LCalls EC 17 [v, w] h fun u h' => (∃ r : Bool, u = .bool r ∧ (r = true ↔ AllEq DEq l k)) ∧ Ext h h' := by
 refine LCalls.enter (lf := lf17) rfl rfl (by simp [lf17]) ?_
 simp only [go_sem, lf17, ↓reduceIte]
 refine MCall.by (R := fun u h' => (∃ r : Bool, u = .bool r ∧ (r = true ↔ AllEq DEq l k)) ∧ Ext h h') ?_ ?_
 rotate_left
 ·rintro u h2 ⟨⟨r, rfl, hr⟩, X⟩
  simp only [go_sem, ↓reduceIte]
  exact ⟨⟨r, rfl, hr⟩, X⟩
 refine LCalls.enter (lf := lf31) rfl rfl (by simp [lf31]) ?_
 have eA := fun hh => A.len (q := EC.q) (h := hh)
 have eB := fun hh => B.len (q := EC.q) (h := hh)
 by_cases hne : l.length = k.length
 rotate_left
 ·have q0 : ((l.length : Int) != (k.length : Int)) = true := by simp; omega
  simp only [go_sem, lf31, ↓reduceIte, eA, eB, q0]
  exact ⟨⟨false, rfl, fun h => (by cases h), fun h => absurd h.1 hne⟩, Ext.refl _⟩
 have q0 : ((l.length : Int) != (k.length : Int)) = false := by simp; omega
 simp only [go_sem, lf31, ↓reduceIte, eA, eB, q0]
 refine MC.loop (fun m fr hh => ∃ i, m = l.length - i ∧ fr = [(1, w), (2, .func (.func 15) #[] #[]), (15, v), (16, .int .i64 (l.length : Nat)), (17, .int .i64 (i : Nat))] ∧ i ≤ l.length ∧ AllTo DEq l k i ∧ Ext h hh) l.length ⟨0, rfl, rfl, Nat.zero_le _, ⟨hne, fun j x y hj => absurd hj (Nat.not_lt_zero _)⟩, Ext.refl _⟩ ?_
 rintro m fr hh J ⟨i, rfl, rfl, hi, hsame, X⟩ hJ
 by_cases hlt : i < l.length
 ·have d3 : (i : Int) < (l.length : Int) := by omega
  have d3' : (i : Int) < (k.length : Int) := by omega
  have d4 : (0 : Int) ≤ (i : Int) := by omega
  have w1 : IntKind.i64.wrap ((i : Int) + 1) = ((i + 1 : Nat) : Int) := by rw [IntWalk.i64_in _ (by omega)]; omega
  obtain ⟨x, hx⟩ : ∃ x, l[i]? = some x := ⟨l[i], by simp [hlt]⟩
  obtain ⟨y, hy⟩ : ∃ y, k[i]? = some y := ⟨k[i]'(by omega), by simp [show i < k.length by omega]⟩
  obtain ⟨b1, t1, r1, rfl, hb1, hg1⟩ := A.at hx
  obtain ⟨b2, t2, r2, rfl, hb2, hg2⟩ := B.at hy
  have g1 := (X.get b1 hb1).trans hg1
  have g2 := (X.get b2 hb2).trans hg2
  obtain ⟨k1, k2⟩ := dc_cel.get hx
  obtain ⟨m1, m2⟩ := dc_cel.get hy
  simp only [dc, slW] at k1 m1
  have hD := (ha x (List.mem_of_getElem? hx)).ext X
  have hE := (hb y (List.mem_of_getElem? hy)).ext X
  have n1 : ¬ b1 = hh.size := by have := X.size; omega
  have n2 : ¬ b2 = hh.size := by have := X.size; omega
  have n3 : ¬ b2 = hh.size + 1 := by have := X.size; omega
  have n4 : ¬ hh.size = hh.size + 1 := by omega
  have hsucc := AllTo.succ (R := DEq) hx hy
  simp only [go_sem, ↓reduceIte, d3, d3', d4, Int.toNat_natCast, g1, g2, k1, k2, m1, m2, n1, n2, n3, n4]
  generalize hq2 : LHeap.set _ (hh.size + 1) _ = h2
  have X2 : Ext hh h2 := by rw [← hq2]; exact ((((Ext.push _ _).set (Nat.le_refl _) _).trans (Ext.push _ _)).set (by simp) _)
  clear hq2
  refine MCall.by (sDlEqual (hD.ext X2) (hE.ext X2)) ?_
  rintro u h3 ⟨⟨r, rfl, hr⟩, X3⟩
  have X4 := X.trans (X2.trans X3)
  cases r with
  | false =>
   simp only [go_sem, ↓reduceIte]
   exact ⟨⟨false, rfl, fun h => (by cases h), fun h => hr.2 (h.2 i x y hx hy)⟩, X4⟩
  | true =>
   simp only [go_sem, ↓reduceIte, w1]
   exact hJ _ _ _ (by omega) ⟨i + 1, rfl, rfl, by omega, hsucc.2 ⟨hsame, hr.1 rfl⟩, X4⟩
 ·have d3 : ¬ (i : Int) < (l.length : Int) := by omega
  obtain rfl : i = l.length := by omega
  simp only [go_sem, ↓reduceIte, d3]
  exact ⟨⟨true, rfl, fun _ => (AllTo.all (by omega)).1 hsame, fun _ => rfl⟩, X⟩
end Go.E1

/-
 ViewSame: whose requests they are; the law.
-/
namespace Go.E1
open Go Go.Proofs Go.M
set_option linter.unusedSimpArgs false

theorem sSomeV (h : LHeap) (tn : Int) : LCalls EC 55 [.int .i64 tn] h fun v h' => v = .bool (decide (1 ≤ tn) && decide (tn ≤ 64)) ∧ h' = h := by
 refine LCalls.enter (lf := lf55) rfl rfl (by simp [lf55]) ?_
 by_cases h1 : 1 ≤ tn <;> simp only [go_sem, lf55, h1, ↓reduceIte, decide_true, decide_false, Bool.true_and, Bool.false_and]

theorem sRegOwner (h : LHeap) (id tn : Int) : LCalls EC 30 [.int .i64 id, .int .i64 tn] h fun v h' => v = .tuple #[.int .i64 (ownI id tn), .bool (ownB id tn)] ∧ h' = h := by
 refine LCalls.enter (lf := lf30) rfl rfl (by simp [lf30]) ?_
 by_cases h1 : id < 1
 ·have e : ownI id tn = 0 := if_neg (by omega)
  have e2 : ownB id tn = false := by simp [ownB]; omega
  simp only [go_sem, lf30, h1, ↓reduceIte, decide_true, e, e2]
 ·by_cases h2 : id > 2147483647
  ·have e : ownI id tn = 0 := if_neg (by omega)
   have e2 : ownB id tn = false := by simp [ownB]; omega
   simp only [go_sem, lf30, h1, h2, ↓reduceIte, decide_true, decide_false, e, e2]
  ·obtain ⟨n, rfl⟩ := Int.eq_ofNat_of_zero_le (show 0 ≤ id by omega)
   have ha := and_one n (by omega)
   by_cases h3 : n % 2 = 0
   ·have e : ownI n tn = 0 := if_neg (by omega)
    have e2 : ownB n tn = false := by simp [ownB]; omega
    have h3' : ((n % 2 : Nat) : Int) = 0 := by omega
    simp only [go_sem, lf30, h1, h2, ha, h3', ↓reduceIte, decide_true, decide_false, e, e2]
   ·have h3' : ¬ ((n % 2 : Nat) : Int) = 0 := by omega
    have hb : ((((n % 2 : Nat) : Int)) == 0) = false := by simp; omega
    simp only [go_sem, lf30, h1, h2, ha, hb, ↓reduceIte, decide_true, decide_false]
    refine MCall.by (sSomeV _ tn) ?_
    rintro v h' ⟨rfl, rfl⟩
    by_cases h4 : 1 ≤ tn ∧ tn ≤ 64
    ·have e : ownI n tn = (n / 2 : Int).tmod tn := by
      rw [ownI, if_pos (by omega), Int.tmod_eq_emod_of_nonneg (by omega)]
     have e2 : ownB n tn = true := by simp [ownB]; omega
     have hq : IntKind.i64.wrap ((n : Int).tdiv 2) = (n : Int) / 2 := by
      rw [Int.tdiv_eq_ediv_of_nonneg (by omega)]
      exact IntWalk.i64_in _ (by omega)
     have hz : ¬ tn = 0 := by omega
     simp only [go_sem, h4, hq, hz, ↓reduceIte, decide_true, Bool.and_self, Bool.not_true, e, e2]
    ·have e : ownI n tn = 0 := if_neg (by omega)
     have e2 : ownB n tn = false := by simp [ownB]; omega
     have hs : (decide (1 ≤ tn) && decide (tn ≤ 64)) = false := by simp; omega
     simp only [go_sem, lf30, hs, ↓reduceIte, decide_true, decide_false, Bool.not_false, e, e2]

/-- A request as it is seen, of which the number alone is told. -/
def gc (id : Int) : List Value := [.int .i64 id, .string ⟨#[]⟩, .string ⟨#[]⟩, .string ⟨#[]⟩, .string ⟨#[]⟩, .slice none 0 0, .slice none 0 0, .bool false, .bool false]
theorem gc_cel : Cel 9 gc := ⟨fun _ => rfl, fun _ => rfl, by omega⟩
def mineB (T t : Int) (id : Int) : Bool := ownB id T && (ownI id T == t)

theorem sVOf {h : LHeap} {v : Value} {l : List Int} (A : GL 9 gc h v l) (hl : l.length ≤ 1000) (T t : Int) :
  LCalls EC 16 [v, .int .i64 t, .int .i64 T] h fun u h' => GL 9 gc h' u (l.filter (mineB T t)) ∧ Ext h h' := by
 refine LCalls.enter (lf := lf16) rfl rfl (by simp [lf16]) ?_
 have eL := fun hh => A.len (q := EC.q) (h := hh)
 simp only [go_sem, lf16, ↓reduceIte, eL]
 refine MC.loop (fun m fr hh => ∃ i w, m = l.length - i ∧ i ≤ l.length ∧ fr = [(1, .int .i64 t), (2, .int .i64 T), (7, w), (12, v), (13, .int .i64 (l.length : Nat)), (14, .int .i64 (i : Nat))] ∧ Ext h hh ∧ GL 9 gc hh w ((l.take i).filter (mineB T t)) ∧ ∀ b, blkOf w = some b → h.size ≤ b) l.length
  ⟨0, _, rfl, Nat.zero_le _, rfl, Ext.refl _, GL.nil, by simp⟩ ?_
 rintro m fr hh J ⟨i, w, rfl, hi, rfl, X, G, hG⟩ hJ
 by_cases hlt : i < l.length
 ·obtain ⟨x, hx⟩ : ∃ x, l[i]? = some x := ⟨l[i], by simp [hlt]⟩
  obtain ⟨b, rfl, g1, g2⟩ := A.at hx
  obtain ⟨k1, k2⟩ := gc_cel.get hx
  simp only [gc] at k1
  have hft : (l.take (i + 1)).filter (mineB T t) = (l.take i).filter (mineB T t) ++ (if mineB T t x = true then [x] else []) := by
   rw [take_snoc hx, List.filter_append]; congr 1
   cases hm : mineB T t x <;> simp [hm]
  have hn : ((l.take i).filter (mineB T t)).length ≤ i := by
   have := List.length_filter_le (mineB T t) (l.take i)
   rw [List.length_take] at this; omega
  have d0 : (0 : Int) ≤ (i : Int) := by omega
  have d1 : (i : Int) < (l.length : Int) := by omega
  have hg : hh.get b = _ := (X.get _ g1).trans g2
  have hnb : ¬ b = hh.size := by have := X.size; omega
  have w3 : IntKind.i64.wrap ((i : Int) + 1) = ((i + 1 : Nat) : Int) := by rw [IntWalk.i64_in _ (by omega)]; omega
  simp only [go_sem, ↓reduceIte, d0, d1, Int.toNat_natCast, hg, k1, k2, hnb]
  generalize hq : LHeap.set _ hh.size _ = h1
  have X1 : Ext hh h1 := by rw [← hq]; exact (Ext.push _ _).set (Nat.le_refl _) _
  have hs1 : hh.size < h1.size := by rw [← hq]; simp
  have g1' : h1.get hh.size = some (.cells [.int .i64 x, .string ⟨#[]⟩, .string ⟨#[]⟩, .string ⟨#[]⟩, .string ⟨#[]⟩, .slice none 0 0, .slice none 0 0, .bool false, .bool false] true true) := by rw [← hq]; simp
  clear hq
  refine MCall.by (sRegOwner h1 x T) ?_
  rintro u h2 ⟨rfl, rfl⟩
  have XX := X.trans X1
  have G1 := G.ext X1
  cases hob : ownB x T with
  | false =>
   have hm : mineB T t x = false := by simp [mineB, hob]
   rw [hm] at hft
   simp only [Bool.false_eq_true, if_false, List.append_nil] at hft
   simp only [go_sem, ↓reduceIte, w3]
   exact hJ _ _ _ (by omega) ⟨i + 1, w, rfl, by omega, rfl, XX, by rw [hft]; exact G1, hG⟩
  | true =>
   by_cases ho : ownI x T = t
   ·have hm : mineB T t x = true := by simp [mineB, hob, ho]
    rw [hm] at hft
    simp only [if_true] at hft
    obtain ⟨v2, h2, ha, G2, hs2, ob2, ov2⟩ := gl_append gc_cel (by' := 128) (q := EC.q) G1 x (by omega) (by omega)
    simp only [gc] at ha
    have X2 : Ext h h2 := ⟨by have := XX.size; omega, fun b hb => (ob2 b (by have := XX.size; omega) (fun e => by have := hG b e; omega)).trans (XX.get b hb)⟩
    simp only [go_sem, ↓reduceIte, ho, beq_self_eq_true, g1', lfill, ha, w3]
    exact hJ _ _ _ (by omega) ⟨i + 1, v2, rfl, by omega, rfl, X2, by rw [hft]; exact G2, fun b e => by have := ov2 b e; have := XX.size; omega⟩
   ·have ho' : (ownI x T == t) = false := beq_eq_false_iff_ne.2 ho
    have hm : mineB T t x = false := by simp [mineB, hob, ho']
    rw [hm] at hft
    simp only [Bool.false_eq_true, if_false, List.append_nil] at hft
    simp only [go_sem, ↓reduceIte, ho', w3]
    exact hJ _ _ _ (by omega) ⟨i + 1, w, rfl, by omega, rfl, XX, by rw [hft]; exact G1, hG⟩
 ·have d1 : ¬ (i : Int) < (l.length : Int) := by omega
  obtain rfl : i = l.length := by omega
  rw [List.take_length] at G
  simp only [go_sem, ↓reduceIte, d1]
  exact ⟨G, X⟩

theorem SL.icAt {h : LHeap} {v : Value} {l : List Int} (G : SL 1 ic h v l) {i : Nat} {x : Int} (hx : l[i]? = some x) : ∃ b t r, v = .slice (some ⟨b, 0, none⟩) l.length 1 ∧ b < h.size ∧ h.get b = some (.cells (l.map (Value.int .i64 ·)) t r) ∧ (l.map (Value.int .i64 ·))[i]? = some (.int .i64 x) := by
 obtain ⟨b, t, r, h1, h2, h3⟩ := G.at hx
 exact ⟨b, t, r, h1, h2, by rw [h3, flat_ic], by simp [hx]⟩
theorem x_minV {q : EqF} {h : LHeap} {k : IntKind} {a b : Int} : lexec q (.minmax false [.int k a, .int k b]) h = some (.int k (min a b), h) := by
 have e : (if b < a then b else a) = min a b := by split <;> omega
 simp [lexec, e]

theorem sViewSame {h : LHeap} {va vb vi : Value} {la lb : List DlR} {ids : List Int} (A : SL 8 dc h va la) (B : SL 8 dc h vb lb) (ha : ∀ r ∈ la, DlOk h r) (hb : ∀ r ∈ lb, DlOk h r) (I : SL 1 ic h vi ids) (T t : Int) :
  LCalls EC 6 [.agg #[va, vb, vi, .int .i64 t, .int .i64 T]] h fun u _ => u = .bool true := by
 refine LCalls.enter (lf := lf6) rfl rfl (by simp [lf6]) ?_
 have sA := A.shape
 have sB := B.shape
 have sI := I.shape
 obtain ⟨xa, na, ea, rfl⟩ := sA
 obtain ⟨xb, nb, eb, rfl⟩ := sB
 obtain ⟨xi, ni, ei, rfl⟩ := sI
 have hna : na = la.length := by rcases A with ⟨rfl, e⟩ | ⟨_, _, _, e, _⟩ <;> cases e <;> rfl
 have hnb : nb = lb.length := by rcases B with ⟨rfl, e⟩ | ⟨_, _, _, e, _⟩ <;> cases e <;> rfl
 have hni : ni = ids.length := by rcases I with ⟨rfl, e⟩ | ⟨_, _, _, e, _⟩ <;> cases e <;> rfl
 subst hna hnb hni
 simp only [go_sem, lf6, ↓reduceIte]
 generalize hq : LHeap.push _ _ = h0
 have X0 : Ext h h0 := by rw [← hq]; exact Ext.push _ _
 have g0 : h0.get h.size = some (.cells [.slice xa la.length ea, .slice xb lb.length eb, .slice xi ids.length ei, .int .i64 t, .int .i64 T] true true) := by rw [← hq]; simp [Value.cells]
 clear hq
 refine MC.dregion ?_
 simp only [go_sem, ↓reduceIte, g0]
 by_cases c1 : (20 : Int) < (la.length : Int)
 ·simp only [go_sem, ↓reduceIte, c1, decide_true]
 by_cases c2 : (20 : Int) < (lb.length : Int)
 ·simp only [go_sem, ↓reduceIte, c1, c2, decide_true, decide_false]
 by_cases c3 : (60 : Int) < (ids.length : Int)
 ·simp only [go_sem, ↓reduceIte, c1, c2, c3, decide_true, decide_false]
 have hmin : min (la.length : Int) (lb.length : Int) = ((min la.length lb.length : Nat) : Int) := by omega
 simp only [go_sem, ↓reduceIte, c1, c2, c3, decide_false, x_minV, hmin]
 have A0 := A.ext X0
 have B0 := B.ext X0
 have I0 := I.ext X0
 have ha0 : ∀ r ∈ la, DlOk h0 r := fun r hr => (ha r hr).ext X0
 have hb0 : ∀ r ∈ lb, DlOk h0 r := fun r hr => (hb r hr).ext X0
 refine MC.loop (fun m fr hh => ∃ (i : Nat) (r : Bool), m = min la.length lb.length - i ∧ i ≤ min la.length lb.length ∧ fr = [(3, .slice xa la.length ea), (4, .slice xb lb.length eb), (5, .slice xi ids.length ei), (6, .int .i64 t), (7, .int .i64 T), (8, .bool r), (50, .int .i64 ((min la.length lb.length : Nat) : Int)), (51, .int .i64 (i : Nat))] ∧ Ext h0 hh ∧ (r = true ↔ AllTo DEq la lb i)) (min la.length lb.length)
  ⟨0, _, rfl, Nat.zero_le _, rfl, Ext.refl _, ?_⟩ ?_
 ·constructor
  ·intro e
   have := beq_iff_eq.1 e
   exact ⟨by omega, fun j x y hj => absurd hj (Nat.not_lt_zero _)⟩
  ·intro e
   exact beq_iff_eq.2 (by have := e.1; omega)
 rintro m fr hh J ⟨i, r, rfl, hi, rfl, X, hr⟩ hJ
 by_cases hlt : i < min la.length lb.length
 ·obtain ⟨x, hx⟩ : ∃ x, la[i]? = some x := ⟨la[i]'(by omega), by simp [show i < la.length by omega]⟩
  obtain ⟨y, hy⟩ : ∃ y, lb[i]? = some y := ⟨lb[i]'(by omega), by simp [show i < lb.length by omega]⟩
  have hsucc := AllTo.succ (R := DEq) hx hy
  have d0 : (0 : Int) ≤ (i : Int) := by omega
  have d1 : (i : Int) < ((min la.length lb.length : Nat) : Int) := by omega
  have d2 : (i : Int) < (la.length : Int) := by omega
  have d3 : (i : Int) < (lb.length : Int) := by omega
  have w3 : IntKind.i64.wrap ((i : Int) + 1) = ((i + 1 : Nat) : Int) := by rw [IntWalk.i64_in _ (by omega)]; omega
  simp only [go_sem, ↓reduceIte, d1]
  refine MC.dregion ?_
  cases r with
  | false =>
   simp only [go_sem, ↓reduceIte, w3]
   exact hJ _ _ _ (by omega) ⟨i + 1, false, rfl, by omega, rfl, X, fun h => (by cases h), fun h => hr.2 (hsucc.1 h).1⟩
  | true =>
   obtain ⟨b1, t1, r1, e1, hb1, hg1⟩ := A0.at hx
   obtain ⟨b2, t2, r2, e2, hb2, hg2⟩ := B0.at hy
   cases e1
   cases e2
   have g1 := (X.get b1 hb1).trans hg1
   have g2 := (X.get b2 hb2).trans hg2
   obtain ⟨k1, k2⟩ := dc_cel.get hx
   obtain ⟨m1, m2⟩ := dc_cel.get hy
   simp only [dc, slW] at k1 m1
   simp only [go_sem, ↓reduceIte, d0, d2, d3, Int.toNat_natCast, g1, g2, k1, k2, m1, m2]
   refine MDCall.by (sDlEqual ((ha0 x (List.mem_of_getElem? hx)).ext X) ((hb0 y (List.mem_of_getElem? hy)).ext X)) ?_
   rintro u h3 ⟨⟨r, rfl, hr2⟩, X3⟩
   simp only [go_sem, ↓reduceIte, w3]
   exact hJ _ _ _ (by omega) ⟨i + 1, r, rfl, by omega, rfl, X.trans X3, fun h => hsucc.2 ⟨hr.1 rfl, hr2.1 h⟩, fun h => hr2.2 (hsucc.1 h).2⟩
 ·have d1 : ¬ (i : Int) < ((min la.length lb.length : Nat) : Int) := by omega
  have hall : r = true ↔ AllEq DEq la lb := hr.trans (AllTo.all (by omega))
  clear hJ hr
  simp only [go_sem, ↓reduceIte, d1]
  have A1 := A0.ext X
  have B1 := B0.ext X
  have I1 := I0.ext X
  have ha1 : ∀ r ∈ la, DlOk hh r := fun r hr => (ha0 r hr).ext X
  have hb1 : ∀ r ∈ lb, DlOk hh r := fun r hr => (hb0 r hr).ext X
  refine MC.loop (fun m fr h2 => ∃ (i : Nat) (w : Value), m = ids.length - i ∧ i ≤ ids.length ∧ fr = [(3, .slice xa la.length ea), (4, .slice xb lb.length eb), (5, .slice xi ids.length ei), (6, .int .i64 t), (7, .int .i64 T), (8, .bool r), (10, w), (67, .slice xi ids.length ei), (68, .int .i64 (ids.length : Nat)), (69, .int .i64 (i : Nat))] ∧ Ext hh h2 ∧ GL 9 gc h2 w (ids.take i) ∧ ∀ b, blkOf w = some b → hh.size ≤ b) ids.length
   ⟨0, _, rfl, Nat.zero_le _, rfl, Ext.refl _, GL.nil, by simp⟩ ?_
  rintro m fr h2 J ⟨i, w, rfl, hi, rfl, X2, G, hG⟩ hJ
  by_cases hlt : i < ids.length
  ·obtain ⟨x, hx⟩ : ∃ x, ids[i]? = some x := ⟨ids[i], by simp [hlt]⟩
   obtain ⟨b, t1, r1, e1, g1, g2, g3⟩ := I1.icAt hx
   cases e1
   have hg := (X2.get _ g1).trans g2
   have d0 : (0 : Int) ≤ (i : Int) := by omega
   have d2 : (i : Int) < (ids.length : Int) := by omega
   have w3 : IntKind.i64.wrap ((i : Int) + 1) = ((i + 1 : Nat) : Int) := by rw [IntWalk.i64_in _ (by omega)]; omega
   obtain ⟨v3, h3, e3, G3, hs3, ob3, ov3⟩ := gl_append gc_cel (by' := 128) (q := EC.q) G x (by rw [List.length_take]; omega) (by omega)
   simp only [gc] at e3
   rw [← take_snoc hx] at G3
   have X3 : Ext hh h3 := ⟨by have := X2.size; omega, fun b hb => (ob3 b (by have := X2.size; omega) (fun e => by have := hG b e; omega)).trans (X2.get b hb)⟩
   simp only [go_sem, ↓reduceIte, d0, d2, Int.toNat_natCast, hg, g3, lfill, e3, w3]
   exact hJ _ _ _ (by omega) ⟨i + 1, v3, rfl, by omega, rfl, X3, G3, fun b e => by have := ov3 b e; have := X2.size; omega⟩
  ·have d2 : ¬ (i : Int) < (ids.length : Int) := by omega
   obtain rfl : i = ids.length := by omega
   rw [List.take_length] at G
   clear hJ
   simp only [go_sem, ↓reduceIte, d2]
   refine MCall.by (sVOf G (by omega) T t) ?_
   rintro mv h3 ⟨M, X3⟩
   have X13 := X2.trans X3
   have A3 := A1.ext X13
   have B3 := B1.ext X13
   have I3 := I1.ext X13
   have ha3 : ∀ r ∈ la, DlOk h3 r := fun r hr => (ha1 r hr).ext X13
   have hb3 : ∀ r ∈ lb, DlOk h3 r := fun r hr => (hb1 r hr).ext X13
   have eM := fun hh => M.len (q := EC.q) (h := hh)
   simp only [go_sem, ↓reduceIte]
   refine MC.loop (fun m fr h4 => ∃ (i : Nat), m = ids.length - i ∧ i ≤ ids.length ∧ fr = [(3, .slice xa la.length ea), (4, .slice xb lb.length eb), (6, .int .i64 t), (7, .int .i64 T), (8, .bool r), (13, .int .i64 (((ids.take i).filter (mineB T t)).length : Nat)), (14, mv), (83, .slice xi ids.length ei), (84, .int .i64 (ids.length : Nat)), (85, .int .i64 (i : Nat))] ∧ h4 = h3) (ids.length)
    ⟨0, rfl, Nat.zero_le _, rfl, rfl⟩ ?_
   rintro m fr h4 J ⟨i, rfl, hi, rfl, rfl⟩ hJ
   by_cases hlt : i < ids.length
   ·obtain ⟨x, hx⟩ : ∃ x, ids[i]? = some x := ⟨ids[i], by simp [hlt]⟩
    obtain ⟨b, t1, r1, e1, g1, g2, g3⟩ := I3.icAt hx
    cases e1
    have d0 : (0 : Int) ≤ (i : Int) := by omega
    have d2 : (i : Int) < (ids.length : Int) := by omega
    have w3 : IntKind.i64.wrap ((i : Int) + 1) = ((i + 1 : Nat) : Int) := by rw [IntWalk.i64_in _ (by omega)]; omega
    have hft : (ids.take (i + 1)).filter (mineB T t) = (ids.take i).filter (mineB T t) ++ (if mineB T t x = true then [x] else []) := by
     rw [take_snoc hx, List.filter_append]; congr 1
     cases hm : mineB T t x <;> simp [hm]
    have no : mineB T t x = false → (((ids.take i).filter (mineB T t)).length : Int) = (((ids.take (i + 1)).filter (mineB T t)).length : Int) := fun hm => by rw [hft, hm]; simp
    simp only [go_sem, ↓reduceIte, d0, d2, Int.toNat_natCast, g2, g3]
    by_cases q1 : T < 1
    ·have hm : mineB T t x = false := by simp [mineB, ownB]; omega
     simp only [go_sem, ↓reduceIte, q1, decide_true, no hm, w3]
     exact hJ _ _ _ (by omega) ⟨i + 1, rfl, by omega, rfl, rfl⟩
    by_cases q2 : 64 < T
    ·have hm : mineB T t x = false := by simp [mineB, ownB]; omega
     simp only [go_sem, ↓reduceIte, q1, q2, decide_true, decide_false, no hm, w3]
     exact hJ _ _ _ (by omega) ⟨i + 1, rfl, by omega, rfl, rfl⟩
    by_cases q3 : x < 1
    ·have hm : mineB T t x = false := by simp [mineB, ownB]; omega
     simp only [go_sem, ↓reduceIte, q1, q2, q3, decide_true, decide_false, no hm, w3]
     exact hJ _ _ _ (by omega) ⟨i + 1, rfl, by omega, rfl, rfl⟩
    by_cases q4 : 2147483647 < x
    ·have hm : mineB T t x = false := by simp [mineB, ownB]; omega
     simp only [go_sem, ↓reduceIte, q1, q2, q3, q4, decide_true, decide_false, no hm, w3]
     exact hJ _ _ _ (by omega) ⟨i + 1, rfl, by omega, rfl, rfl⟩
    have z2 : ¬ (2 : Int) = 0 := by omega
    have et : x.tmod 2 = x % 2 := Int.tmod_eq_emod_of_nonneg (by omega)
    by_cases q5 : x % 2 = 0
    ·have hm : mineB T t x = false := by simp [mineB, ownB]; omega
     simp only [go_sem, ↓reduceIte, q1, q2, q3, q4, z2, et, q5, beq_self_eq_true, decide_true, decide_false, no hm, w3]
     exact hJ _ _ _ (by omega) ⟨i + 1, rfl, by omega, rfl, rfl⟩
    have q5' : (x % 2 == 0) = false := beq_eq_false_iff_ne.2 q5
    have eq : IntKind.i64.wrap (x.tdiv 2) = x / 2 := by
     rw [Int.tdiv_eq_ediv_of_nonneg (by omega)]
     exact IntWalk.i64_in _ (by omega)
    have zT : ¬ T = 0 := by omega
    have eo : (x / 2).tmod T = ownI x T := by rw [ownI, if_pos (by omega), Int.tmod_eq_emod_of_nonneg (by omega)]
    have hob : ownB x T = true := by simp [ownB]; omega
    by_cases q6 : ownI x T = t
    ·have hm : mineB T t x = true := by simp [mineB, hob, q6]
     have q6' : (t != t) = false := by simp
     rw [hm, if_pos rfl] at hft
     have hlen : ((ids.take (i + 1)).filter (mineB T t)).length = ((ids.take i).filter (mineB T t)).length + 1 := by rw [hft]; simp
     have hfull : (ids.filter (mineB T t))[((ids.take i).filter (mineB T t)).length]? = some x := by
      conv => lhs; rw [← List.take_append_drop (i + 1) ids, List.filter_append, List.take_append_drop, hft]
      simp
     have hkl : ((ids.take i).filter (mineB T t)).length < (ids.filter (mineB T t)).length := by
      rcases Nat.lt_or_ge ((ids.take i).filter (mineB T t)).length (ids.filter (mineB T t)).length with z | z
      ·exact z
      ·rw [List.getElem?_eq_none z] at hfull; cases hfull
     obtain ⟨b5, rfl, f1, f2⟩ := M.at hfull
     obtain ⟨k1, k2⟩ := gc_cel.get hfull
     simp only [gc] at k1
     have hc0 := gc_cel.cell (j := 0) hfull (by omega)
     simp only [gc, Nat.add_zero, List.getElem?_cons_zero] at hc0
     have n1 : (0 : Int) ≤ (((ids.take i).filter (mineB T t)).length : Int) := by omega
     have n2 : (((ids.take i).filter (mineB T t)).length : Int) < ((ids.filter (mineB T t)).length : Int) := by omega
     have n2' : ¬ ((ids.filter (mineB T t)).length : Int) ≤ (((ids.take i).filter (mineB T t)).length : Int) := by omega
     have hle := List.length_filter_le (mineB T t) (ids.take i)
     rw [List.length_take] at hle
     have w4 : IntKind.i64.wrap ((((ids.take i).filter (mineB T t)).length : Int) + 1) = (((ids.take (i + 1)).filter (mineB T t)).length : Int) := by rw [IntWalk.i64_in _ (by omega), hlen]; omega
     have hxx : (x != x) = false := by simp
     simp only [go_sem, ↓reduceIte, q1, q2, q3, q4, z2, et, q5', eq, zT, eo, q6, q6', decide_false, eM, n1, n2, n2', Int.toNat_natCast, f2, hc0, Nat.add_zero, hxx, w4, w3]
     exact hJ _ _ _ (by omega) ⟨i + 1, rfl, by omega, rfl, rfl⟩
    ·have q6' : (ownI x T != t) = true := by simpa using q6
     have hm : mineB T t x = false := by simp [mineB, hob]; exact q6
     simp only [go_sem, ↓reduceIte, q1, q2, q3, q4, z2, et, q5', eq, zT, eo, q6', decide_false, no hm, w3]
     exact hJ _ _ _ (by omega) ⟨i + 1, rfl, by omega, rfl, rfl⟩
   ·have d2 : ¬ (i : Int) < (ids.length : Int) := by omega
    obtain rfl : i = ids.length := by omega
    rw [List.take_length]
    clear hJ
    simp only [go_sem, ↓reduceIte, d2]
    refine MCall.by (sVSame A3 B3 (by omega) ha3 hb3) ?_
    rintro u h5 ⟨⟨r1, rfl, hr1⟩, X5⟩
    have e1 : (r1 == r) = true := by
     have : r1 = r := by rw [Bool.eq_iff_iff, hr1, hall]
     simp [this]
    simp only [go_sem, ↓reduceIte, e1]
    refine MCall.by (sVSame (A3.ext X5) (A3.ext X5) (by omega) (fun r hr => (ha3 r hr).ext X5) (fun r hr => (ha3 r hr).ext X5)) ?_
    rintro u h6 ⟨⟨r2, rfl, hr2⟩, X6⟩
    obtain rfl := hr2.2 (AllEq.refl DEq.refl la)
    simp only [go_sem, ↓reduceIte, eM, beq_self_eq_true]

theorem larg_two {h : LHeap} {n : Nat} {lv : Value} (hl : LArg Tryz.prog h n 50 lv) : ∃ va vb vi la lb ids t T, lv = .agg #[va, vb, vi, .int .i64 t, .int .i64 T] ∧ (SL 8 dc h va la ∧ ∀ r ∈ la, DlOk h r) ∧ (SL 8 dc h vb lb ∧ ∀ r ∈ lb, DlOk h r) ∧ SL 1 ic h vi ids := by
 rcases hl with ⟨g1, hl⟩ | ⟨g1, hl⟩
 ·obtain ⟨⟨av⟩, rfl, hl⟩ := hl
  obtain ⟨_, parts, _, h1, h2, h3⟩ := LRd_struct Tryz.underlying50 hl
  match parts, h2 with
  | [p0, p1, p2, p3, p4], _ =>
   obtain ⟨va, la, rfl, ha⟩ := LRd_dls (h3 0 _ p0 rfl rfl).2
   obtain ⟨vb, lb, rfl, hb⟩ := LRd_dls (h3 1 _ p1 rfl rfl).2
   obtain ⟨vi, ids, rfl, hi, _⟩ := LRd_intsV (h3 2 _ p2 rfl rfl).2
   obtain ⟨t, rfl, _⟩ := LRd_int Tryz.underlying3 (h3 3 _ p3 rfl rfl).2
   obtain ⟨T, rfl, _⟩ := LRd_int Tryz.underlying3 (h3 4 _ p4 rfl rfl).2
   refine ⟨va, vb, vi, la, lb, ids, t, T, ?_, ha, hb, hi⟩
   rw [show av = [va, vb, vi, .int .i64 t, .int .i64 T] from h1]
 ·simp [isAggP, Tryz.underlying50] at g1
theorem lawSame (h : LHeap) (lvs : List Value) (hl : LArgs Tryz.prog h 6 [50] lvs) : LCalls EC 6 lvs h fun v _ => v = .bool true := by
 obtain ⟨v0, r0, rfl, h0, hr0⟩ := LArgs_cons hl
 obtain rfl := LArgs_nil hr0
 obtain ⟨va, vb, vi, la, lb, ids, t, T, rfl, ⟨A, ha⟩, ⟨B, hb⟩, I⟩ := larg_two h0
 exact sViewSame A B ha hb I T t
end Go.E1
