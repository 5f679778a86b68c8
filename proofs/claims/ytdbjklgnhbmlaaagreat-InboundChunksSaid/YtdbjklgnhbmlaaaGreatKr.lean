/-
  Texts joined: NX, NY, NZ, NT, Sat, OA, OB.
-/
import Derived.Test.YtdbjklgnhbmlaaaGreatKq
/-
 Layers 1 and 9: numbers' bytes, frames' bytes.
-/
namespace Go.E1
open Go Go.Proofs Go.M
set_option linter.unusedSimpArgs false

theorem shr8 (x : Nat) : shrI .u64 (x : Int) 8 = ((x / 256 : Nat) : Int) := by
 unfold shrI
 rw [show (2 : Int) ^ (min (8 : Int).toNat IntKind.u64.bits) = 256 by decide, Int.fdiv_eq_ediv_of_nonneg _ (by decide)]
 rfl
theorem u8_wrap (x : Nat) : IntKind.u8.wrap (x : Int) = ((x % 256 : Nat) : Int) := by
 simp only [IntKind.wrap, IntKind.signed, IntKind.bits]
 simp
theorem bytes_u8 (x : Nat) : (((UInt8.ofNat (x % 256)).toNat : Nat) : Int) = ((x % 256 : Nat) : Int) := by
 simp
theorem sBig3 {h : LHeap} {x : Nat} : LCalls EC 74 [.int .u64 (x : Nat), .int .i64 3] h fun u h' => OutAt h' h.size u (bytesOfN x 3) ∧ Ext h h' := by
 refine LCalls.enter (lf := lf74) rfl rfl (by simp [lf74]) ?_
 have hm : lexec EC.q (.makeSlice 1 1 [.int .u8 0] (.int .i64 3) (.int .i64 3)) h = some (.slice (some ⟨h.size, 0, none⟩) 3 1, h.push (.cells [.int .u8 0, .int .u8 0, .int .u8 0] true true)) := by
  simp [lexec, roomOk]
 simp only [go_sem, lf74, ↓reduceIte, hm]
 have base : ∀ hh : LHeap, hh.size = h.size + 1 → True := fun _ _ => trivial
 refine MC.loop (fun m fr hh => hh.size = h.size + 1 ∧ Ext h hh ∧ ((m = 3 ∧ fr = [(0, .int .u64 (x : Nat)), (5, .slice (some ⟨h.size, 0, none⟩) 3 1), (6, .int .i64 (2))] ∧ hh.get h.size = some (.cells [.int .u8 0, .int .u8 0, .int .u8 0] true true)) ∨ (m = 2 ∧ fr = [(0, .int .u64 ((x / 256) : Nat)), (5, .slice (some ⟨h.size, 0, none⟩) 3 1), (6, .int .i64 (1))] ∧ hh.get h.size = some (.cells [.int .u8 0, .int .u8 0, .int .u8 (x % 256 : Nat)] true true)) ∨ (m = 1 ∧ fr = [(0, .int .u64 (((x / 256) / 256) : Nat)), (5, .slice (some ⟨h.size, 0, none⟩) 3 1), (6, .int .i64 (0))] ∧ hh.get h.size = some (.cells [.int .u8 0, .int .u8 ((x / 256) % 256 : Nat), .int .u8 (x % 256 : Nat)] true true)) ∨ (m = 0 ∧ fr = [(0, .int .u64 ((((x / 256) / 256) / 256) : Nat)), (5, .slice (some ⟨h.size, 0, none⟩) 3 1), (6, .int .i64 (-1))] ∧ hh.get h.size = some (.cells [.int .u8 (((x / 256) / 256) % 256 : Nat), .int .u8 ((x / 256) % 256 : Nat), .int .u8 (x % 256 : Nat)] true true)))) 3 ⟨by simp, Ext.push _ _, .inl ⟨rfl, rfl, by simp⟩⟩ ?_
 rintro m fr hh J ⟨hs, X, ⟨rfl, rfl, g⟩ | ⟨rfl, rfl, g⟩ | ⟨rfl, rfl, g⟩ | ⟨rfl, rfl, g⟩⟩ hJ
 ·have w1 : IntKind.i64.wrap (2 - 1) = 1 := by decide
  simp only [go_sem, ↓reduceIte, g, u8_wrap, shr8, w1]
  exact hJ 2 _ _ (by omega) ⟨by simpa using hs, X.set (Nat.le_refl _) _, .inr (.inl ⟨rfl, rfl, by simp⟩)⟩
 ·have w1 : IntKind.i64.wrap (1 - 1) = 0 := by decide
  simp only [go_sem, ↓reduceIte, g, u8_wrap, shr8, w1]
  exact hJ 1 _ _ (by omega) ⟨by simpa using hs, X.set (Nat.le_refl _) _, .inr (.inr (.inl ⟨rfl, rfl, by simp⟩))⟩
 ·have w1 : IntKind.i64.wrap (0 - 1) = -1 := by decide
  simp only [go_sem, ↓reduceIte, g, u8_wrap, shr8, w1]
  exact hJ 0 _ _ (by omega) ⟨by simpa using hs, X.set (Nat.le_refl _) _, .inr (.inr (.inr (⟨rfl, rfl, by simp⟩)))⟩
 ·simp only [go_sem, ↓reduceIte, g]
  refine ⟨.inr ⟨h.size, rfl, Nat.le_refl _, by omega, ?_⟩, X⟩
  rw [g]
  simp only [bytesOfN, bv, List.map_append, List.map_cons, List.map_nil, bytes_u8, List.nil_append, List.cons_append]
theorem sBig4 {h : LHeap} {x : Nat} : LCalls EC 74 [.int .u64 (x : Nat), .int .i64 4] h fun u h' => OutAt h' h.size u (bytesOfN x 4) ∧ Ext h h' := by
 refine LCalls.enter (lf := lf74) rfl rfl (by simp [lf74]) ?_
 have hm : lexec EC.q (.makeSlice 1 1 [.int .u8 0] (.int .i64 4) (.int .i64 4)) h = some (.slice (some ⟨h.size, 0, none⟩) 4 1, h.push (.cells [.int .u8 0, .int .u8 0, .int .u8 0, .int .u8 0] true true)) := by
  simp [lexec, roomOk]
 simp only [go_sem, lf74, ↓reduceIte, hm]
 have base : ∀ hh : LHeap, hh.size = h.size + 1 → True := fun _ _ => trivial
 refine MC.loop (fun m fr hh => hh.size = h.size + 1 ∧ Ext h hh ∧ ((m = 4 ∧ fr = [(0, .int .u64 (x : Nat)), (5, .slice (some ⟨h.size, 0, none⟩) 4 1), (6, .int .i64 (3))] ∧ hh.get h.size = some (.cells [.int .u8 0, .int .u8 0, .int .u8 0, .int .u8 0] true true)) ∨ (m = 3 ∧ fr = [(0, .int .u64 ((x / 256) : Nat)), (5, .slice (some ⟨h.size, 0, none⟩) 4 1), (6, .int .i64 (2))] ∧ hh.get h.size = some (.cells [.int .u8 0, .int .u8 0, .int .u8 0, .int .u8 (x % 256 : Nat)] true true)) ∨ (m = 2 ∧ fr = [(0, .int .u64 (((x / 256) / 256) : Nat)), (5, .slice (some ⟨h.size, 0, none⟩) 4 1), (6, .int .i64 (1))] ∧ hh.get h.size = some (.cells [.int .u8 0, .int .u8 0, .int .u8 ((x / 256) % 256 : Nat), .int .u8 (x % 256 : Nat)] true true)) ∨ (m = 1 ∧ fr = [(0, .int .u64 ((((x / 256) / 256) / 256) : Nat)), (5, .slice (some ⟨h.size, 0, none⟩) 4 1), (6, .int .i64 (0))] ∧ hh.get h.size = some (.cells [.int .u8 0, .int .u8 (((x / 256) / 256) % 256 : Nat), .int .u8 ((x / 256) % 256 : Nat), .int .u8 (x % 256 : Nat)] true true)) ∨ (m = 0 ∧ fr = [(0, .int .u64 (((((x / 256) / 256) / 256) / 256) : Nat)), (5, .slice (some ⟨h.size, 0, none⟩) 4 1), (6, .int .i64 (-1))] ∧ hh.get h.size = some (.cells [.int .u8 ((((x / 256) / 256) / 256) % 256 : Nat), .int .u8 (((x / 256) / 256) % 256 : Nat), .int .u8 ((x / 256) % 256 : Nat), .int .u8 (x % 256 : Nat)] true true)))) 4 ⟨by simp, Ext.push _ _, .inl ⟨rfl, rfl, by simp⟩⟩ ?_
 rintro m fr hh J ⟨hs, X, ⟨rfl, rfl, g⟩ | ⟨rfl, rfl, g⟩ | ⟨rfl, rfl, g⟩ | ⟨rfl, rfl, g⟩ | ⟨rfl, rfl, g⟩⟩ hJ
 ·have w1 : IntKind.i64.wrap (3 - 1) = 2 := by decide
  simp only [go_sem, ↓reduceIte, g, u8_wrap, shr8, w1]
  exact hJ 3 _ _ (by omega) ⟨by simpa using hs, X.set (Nat.le_refl _) _, .inr (.inl ⟨rfl, rfl, by simp⟩)⟩
 ·have w1 : IntKind.i64.wrap (2 - 1) = 1 := by decide
  simp only [go_sem, ↓reduceIte, g, u8_wrap, shr8, w1]
  exact hJ 2 _ _ (by omega) ⟨by simpa using hs, X.set (Nat.le_refl _) _, .inr (.inr (.inl ⟨rfl, rfl, by simp⟩))⟩
 ·have w1 : IntKind.i64.wrap (1 - 1) = 0 := by decide
  simp only [go_sem, ↓reduceIte, g, u8_wrap, shr8, w1]
  exact hJ 1 _ _ (by omega) ⟨by simpa using hs, X.set (Nat.le_refl _) _, .inr (.inr (.inr (.inl ⟨rfl, rfl, by simp⟩)))⟩
 ·have w1 : IntKind.i64.wrap (0 - 1) = -1 := by decide
  simp only [go_sem, ↓reduceIte, g, u8_wrap, shr8, w1]
  exact hJ 0 _ _ (by omega) ⟨by simpa using hs, X.set (Nat.le_refl _) _, .inr (.inr (.inr (.inr (⟨rfl, rfl, by simp⟩))))⟩
 ·simp only [go_sem, ↓reduceIte, g]
  refine ⟨.inr ⟨h.size, rfl, Nat.le_refl _, by omega, ?_⟩, X⟩
  rw [g]
  simp only [bytesOfN, bv, List.map_append, List.map_cons, List.map_nil, bytes_u8, List.nil_append, List.cons_append]

theorem sRight {h : LHeap} {a b c : Int} {pv : Value} {pl : Bytes} (hv : BytesAt h pv pl) :
  LCalls EC 73 [.agg #[.int .i64 a, .int .i64 b, .int .i64 c, pv]] h fun u h' => u = .bool (decide (0 ≤ a) && decide (a ≤ 255) && decide (0 ≤ b) && decide (b ≤ 255) && decide (0 ≤ c) && decide (c ≤ 2147483647) && decide ((pl.length : Int) ≤ 16777215)) ∧ Ext h h' := by
 refine LCalls.enter (lf := lf73) rfl rfl (by simp [lf73]) ?_
 have eL := fun hh => hv.len (q := EC.q) (h := hh)
 have X1 : Ext h (h.push (.cells [.int .i64 a, .int .i64 b, .int .i64 c, pv] true true)) := Ext.push _ _
 by_cases k0 : 0 ≤ a
 case neg =>
  simp only [k0, decide_true, decide_false, go_sem, lf73, ↓reduceIte, eL, Bool.and_true, Bool.and_false, Bool.true_and, Bool.false_and]
  exact X1
 by_cases k1 : a ≤ 255
 case neg =>
  simp only [k0, k1, decide_true, decide_false, go_sem, lf73, ↓reduceIte, eL, Bool.and_true, Bool.and_false, Bool.true_and, Bool.false_and]
  exact X1
 by_cases k2 : 0 ≤ b
 case neg =>
  simp only [k0, k1, k2, decide_true, decide_false, go_sem, lf73, ↓reduceIte, eL, Bool.and_true, Bool.and_false, Bool.true_and, Bool.false_and]
  exact X1
 by_cases k3 : b ≤ 255
 case neg =>
  simp only [k0, k1, k2, k3, decide_true, decide_false, go_sem, lf73, ↓reduceIte, eL, Bool.and_true, Bool.and_false, Bool.true_and, Bool.false_and]
  exact X1
 by_cases k4 : 0 ≤ c
 case neg =>
  simp only [k0, k1, k2, k3, k4, decide_true, decide_false, go_sem, lf73, ↓reduceIte, eL, Bool.and_true, Bool.and_false, Bool.true_and, Bool.false_and]
  exact X1
 by_cases k5 : c ≤ 2147483647
 case neg =>
  simp only [k0, k1, k2, k3, k4, k5, decide_true, decide_false, go_sem, lf73, ↓reduceIte, eL, Bool.and_true, Bool.and_false, Bool.true_and, Bool.false_and]
  exact X1
 by_cases k6 : (pl.length : Int) ≤ 16777215
 case neg =>
  simp only [k0, k1, k2, k3, k4, k5, k6, decide_true, decide_false, go_sem, lf73, ↓reduceIte, eL, Bool.and_true, Bool.and_false, Bool.true_and, Bool.false_and]
  exact X1
 simp only [k0, k1, k2, k3, k4, k5, k6, decide_true, go_sem, lf73, ↓reduceIte, eL, Bool.and_true, Bool.true_and]
 exact X1

theorem sBytesF {h : LHeap} {f : Frm} {fv : Value} (hv : BytesAt h fv f.pl) (hf : frOk f) (hpl : f.pl.length ≤ 16384) :
  LCalls EC 45 [frV f fv] h fun u h' => ∃ w, u = .tuple #[w, .int .i64 0] ∧ OutAt h' h.size w (frBytes f) ∧ Ext h h' := by
 refine LCalls.enter (lf := lf45) rfl rfl (by simp [lf45]) ?_
 obtain ⟨va, vn, ve, rfl⟩ := hv.shape
 have eL := fun hh => hv.len (q := EC.q) (h := hh)
 obtain ⟨f1, f2, f3, f4⟩ := hf
 have X1 : Ext h (h.push (.cells [.int .i64 (f.ty : Nat), .int .i64 (f.fl : Nat), .int .i64 (f.st : Nat), .slice va vn ve] true true)) := Ext.push _ _
 simp only [frV, go_sem, lf45, ↓reduceIte]
 refine MCall.by (sRight (hv.ext X1)) ?_
 rintro u h2 ⟨rfl, X2⟩
 have g2 := X2.get h.size (by simp)
 simp only [LHeap.get_push, ↓reduceIte] at g2
 have c1 : (0 : Int) ≤ (f.ty : Nat) := by omega
 have c2 : ((f.ty : Nat) : Int) ≤ 255 := by omega
 have c3 : (0 : Int) ≤ (f.fl : Nat) := by omega
 have c4 : ((f.fl : Nat) : Int) ≤ 255 := by omega
 have c5 : (0 : Int) ≤ (f.st : Nat) := by omega
 have c6 : ((f.st : Nat) : Int) ≤ 2147483647 := by omega
 have c7 : ((f.pl.length : Nat) : Int) ≤ 16777215 := by omega
 simp only [c1, c2, c3, c4, c5, c6, c7, decide_true, Bool.and_self, go_sem, ↓reduceIte]
 refine MC.dregion ?_
 have s2 := X2.size
 simp only [LHeap.size_push] at s2
 have hn : ¬ h.size = h2.size := by omega
 have V : ∀ (x y : Value) (b : Bool), veq x y = b → veq x y = b := fun _ _ _ e => e
 simp only [go_sem, ↓reduceIte, g2, u8_wrap, eL, hn, veq, Bool.and_self, beq_self_eq_true]
 generalize hq : h2.push _ = h3
 have X3 : Ext h2 h3 := by rw [← hq]; exact Ext.push _ _
 have s3 : h3.size = h2.size + 1 := by rw [← hq]; simp
 have gp3 : h3.get h2.size = some (.cells [.int .u8 (f.ty % 256 : Nat), .int .u8 (f.fl % 256 : Nat)] true true) := by rw [← hq]; simp
 clear hq
 have g3 := (X3.get h.size (by omega)).trans g2
 have w1 : IntKind.u64.wrap ((f.pl.length : Nat) : Int) = ((f.pl.length : Nat) : Int) := u64_in (by omega)
 have w2 : IntKind.u64.wrap ((f.st : Nat) : Int) = ((f.st : Nat) : Int) := u64_in (by omega)
 simp only [go_sem, ↓reduceIte, g2, g3, u8_wrap, eL, hn, w1, veq, Bool.and_self, beq_self_eq_true]
 refine MDCall.by sBig3 ?_
 rintro u h4 ⟨O4, X4⟩
 have s4 := X4.size
 have g4 := (X4.get h.size (by omega)).trans g3
 obtain ⟨aa, an, ae, rfl⟩ := O4.bytes.shape
 simp only [go_sem, ↓reduceIte, g2, g3, g4, u8_wrap, eL, hn, w2, veq, Bool.and_self, beq_self_eq_true]
 refine MDCall.by sBig4 ?_
 rintro u h5 ⟨O5, X5⟩
 have s5 := X5.size
 have g5 := (X5.get h.size (by omega)).trans g4
 have hn5 : ¬ h.size = h5.size := by omega
 obtain ⟨ba, bn, be, rfl⟩ := O5.bytes.shape
 simp only [go_sem, ↓reduceIte, g2, g3, g4, g5, u8_wrap, eL, hn, hn5, veq, Bool.and_self, beq_self_eq_true]
 have Xp : Ext h5 (h5.push (.cells [.slice aa an ae, .slice (some ⟨h2.size, 0, none⟩) 2 1, .slice ba bn be, .slice va vn ve] true true)) := Ext.push _ _
 have X25 := (X3.trans X4).trans X5
 have X05 := ((X1.trans X2).trans X25).trans Xp
 have hfl : ([bytesOfN f.pl.length 3, [UInt8.ofNat f.ty, UInt8.ofNat f.fl], bytesOfN f.st 4, f.pl] : List Bytes).flatten = frBytes f := by simp [frBytes]
 have hlen : (frBytes f).length = 9 + f.pl.length := by
  simp only [frBytes, bytesOfN, List.length_append, List.length_cons, List.length_nil]; omega
 have gp5 : (h5.push (.cells [.slice aa an ae, .slice (some ⟨h2.size, 0, none⟩) 2 1, .slice ba bn be, .slice va vn ve] true true)).get h2.size = some (.cells [.int .u8 (f.ty % 256 : Nat), .int .u8 (f.fl % 256 : Nat)] true true) := by
  rw [Xp.get h2.size (by omega), X5.get h2.size (by omega), X4.get h2.size (by omega)]; exact gp3
 have hB : BLB (h5.push (.cells [.slice aa an ae, .slice (some ⟨h2.size, 0, none⟩) 2 1, .slice ba bn be, .slice va vn ve] true true)) (.slice (some ⟨h5.size, 0, none⟩) 4 1) [bytesOfN f.pl.length 3, [UInt8.ofNat f.ty, UInt8.ofNat f.fl], bytesOfN f.st 4, f.pl] := by
  refine .inr ⟨h5.size, [.slice aa an ae, .slice (some ⟨h2.size, 0, none⟩) 2 1, .slice ba bn be, .slice va vn ve], true, true, rfl, by simp, by simp, rfl, ?_⟩
  intro i u l h1 h2'
  match i with
  | 0 => cases h1; cases h2'; exact (O4.bytes.ext X5).ext Xp
  | 1 =>
   cases h1; cases h2'
   refine .inr ⟨h2.size, 0, [.int .u8 (f.ty % 256 : Nat), .int .u8 (f.fl % 256 : Nat)], true, true, rfl, by simp; omega, gp5, by simp, ?_⟩
   simp [bv]
  | 2 => cases h1; cases h2'; exact O5.bytes.ext Xp
  | 3 => cases h1; cases h2'; exact hv.ext X05
  | _ + 4 => simp at h1
 refine MDCall.by (sConcat hB (by rw [hfl]; omega) (by simp)) ?_
 rintro u h6 ⟨O6, X6⟩
 rw [hfl] at O6
 have s6 := X6.size
 obtain ⟨ca, cn, ce, rfl⟩ := O6.bytes.shape
 simp only [go_sem, ↓reduceIte]
 exact ⟨_, rfl, O6.low (by simp; omega), X05.trans X6⟩
end Go.E1

/-
 Layer 23: a law's frames.
-/
namespace Go.E1
open Go Go.Proofs Go.M
set_option linter.unusedSimpArgs false

theorem BA.bytes {h : LHeap} {v : Value} {l : Bytes} (a : BA h v l) : BytesAt h v l := by
 rcases a with ⟨h1, h2⟩ | ⟨b, o, h1, B⟩
 ·exact .inl ⟨h1, 0, h2⟩
 ·obtain ⟨h2, cs, t, r, h3, h4, h5⟩ := B
  exact .inr ⟨b, o, cs, t, r, h1, h2, h3, h4, h5⟩
/-- A list, wherever it stands. -/
def SL {α : Type} (k : Nat) (c : α → List Value) (h : LHeap) (v : Value) (l : List α) : Prop := (l = [] ∧ v = .slice none 0 0) ∨ ∃ b t r, v = .slice (some ⟨b, 0, none⟩) l.length k ∧ b < h.size ∧ h.get b = some (.cells (l.flatMap c) t r)
theorem GL.sl {α : Type} {k : Nat} {c : α → List Value} {h : LHeap} {v : Value} {l : List α} (g : GL k c h v l) : SL k c h v l := by
 rcases g with h1 | ⟨b, h1, h2, h3⟩
 ·exact .inl h1
 ·exact .inr ⟨b, true, true, h1, h2, h3⟩
theorem SL.len {α : Type} {k : Nat} {c : α → List Value} {q : EqF} {h hh : LHeap} {v : Value} {l : List α} (g : SL k c hh v l) : lexec q (.lenS v) h = some (.int .i64 l.length, h) := by
 rcases g with ⟨rfl, rfl⟩ | ⟨b, _, _, rfl, _⟩ <;> rfl
theorem SL.ext {α : Type} {k : Nat} {c : α → List Value} {h h' : LHeap} {v : Value} {l : List α} (g : SL k c h v l) (X : Ext h h') : SL k c h' v l := by
 rcases g with h1 | ⟨b, t, r, h1, h2, h3⟩
 ·exact .inl h1
 ·exact .inr ⟨b, t, r, h1, Nat.lt_of_lt_of_le h2 X.size, by rw [X.get b h2]; exact h3⟩
theorem SL.at {α : Type} {k : Nat} {c : α → List Value} {h : LHeap} {v : Value} {l : List α} (g : SL k c h v l) {i : Nat} {x : α} (hx : l[i]? = some x) : ∃ b t r, v = .slice (some ⟨b, 0, none⟩) l.length k ∧ b < h.size ∧ h.get b = some (.cells (l.flatMap c) t r) := by
 rcases g with ⟨rfl, _⟩ | h1
 ·simp at hx
 ·exact h1

/-! ### What comes in -/
abbrev RF := (Int × Int × Int) × SlT × Bytes
def rfc (r : RF) : List Value := [.int .i64 r.1.1, .int .i64 r.1.2.1, .int .i64 r.1.2.2, slV r.2.1]
theorem rfc_cel : Cel 4 rfc := ⟨fun _ => rfl, fun _ => rfl, by omega⟩
theorem cells_frame : Tryz.prog.cellsOf 81 = 4 := by kernel_rfl
theorem bytes_frame : Tryz.prog.bytesOf 81 = 48 := by kernel_rfl
theorem LRd_frame {h : LHeap} {n : Nat} {cs : List Value} (hl : LRd Tryz.prog h n 81 cs) : ∃ r : RF, cs = rfc r ∧ BA h (slV r.2.1) r.2.2 ∧ r.2.2.length ≤ reachBytes := by
 obtain ⟨m, parts, _, h1, h2, h3⟩ := LRd_struct Tryz.underlying81 hl
 match parts, h2 with
 | [p, q, r, s], _ =>
  obtain ⟨a, rfl, _⟩ := LRd_int Tryz.underlying3 (h3 0 _ p rfl rfl).2
  obtain ⟨b, rfl, _⟩ := LRd_int Tryz.underlying3 (h3 1 _ q rfl rfl).2
  obtain ⟨c, rfl, _⟩ := LRd_int Tryz.underlying3 (h3 2 _ r rfl rfl).2
  obtain ⟨v, l, rfl, hb, hle⟩ := LRd_bytes (h3 3 _ s rfl rfl).2
  obtain ⟨x, y, z, rfl⟩ := (BA.bytes hb).shape
  exact ⟨((a, b, c), (x, y, z), l), h1, hb, hle⟩
theorem larg_frames {h : LHeap} {n : Nat} {lv : Value} (hl : LArg Tryz.prog h n 77 lv) : ∃ l, SL 4 rfc h lv l ∧ (∀ r ∈ l, BA h (slV r.2.1) r.2.2 ∧ r.2.2.length ≤ reachBytes) ∧ l.length * 48 ≤ reachBytes := by
 rcases hl with ⟨g1, _⟩ | ⟨_, hl⟩
 ·simp [isAggP, Tryz.underlying77] at g1
 ·rcases LRd_slice' Tryz.underlying77 hl with h1 | ⟨b, len, css, m, rfl, h0, h1, h2, h3, h4, h5⟩
  ·simp only [List.cons.injEq, and_true] at h1
   subst h1
   exact ⟨[], .inl ⟨rfl, rfl⟩, by simp, by simp⟩
  ·simp only [List.cons.injEq, and_true] at h0
   subst h0
   rw [cells_frame] at h5 ⊢
   rw [bytes_frame] at h4
   have key : ∀ (css : List (List Value)), (∀ c ∈ css, c.length = 4 ∧ LRd Tryz.prog h m 81 c) → ∃ l : List RF, css.flatten = l.flatMap rfc ∧ l.length = css.length ∧ ∀ r ∈ l, BA h (slV r.2.1) r.2.2 ∧ r.2.2.length ≤ reachBytes := by
    intro css
    induction css with
    | nil => intro _; exact ⟨[], rfl, rfl, by simp⟩
    | cons c css ih =>
     intro hc
     obtain ⟨l, h6, h7, h8⟩ := ih fun x hx => hc x (List.mem_cons_of_mem _ hx)
     obtain ⟨r, rfl, hr⟩ := LRd_frame (hc c (List.mem_cons_self ..)).2
     refine ⟨r :: l, by simp [h6], by simp [h7], fun x hx => ?_⟩
     rcases List.mem_cons.1 hx with rfl | hx
     ·exact hr
     ·exact h8 x hx
   obtain ⟨l, h6, h7, h8⟩ := key css h5
   exact ⟨l, .inr ⟨b, _, _, by rw [h7, h3], h1, by rw [← h6]; exact h2⟩, h8, by rw [h7, h3]; exact h4.2⟩

def rightR (r : RF) : Bool := decide (0 ≤ r.1.1) && decide (r.1.1 ≤ 255) && decide (0 ≤ r.1.2.1) && decide (r.1.2.1 ≤ 255) && decide (0 ≤ r.1.2.2) && decide (r.1.2.2 ≤ 2147483647) && decide ((r.2.2.length : Int) ≤ 16777215)
def sumR (l : List RF) : Nat := (l.map fun r => 10 + r.2.2.length).sum
theorem sumR_append (a b : List RF) : sumR (a ++ b) = sumR a + sumR b := by simp [sumR]
theorem sSmall {h : LHeap} {v : Value} {l : List RF} (S : SL 4 rfc h v l) (hb : ∀ r ∈ l, BytesAt h (slV r.2.1) r.2.2 ∧ r.2.2.length ≤ reachBytes) (hl : l.length * 48 ≤ reachBytes) :
  LCalls EC 44 [v] h fun u h' => (∃ r : Bool, u = .bool r ∧ (r = true → (∀ x ∈ l, rightR x = true) ∧ sumR l ≤ 600)) ∧ Ext h h' := by
 have hrb : reachBytes ≤ 140737488355328 := by decide
 refine LCalls.enter (lf := lf44) rfl rfl (by simp [lf44]) ?_
 have eL := fun hh => S.len (q := EC.q) (h := hh)
 simp only [go_sem, lf44, ↓reduceIte, eL]
 refine MC.loop (fun m fr hh => ∃ i tl, m = l.length - i ∧ i ≤ l.length ∧ fr = (3, .int .i64 (sumR (l.take i) : Nat)) :: (6, v) :: (7, .int .i64 (l.length : Nat)) :: (8, .int .i64 (i : Nat)) :: tl ∧ Ext h hh ∧ sumR (l.take i) ≤ 600 ∧ ∀ x ∈ l.take i, rightR x = true) l.length
  ⟨0, [], rfl, Nat.zero_le _, rfl, Ext.refl _, by simp [sumR], by simp⟩ ?_
 rintro m fr hh J ⟨i, tl, rfl, hi, rfl, X, hs, hr⟩ hJ
 by_cases hlt : i < l.length
 ·obtain ⟨x, hx⟩ : ∃ x, l[i]? = some x := ⟨l[i], by simp [hlt]⟩
  obtain ⟨b, t, r, rfl, g1, g2⟩ := S.at hx
  obtain ⟨k1, k2⟩ := rfc_cel.get hx
  obtain ⟨hxb, hxl⟩ := hb x (List.mem_of_getElem? hx)
  obtain ⟨⟨a1, a2, a3⟩, ⟨p1, p2, p3⟩, pl⟩ := x
  simp only [rfc, slV] at k1 hxb hxl
  have c0 : (0 : Int) ≤ (i : Int) := by omega
  have c1 : (i : Int) < (l.length : Int) := by omega
  have hg : hh.get b = _ := (X.get _ g1).trans g2
  have hnb : ¬ b = hh.size := by have := X.size; omega
  have hv := hxb.ext X
  have eP := fun h' => hv.len (q := EC.q) (h := h')
  have w1 : IntKind.i64.wrap (10 + (pl.length : Int)) = ((10 + pl.length : Nat) : Int) := by rw [IntWalk.i64_in _ (by omega)]; omega
  have hsum : sumR (l.take (i + 1)) = sumR (l.take i) + (10 + pl.length) := by
   rw [List.take_add_one, hx, sumR_append]; simp [sumR]
  have w2 : IntKind.i64.wrap (((sumR (l.take i) : Nat) : Int) + ((10 + pl.length : Nat) : Int)) = ((sumR (l.take (i + 1)) : Nat) : Int) := by rw [IntWalk.i64_in _ (by omega), hsum]; omega
  have w3 : IntKind.i64.wrap ((i : Int) + 1) = ((i + 1 : Nat) : Int) := by rw [IntWalk.i64_in _ (by omega)]; omega
  simp only [go_sem, ↓reduceIte, c0, c1, Int.toNat_natCast, hg, k1, k2, hnb, eP, w1, w2]
  generalize hq : LHeap.set _ hh.size _ = h1
  have X1 : Ext hh h1 := by rw [← hq]; exact (Ext.push _ _).set (Nat.le_refl _) _
  have g1' : h1.get hh.size = some (.cells [.int .i64 a1, .int .i64 a2, .int .i64 a3, .slice p1 p2 p3] true true) := by rw [← hq]; simp
  clear hq
  by_cases h600 : 600 < sumR (l.take (i + 1))
  ·have d : (600 : Int) < ((sumR (l.take (i + 1)) : Nat) : Int) := by omega
   have d' : ((sumR (l.take (i + 1)) : Nat) : Int) > 600 := by omega
   simp only [d, d', decide_true, go_sem, ↓reduceIte]
   exact ⟨⟨_, rfl, fun q => by cases q⟩, X.trans X1⟩
  ·have d : ¬ (600 : Int) < ((sumR (l.take (i + 1)) : Nat) : Int) := by omega
   have d' : ¬ ((sumR (l.take (i + 1)) : Nat) : Int) > 600 := by omega
   simp only [d, d', decide_false, go_sem, ↓reduceIte, g1']
   refine MCall.by (sRight (hv.ext X1)) ?_
   rintro u h2 ⟨rfl, X2⟩
   have hrr : rightR ((a1, a2, a3), (p1, p2, p3), pl) = (decide (0 ≤ a1) && decide (a1 ≤ 255) && decide (0 ≤ a2) && decide (a2 ≤ 255) && decide (0 ≤ a3) && decide (a3 ≤ 2147483647) && decide ((pl.length : Int) ≤ 16777215)) := rfl
   rw [← hrr]
   cases hR : rightR ((a1, a2, a3), (p1, p2, p3), pl) with
   | false =>
    simp only [go_sem, ↓reduceIte]
    exact ⟨⟨_, rfl, fun q => by cases q⟩, (X.trans X1).trans X2⟩
   | true =>
    simp only [go_sem, ↓reduceIte, w3]
    refine hJ _ _ _ (by omega) ⟨i + 1, _, rfl, by omega, rfl, (X.trans X1).trans X2, by omega, fun x hxm => ?_⟩
    rw [List.take_add_one, hx] at hxm
    rcases List.mem_append.1 hxm with q | q
    ·exact hr x q
    ·simp only [Option.toList, List.mem_singleton] at q
     rw [q]; exact hR
 ·have c1 : ¬ (i : Int) < (l.length : Int) := by omega
  obtain rfl : i = l.length := by omega
  rw [List.take_length] at hs hr
  simp only [go_sem, ↓reduceIte, c1]
  exact ⟨⟨_, rfl, fun _ => ⟨hr, hs⟩⟩, X⟩
end Go.E1

/-
 Layer 23: events that are one.
-/
namespace Go.E1
open Go Go.Proofs Go.M
set_option linter.unusedSimpArgs false

theorem q_lineI (a b : ByteArray) (n : Bool) : EC.q 35 (.agg #[.string a, .string b, .bool n]) (.agg #[.string a, .string b, .bool n]) = some true := by
 have e : qAll.lookup 35 = some [.str, .str, .bool] := by kernel_rfl
 rw [EC_q]
 simp only [qOf, e, cellsEq, leafEq, decide_true, beq_self_eq_true, Bool.and_self, ↓reduceIte]
theorem q_pairI (a b : Int) : EC.q 126 (.agg #[.int .i64 a, .int .i64 b]) (.agg #[.int .i64 a, .int .i64 b]) = some true := by
 have e : qAll.lookup 126 = some [.int, .int] := by kernel_rfl
 rw [EC_q]
 simp only [qOf, e, cellsEq, leafEq, decide_true, beq_self_eq_true, Bool.and_self, ↓reduceIte]
theorem q_fourI (a b c d : Int) : EC.q 124 (.agg #[.int .i64 a, .int .i64 b, .int .i64 c, .int .i64 d]) (.agg #[.int .i64 a, .int .i64 b, .int .i64 c, .int .i64 d]) = some true := by
 have e : qAll.lookup 124 = some [.int, .int, .int, .int] := by kernel_rfl
 rw [EC_q]
 simp only [qOf, e, cellsEq, leafEq, decide_true, beq_self_eq_true, Bool.and_self, ↓reduceIte]

theorem BytesAt.strI {q : EqF} {h : LHeap} {v : Value} {l : Bytes} (a : BytesAt h v l) : lexec q (.bytesStr v) h = some (.string (toBA l), h) := by
 rcases a with ⟨rfl, c, rfl⟩ | ⟨b, o, cs, t, r, rfl, h1, h2, h3, h4⟩
 ·simp [lexec, toBA]
 ·have e : (if l.length = 0 then some [] else h.loadCells b o l.length) = some (bv l) := by
   by_cases h0 : l.length = 0
   ·rw [if_pos h0, List.length_eq_zero_iff.1 h0]; rfl
   ·rw [if_neg h0]
    simp only [LHeap.loadCells, h2, h3, if_true, h4]
  simp only [lexec, e, bytesOf_bv, Option.map_some, toBA]
theorem sEqBytesI {h : LHeap} {v w : Value} {l : Bytes} (A : BytesAt h v l) (B : BytesAt h w l) : LCalls EC 75 [v, w] h fun u h' => u = .bool true ∧ h' = h := by
 refine LCalls.enter (lf := lf75) rfl rfl (by simp [lf75]) ?_
 have e1 := A.strI (q := EC.q)
 have e2 := B.strI (q := EC.q)
 simp only [go_sem, lf75, ↓reduceIte, e1, e2]
theorem sEqLinesI {h : LHeap} {v w : Value} {l : List Ln} (A : SL 3 lc h v l) (B : SL 3 lc h w l) (hl : l.length < 1000000000000000) :
  LCalls EC 59 [v, w] h fun u h' => u = .bool true ∧ Ext h h' := by
 refine LCalls.enter (lf := lf59) rfl rfl (by simp [lf59]) ?_
 have eA := fun hh => A.len (q := EC.q) (h := hh)
 have eB := fun hh => B.len (q := EC.q) (h := hh)
 have q0 : ((l.length : Int) != (l.length : Int)) = false := by simp
 simp only [go_sem, lf59, ↓reduceIte, eA, eB, q0]
 refine MC.cutb (fun fr hh => Ext h hh) ?_ ?_
 ·refine MC.loop (fun m fr hh => ∃ i tl, m = l.length - i ∧ fr = (0, v) :: (1, w) :: (12, .int .i64 l.length) :: (13, .int .i64 (i : Nat)) :: tl ∧ i ≤ l.length ∧ Ext h hh) l.length ⟨0, [], rfl, rfl, Nat.zero_le _, Ext.refl _⟩ ?_
  rintro m fr hh J ⟨i, tl, rfl, rfl, hi, X⟩ hJ
  by_cases hlt : i < l.length
  ·have d3 : (i : Int) < (l.length : Int) := by omega
   have d4 : (0 : Int) ≤ (i : Int) := by omega
   have w1 : IntKind.i64.wrap ((i : Int) + 1) = ((i + 1 : Nat) : Int) := by rw [IntWalk.i64_in _ (by omega)]; omega
   obtain ⟨x, hx⟩ : ∃ x, l[i]? = some x := ⟨l[i], by simp [hlt]⟩
   obtain ⟨b1, t1, r1, rfl, hb1, hg1⟩ := A.at hx
   obtain ⟨b2, t2, r2, rfl, hb2, hg2⟩ := B.at hx
   have g1 := (X.get b1 hb1).trans hg1
   have g2 := (X.get b2 hb2).trans hg2
   obtain ⟨k1, k2⟩ := Cel.get (⟨fun _ => rfl, fun _ => rfl, by omega⟩ : Cel 3 lc) hx
   change _ = [Value.string x.f.1, Value.string x.f.2, Value.bool x.never] at k1
   have hq := q_lineI x.f.1 x.f.2 x.never
   simp only [go_sem, ↓reduceIte, d3]
   refine MC.dregion ?_
   simp only [go_sem, ↓reduceIte, d3, d4, Int.toNat_natCast, g1, g2, k1, k2, hq, w1]
   exact hJ _ _ _ (by omega) ⟨i + 1, _, rfl, rfl, by omega, X⟩
  ·have d3 : ¬ (i : Int) < (l.length : Int) := by omega
   simp only [go_sem, ↓reduceIte, d3]
   exact X
 ·rintro fr hh X
  simp only [go_sem, ↓reduceIte]
  exact X
theorem sEqPairsI {h : LHeap} {v w : Value} {l : List (Nat × Nat)} (A : SL 2 pc h v l) (B : SL 2 pc h w l) (hl : l.length < 1000000000000000) :
  LCalls EC 76 [v, w] h fun u h' => u = .bool true ∧ Ext h h' := by
 refine LCalls.enter (lf := lf76) rfl rfl (by simp [lf76]) ?_
 have eA := fun hh => A.len (q := EC.q) (h := hh)
 have eB := fun hh => B.len (q := EC.q) (h := hh)
 have q0 : ((l.length : Int) != (l.length : Int)) = false := by simp
 simp only [go_sem, lf76, ↓reduceIte, eA, eB, q0]
 refine MC.cutb (fun fr hh => Ext h hh) ?_ ?_
 ·refine MC.loop (fun m fr hh => ∃ i tl, m = l.length - i ∧ fr = (0, v) :: (1, w) :: (12, .int .i64 l.length) :: (13, .int .i64 (i : Nat)) :: tl ∧ i ≤ l.length ∧ Ext h hh) l.length ⟨0, [], rfl, rfl, Nat.zero_le _, Ext.refl _⟩ ?_
  rintro m fr hh J ⟨i, tl, rfl, rfl, hi, X⟩ hJ
  by_cases hlt : i < l.length
  ·have d3 : (i : Int) < (l.length : Int) := by omega
   have d4 : (0 : Int) ≤ (i : Int) := by omega
   have w1 : IntKind.i64.wrap ((i : Int) + 1) = ((i + 1 : Nat) : Int) := by rw [IntWalk.i64_in _ (by omega)]; omega
   obtain ⟨x, hx⟩ : ∃ x, l[i]? = some x := ⟨l[i], by simp [hlt]⟩
   obtain ⟨b1, t1, r1, rfl, hb1, hg1⟩ := A.at hx
   obtain ⟨b2, t2, r2, rfl, hb2, hg2⟩ := B.at hx
   have g1 := (X.get b1 hb1).trans hg1
   have g2 := (X.get b2 hb2).trans hg2
   obtain ⟨k1, k2⟩ := Cel.get pc_cel hx
   change _ = [Value.int .i64 (x.1 : Nat), Value.int .i64 (x.2 : Nat)] at k1
   have hq := q_pairI (x.1 : Nat) (x.2 : Nat)
   simp only [go_sem, ↓reduceIte, d3]
   refine MC.dregion ?_
   simp only [go_sem, ↓reduceIte, d3, d4, Int.toNat_natCast, g1, g2, k1, k2, hq, w1]
   exact hJ _ _ _ (by omega) ⟨i + 1, _, rfl, rfl, by omega, X⟩
  ·have d3 : ¬ (i : Int) < (l.length : Int) := by omega
   simp only [go_sem, ↓reduceIte, d3]
   exact X
 ·rintro fr hh X
  simp only [go_sem, ↓reduceIte]
  exact X

def evOk (e : Ev) : Prop := e.lines.length ≤ 1000000 ∧ e.pairs.length ≤ 1000000
theorem sEqEv {h : LHeap} {e : Ev} {lv tv pv lw tw pw : Value} (he : evOk e) (l1 : SL 3 lc h lv e.lines) (l2 : SL 3 lc h lw e.lines) (t1 : BytesAt h tv e.text) (t2 : BytesAt h tw e.text) (p1 : SL 2 pc h pv e.pairs) (p2 : SL 2 pc h pw e.pairs) :
  LCalls EC 46 [evV e lv tv pv, evV e lw tw pw] h fun u h' => u = .bool true ∧ Ext h h' := by
 refine LCalls.enter (lf := lf46) rfl rfl (by simp [lf46]) ?_
 have hz : ¬ h.size = h.size + 1 := by omega
 have hq := q_fourI (e.kind : Nat) (e.st : Nat) (e.n : Nat) (e.code : Nat)
 have hb : (e.fin == e.fin) = true := by simp
 have X0 : ∀ a b : LObj, Ext h ((h.push a).push b) := fun a b => (Ext.push _ _).trans (Ext.push _ _)
 simp only [evV, evc, go_sem, lf46, ↓reduceIte, hz, hq, hb]
 generalize hq1 : LHeap.push _ _ = h1
 have X1 : Ext h h1 := by rw [← hq1]; exact X0 _ _
 have ga : h1.get h.size = some (.cells (evc e lv tv pv) true true) := by rw [← hq1]; simp [evc]
 have gb : h1.get (h.size + 1) = some (.cells (evc e lw tw pw) true true) := by rw [← hq1]; simp [evc]
 have s1 : h1.size = h.size + 2 := by rw [← hq1]; simp
 clear hq1
 refine MCall.by (sEqLinesI (l1.ext X1) (l2.ext X1) (by have := he.1; omega)) ?_
 rintro u h2 ⟨rfl, X2⟩
 have ga2 := (X2.get h.size (by omega)).trans ga
 have gb2 := (X2.get (h.size + 1) (by omega)).trans gb
 have X02 := X1.trans X2
 simp only [evc] at ga2 gb2
 simp only [go_sem, ↓reduceIte, ga2, gb2]
 refine MCall.by (sEqBytesI (t1.ext X02) (t2.ext X02)) ?_
 rintro u h3 ⟨rfl, rfl⟩
 simp only [go_sem, ↓reduceIte, ga2, gb2]
 refine MCall.by (sEqPairsI (p1.ext X02) (p2.ext X02) (by have := he.2; omega)) ?_
 rintro u h4 ⟨rfl, X4⟩
 simp only [go_sem, ↓reduceIte]
 exact X02.trans X4
end Go.E1

/-
 Layer 23: however bytes are cut into chunks, the events are the same.
-/
namespace Go.M
open Go.E1

theorem take_more {b : Bytes} (m : Bytes) {n : Nat} (h : n ≤ b.length) : (b ++ m).take n = b.take n := List.take_append_of_le_length h
theorem dt_more {b : Bytes} (m : Bytes) {d n : Nat} (h : d + n ≤ b.length) : ((b ++ m).drop d).take n = (b.drop d).take n := by
 rw [List.drop_append_of_le_length (by omega), List.take_append_of_le_length (by rw [List.length_drop]; omega)]
theorem parseF_more {most : Nat} {b : Bytes} (m : Bytes) : (∀ f n, parseF most b = .ok f n → parseF most (b ++ m) = .ok f n) ∧ (parseF most b = .big → parseF most (b ++ m) = .big) := by
 by_cases c1 : b.length < 9
 ·have e : parseF most b = .short := by unfold parseF; rw [if_pos c1]
  rw [e]
  exact ⟨fun _ _ h => (by cases h), fun h => (by cases h)⟩
 ·have c1' : ¬ (b ++ m).length < 9 := by rw [List.length_append]; omega
  have t3 : (b ++ m).take 3 = b.take 3 := take_more m (by omega)
  by_cases c2 : most < M.big (b.take 3)
  ·have e : parseF most b = .big := by unfold parseF; rw [if_neg c1, if_pos c2]
   rw [e]
   refine ⟨fun _ _ h => (by cases h), fun _ => ?_⟩
   unfold parseF
   rw [if_neg c1', t3, if_pos c2]
  ·by_cases c3 : b.length < 9 + M.big (b.take 3)
   ·have e : parseF most b = .short := by unfold parseF; rw [if_neg c1, if_neg c2, if_pos c3]
    rw [e]
    exact ⟨fun _ _ h => (by cases h), fun h => (by cases h)⟩
   ·have c3' : ¬ (b ++ m).length < 9 + M.big (b.take 3) := by rw [List.length_append]; omega
    have e : parseF most (b ++ m) = parseF most b := by
     unfold parseF
     rw [if_neg c1', t3, if_neg c2, if_neg c3', if_neg c1, if_neg c2, if_neg c3, dt_more m (by omega), dt_more m (by omega), dt_more m (by omega), dt_more m (by omega)]
    rw [e]
    exact ⟨fun _ _ h => h, fun h => h⟩
theorem allB_more : ∀ (n : Nat) (b m : Bytes) (fs : List Frm) (rest : Bytes), b.length ≤ n → allB b = some (fs, rest) → allB (b ++ m) = (allB (rest ++ m)).map fun p => (fs ++ p.1, p.2)
 | n, b, m, fs, rest, hn, h => by
  rw [allB_eq] at h
  cases hp : parseF 16384 b with
  | short =>
   rw [hp] at h
   simp only at h
   cases h
   cases allB (b ++ m) <;> rfl
  | big => rw [hp] at h; cases h
  | ok f k =>
   rw [hp] at h
   simp only [Option.map_eq_some_iff] at h
   obtain ⟨⟨fs', rest'⟩, h1, h2⟩ := h
   cases h2
   obtain ⟨k1, k2, k3⟩ := parseF_ok hp
   match n with
   | 0 => omega
   | n + 1 =>
    have ih := allB_more n (b.drop k) m fs' _ (by rw [List.length_drop]; omega) h1
    rw [allB_eq, (parseF_more m).1 f k hp]
    simp only
    rw [List.drop_append_of_le_length k2, ih, Option.map_map]
    rfl
theorem allB_rest : ∀ (n : Nat) (b : Bytes) (fs : List Frm) (rest : Bytes), b.length ≤ n → allB b = some (fs, rest) → allB rest = some ([], rest)
 | n, b, fs, rest, hn, h => by
  rw [allB_eq] at h
  cases hp : parseF 16384 b with
  | short =>
   rw [hp] at h
   simp only at h
   cases h
   rw [allB_eq, hp]
  | big => rw [hp] at h; cases h
  | ok f k =>
   rw [hp] at h
   simp only [Option.map_eq_some_iff] at h
   obtain ⟨⟨fs', rest'⟩, h1, h2⟩ := h
   cases h2
   obtain ⟨k1, k2, k3⟩ := parseF_ok hp
   match n with
   | 0 => omega
   | n + 1 => exact allB_rest n (b.drop k) fs' _ (by rw [List.length_drop]; omega) h1
theorem allB_pre : ∀ (n : Nat) (b m : Bytes) (p : List Frm × Bytes), b.length ≤ n → allB (b ++ m) = some p → ∃ fs rest, allB b = some (fs, rest)
 | n, b, m, p, hn, h => by
  rw [allB_eq] at h ⊢
  cases hp : parseF 16384 b with
  | short => exact ⟨_, _, rfl⟩
  | big => rw [(parseF_more m).2 hp] at h; cases h
  | ok f k =>
   rw [(parseF_more m).1 f k hp] at h
   simp only [Option.map_eq_some_iff] at h
   obtain ⟨q, h1, _⟩ := h
   obtain ⟨k1, k2, k3⟩ := parseF_ok hp
   rw [List.drop_append_of_le_length k2] at h1
   match n with
   | 0 => omega
   | n + 1 =>
    obtain ⟨fs, rest, e⟩ := allB_pre n (b.drop k) m q (by rw [List.length_drop]; omega) h1
    exact ⟨f :: fs, rest, by simp only [e, Option.map_some]⟩

/-! ### Chunks, up to the first fault -/
def runS : Sd → List Bytes → List Ev × Flt
 | _, [] => ([], okF)
 | s, c :: cs => if (feedS s c).2.2 ≠ okF then (feedS s c).2 else ((feedS s c).2.1 ++ (runS (feedS s c).1 cs).1, (runS (feedS s c).1 cs).2)
theorem feedS_live {s : Sd} (hd : s.dead = false) (hb : s.big = false) {b : Bytes} {fs : List Frm} {rest : Bytes} (h : allB (s.wait ++ b) = some (fs, rest)) :
  feedS s b = (⟨rest, false, (procR s.rd fs).1, decide ((procR s.rd fs).2.2 ≠ okF)⟩, (procR s.rd fs).2.1, (procR s.rd fs).2.2) := by
 have h1 : allF 16384 ((s.wait ++ b).length + 1) (s.wait ++ b) = some (fs, rest) := h
 simp only [feedS, hd, hb, h1]
 simp
theorem runS_eq : ∀ (cs : List Bytes) (s : Sd) (fs : List Frm) (rest : Bytes), s.dead = false → s.big = false → allB s.wait = some ([], s.wait) → allB (s.wait ++ cs.flatten) = some (fs, rest) → runS s cs = (procR s.rd fs).2
 | [], s, fs, rest, hd, hb, hw, h => by
  rw [List.flatten_nil, List.append_nil, hw] at h
  cases h
  rfl
 | c :: cs, s, fs, rest, hd, hb, hw, h => by
  rw [List.flatten_cons, ← List.append_assoc] at h
  obtain ⟨fs1, rest1, h1⟩ := allB_pre _ _ _ _ (Nat.le_refl _) h
  have h2 := allB_more _ _ cs.flatten _ _ (Nat.le_refl _) h1
  rw [h] at h2
  have e := feedS_live hd hb h1
  have h3 := allB_rest _ _ _ _ (Nat.le_refl _) h1
  obtain ⟨⟨fs2, rest2⟩, h4, h5⟩ := Option.map_eq_some_iff.1 h2.symm
  simp only [Prod.mk.injEq] at h5
  obtain ⟨rfl, rfl⟩ := h5
  rw [procR_append, runS, e]
  simp only
  by_cases hz : (procR s.rd fs1).2.2 ≠ okF
  ·rw [if_pos hz, if_pos hz]
  ·rw [if_neg hz, if_neg hz]
   rw [runS_eq cs ⟨rest1, false, (procR s.rd fs1).1, decide ((procR s.rd fs1).2.2 ≠ okF)⟩ fs2 rest2 (by simpa using hz) rfl h3 h4]

/-- A fold that stops feeding behind a fault. -/
def stepS (a : Sd × List Ev × Flt) (c : Bytes) : Sd × List Ev × Flt := if a.2.2 = okF then ((feedS a.1 c).1, a.2.1 ++ (feedS a.1 c).2.1, (feedS a.1 c).2.2) else a
theorem foldS : ∀ (cs : List Bytes) (a : Sd × List Ev × Flt), (cs.foldl stepS a).2 = if a.2.2 = okF then (a.2.1 ++ (runS a.1 cs).1, (runS a.1 cs).2) else a.2
 | [], a => by
  obtain ⟨s, es, z⟩ := a
  by_cases h : z = okF <;> simp [runS, h]
 | c :: cs, a => by
  obtain ⟨s, es, z⟩ := a
  rw [List.foldl_cons, foldS cs]
  by_cases h : z = okF
  ·subst h
   simp only [stepS, if_true, runS]
   by_cases k : (feedS s c).2.2 = okF
   ·rw [if_pos k, if_neg (by simp [k])]
    simp
   ·rw [if_neg k, if_pos k]
  ·simp [stepS, h]

theorem foldS_len : ∀ (cs : List Bytes) (a : Sd × List Ev × Flt), a.2.1.length ≤ (cs.foldl stepS a).2.1.length := by
 intro cs a
 rw [foldS]
 split
 ·simp
 ·exact Nat.le_refl _
theorem procR_len : ∀ (fs : List Frm) (r : Rd), (procR r fs).2.1.length ≤ fs.length
 | [], _ => Nat.le_refl _
 | f :: fs, r => by
  rw [procR_cons]
  split
  ·simp
  ·have := procR_len fs (readR r f).1
   rw [List.length_append, List.length_cons]
   have h1 : (readR r f).2.1.toList.length ≤ 1 := by cases (readR r f).2.1 <;> simp
   show (readR r f).2.1.toList.length + (procR (readR r f).1 fs).2.1.length ≤ _
   omega

/-! ### Frames' bytes are read as the frames -/
theorem bytesOfN_len (n : Nat) : ∀ k, (bytesOfN n k).length = k
 | 0 => rfl
 | k + 1 => by rw [bytesOfN, List.length_append, bytesOfN_len _ k]; rfl
theorem big_bytesOfN : ∀ (k n : Nat), M.big (bytesOfN n k) = n % 256 ^ k
 | 0, n => by simp [bytesOfN, M.big, Nat.mod_one]
 | k + 1, n => by
  rw [bytesOfN, big_snoc, big_bytesOfN k]
  have : (UInt8.ofNat (n % 256)).toNat = n % 256 := by simp
  rw [this, Nat.pow_succ, Nat.mul_comm (256 ^ k) 256, Nat.mod_mul]
  omega
theorem frBytes_len (f : Frm) : (frBytes f).length = 9 + f.pl.length := by
 simp only [frBytes, List.length_append, bytesOfN_len, List.length_cons, List.length_nil]; omega
theorem big_one (x : Nat) (h : x < 256) : M.big [UInt8.ofNat x] = x := by
 simp [M.big]; omega
theorem parseF_frBytes {f : Frm} (hf : frOk f) (hl : f.pl.length ≤ 16384) : parseF 16384 (frBytes f) = .ok f (9 + f.pl.length) := by
 obtain ⟨h1, h2, h3, h4⟩ := hf
 have L3 := bytesOfN_len f.pl.length 3
 have L4 := bytesOfN_len f.st 4
 have t3 : (frBytes f).take 3 = bytesOfN f.pl.length 3 := by
  rw [frBytes, List.take_append_of_le_length (by omega), List.take_of_length_le (by omega)]
 have b3 : M.big (bytesOfN f.pl.length 3) = f.pl.length := by rw [big_bytesOfN]; exact Nat.mod_eq_of_lt (by omega)
 have d3 : (frBytes f).drop 3 = [UInt8.ofNat f.ty, UInt8.ofNat f.fl] ++ (bytesOfN f.st 4 ++ f.pl) := by
  rw [frBytes, List.drop_append_of_le_length (by omega), List.drop_of_length_le (by omega), List.nil_append]
 have d4 : (frBytes f).drop 4 = [UInt8.ofNat f.fl] ++ (bytesOfN f.st 4 ++ f.pl) := by
  rw [show 4 = 3 + 1 by rfl, ← List.drop_drop, d3]; rfl
 have d5 : (frBytes f).drop 5 = bytesOfN f.st 4 ++ f.pl := by
  rw [show 5 = 3 + 2 by rfl, ← List.drop_drop, d3]; rfl
 have d9 : (frBytes f).drop 9 = f.pl := by
  rw [show 9 = 5 + 4 by rfl, ← List.drop_drop, d5, List.drop_append_of_le_length (by omega), List.drop_of_length_le (by omega), List.nil_append]
 have hst : M.big (bytesOfN f.st 4) % 2147483648 = f.st := by
  rw [big_bytesOfN, Nat.mod_eq_of_lt (a := f.st) (by omega), Nat.mod_eq_of_lt (by omega)]
 unfold parseF
 rw [frBytes_len, if_neg (by omega), t3, b3, if_neg (by omega), if_neg (by omega), d3, d4, d5, d9]
 have e1 : (([UInt8.ofNat f.ty, UInt8.ofNat f.fl] ++ (bytesOfN f.st 4 ++ f.pl)) : Bytes).take 1 = [UInt8.ofNat f.ty] := rfl
 have e2 : (([UInt8.ofNat f.fl] ++ (bytesOfN f.st 4 ++ f.pl)) : Bytes).take 1 = [UInt8.ofNat f.fl] := rfl
 have e3 : ((bytesOfN f.st 4 ++ f.pl) : Bytes).take 4 = bytesOfN f.st 4 := by
  rw [List.take_append_of_le_length (by omega), List.take_of_length_le (by omega)]
 rw [e1, e2, e3, big_one _ (by omega), big_one _ (by omega), hst, List.take_of_length_le (Nat.le_refl _)]
theorem allB_nil : allB [] = some ([], []) := by rw [allB_eq]; simp [parseF]
theorem allB_frames : ∀ (fs : List Frm), (∀ f ∈ fs, frOk f ∧ f.pl.length ≤ 16384) → allB (fs.flatMap frBytes) = some (fs, [])
 | [], _ => allB_nil
 | f :: fs, h => by
  obtain ⟨h1, h2⟩ := h f (List.mem_cons_self ..)
  rw [List.flatMap_cons, allB_eq, (parseF_more _).1 _ _ (parseF_frBytes h1 h2)]
  simp only
  have e : ((frBytes f) ++ (fs.flatMap frBytes)).drop (9 + f.pl.length) = fs.flatMap frBytes := by
   rw [← frBytes_len f, List.drop_left]
  rw [e, allB_frames fs fun g hg => h g (List.mem_cons_of_mem _ hg)]
  rfl

/-- Frames' bytes, frame by frame. -/
theorem fold_frames {fs : List Frm} (h : ∀ f ∈ fs, frOk f ∧ f.pl.length ≤ 16384) (s : Sd) (hd : s.dead = false) (hb : s.big = false) (hw : s.wait = []) : ((fs.map frBytes).foldl stepS (s, [], okF)).2 = (procR s.rd fs).2 := by
 rw [foldS, if_pos rfl, runS_eq (fs.map frBytes) s fs [] hd hb (by rw [hw]; exact allB_nil) (by rw [hw, List.nil_append, ← List.flatMap_def]; exact allB_frames fs h)]
 simp
theorem fold_cuts {fs : List Frm} (h : ∀ f ∈ fs, frOk f ∧ f.pl.length ≤ 16384) (s : Sd) (hd : s.dead = false) (hb : s.big = false) (hw : s.wait = []) (cs : List Bytes) (hc : cs.flatten = (fs.map frBytes).flatten) : (cs.foldl stepS (s, [], okF)).2 = (procR s.rd fs).2 := by
 rw [foldS, if_pos rfl, runS_eq cs s fs [] hd hb (by rw [hw]; exact allB_nil) (by rw [hw, List.nil_append, hc, ← List.flatMap_def]; exact allB_frames fs h)]
 simp

/-! ### Pieces of bytes -/
def cutsOf : List Int → Bytes → List Bytes
 | [], _ => []
 | c :: cs, b => b.take (min (max c 0).toNat b.length) :: cutsOf cs (b.drop (min (max c 0).toNat b.length))
theorem cutsOf_all : ∀ (cs : List Int) (b : Bytes) (n : Int), (b.length : Int) ≤ n → (cutsOf (cs ++ [n]) b).flatten = b
 | [], b, n, h => by
  have : min (max n 0).toNat b.length = b.length := by omega
  simp [cutsOf, this]
 | c :: cs, b, n, h => by
  rw [List.cons_append, cutsOf, List.flatten_cons, cutsOf_all cs _ n (by rw [List.length_drop]; omega), List.take_append_drop]

/-! ### How great events are -/
def EvSz (e : Ev) : Prop := e.lines.length ≤ 1000000 ∧ e.pairs.length ≤ 1000000
theorem pairsI_len : ∀ (k : Nat) (l : Bytes), (pairsI k l).length = k
 | 0, _ => rfl
 | k + 1, l => by rw [pairsI, List.length_cons, pairsI_len k]
end Go.M

/-
 What a heap holds, part by part: parts that are apart, and what is never changed any more.
-/
namespace Go.E1
open Go Go.Proofs Go.M

/-! ### What stays for good -/
abbrev Snap := Nat → Option LObj
def Snap.le (z z' : Snap) : Prop := ∀ c o, z c = some o → z' c = some o
theorem Snap.refl (z : Snap) : z.le z := fun _ _ h => h
theorem Snap.le.trans {a b c : Snap} (h : a.le b) (k : b.le c) : a.le c := fun x o hx => k x o (h x o hx)

abbrev Fp := Nat → Prop

structure Res where
 P : Snap → LHeap → Fp → Prop
 mono : ∀ {z z' h F}, z.le z' → P z h F → P z' h F
 keep : ∀ {z h h' F}, P z h F → h.size ≤ h'.size → (∀ c, z c ≠ none → h'.get c = h.get c) → (∀ c, F c → h'.get c = h.get c) → P z h' F
 lt : ∀ {z h F c}, P z h F → F c → c < h.size

def SatF (z : Snap) (h : LHeap) : List Res → Fp → Prop
 | [], _ => True
 | r :: rs, F => ∃ A B, r.P z h A ∧ SatF z h rs B ∧ (∀ c, A c → B c → False) ∧ (∀ c, A c → F c) ∧ (∀ c, B c → F c)

structure Sat (z : Snap) (h : LHeap) (rs : List Res) : Prop where
 fz : ∀ c o, z c = some o → h.get c = some o ∧ c < h.size
 ex : ∃ F, SatF z h rs F ∧ ∀ c, F c → z c = none ∧ c < h.size

theorem SatF.mono {z : Snap} {h : LHeap} : ∀ {rs : List Res} {F G : Fp}, SatF z h rs F → (∀ c, F c → G c) → SatF z h rs G
 | [], _, _, _, _ => trivial
 | _ :: _, _, _, ⟨A, B, h1, h2, h3, h4, h5⟩, hg => ⟨A, B, h1, h2, h3, fun c hc => hg c (h4 c hc), fun c hc => hg c (h5 c hc)⟩
theorem SatF.zmono {z z' : Snap} {h : LHeap} (hz : z.le z') : ∀ {rs : List Res} {F : Fp}, SatF z h rs F → SatF z' h rs F
 | [], _, _ => trivial
 | r :: _, _, ⟨A, B, h1, h2, h3, h4, h5⟩ => ⟨A, B, r.mono hz h1, h2.zmono hz, h3, h4, h5⟩
theorem SatF.keep {z : Snap} {h h' : LHeap} (hs : h.size ≤ h'.size) (hz : ∀ c, z c ≠ none → h'.get c = h.get c) : ∀ {rs : List Res} {F : Fp}, SatF z h rs F → (∀ c, F c → h'.get c = h.get c) → SatF z h' rs F
 | [], _, _, _ => trivial
 | r :: _, _, ⟨A, B, h1, h2, h3, h4, h5⟩, hg => ⟨A, B, r.keep h1 hs hz (fun c hc => hg c (h4 c hc)), h2.keep hs hz (fun c hc => hg c (h5 c hc)), h3, h4, h5⟩
/-- Only what is there. -/
theorem SatF.fit {z : Snap} {h : LHeap} : ∀ {rs : List Res} {F : Fp}, SatF z h rs F → SatF z h rs fun c => F c ∧ c < h.size
 | [], _, _ => trivial
 | r :: _, _, ⟨A, B, h1, h2, h3, h4, h5⟩ => ⟨A, fun c => B c ∧ c < h.size, h1, h2.fit, fun c ha hb => h3 c ha hb.1, fun c hc => ⟨h4 c hc, r.lt h1 hc⟩, fun c hc => ⟨h5 c hc.1, hc.2⟩⟩
theorem SatF.append {z : Snap} {h : LHeap} : ∀ {xs ys : List Res} {F : Fp}, SatF z h (xs ++ ys) F ↔ ∃ A B, SatF z h xs A ∧ SatF z h ys B ∧ (∀ c, A c → B c → False) ∧ (∀ c, A c → F c) ∧ (∀ c, B c → F c)
 | [], ys, F => ⟨fun k => ⟨fun _ => False, F, trivial, k, fun _ h _ => h, fun _ h => h.elim, fun _ h => h⟩, fun ⟨_, _, _, k, _, _, h5⟩ => SatF.mono k h5⟩
 | r :: xs, ys, F => by
  constructor
  ·rintro ⟨A, B, h1, h2, h3, h4, h5⟩
   obtain ⟨C, D, k1, k2, k3, k4, k5⟩ := SatF.append.1 h2
   exact ⟨fun c => A c ∨ C c, D, ⟨A, C, h1, k1, fun c ha hc => h3 c ha (k4 c hc), fun c hc => .inl hc, fun c hc => .inr hc⟩, k2, fun c hc hd => hc.elim (fun ha => h3 c ha (k5 c hd)) (fun hc => k3 c hc hd), fun c hc => hc.elim (h4 c) fun hc => h5 c (k4 c hc), fun c hd => h5 c (k5 c hd)⟩
  ·rintro ⟨A, B, ⟨C, D, k1, k2, k3, k4, k5⟩, h2, h3, h4, h5⟩
   exact ⟨C, fun c => D c ∨ B c, k1, SatF.append.2 ⟨D, B, k2, h2, fun c hd hb => h3 c (k5 c hd) hb, fun c hc => .inl hc, fun c hc => .inr hc⟩, fun c hc hd => hd.elim (k3 c hc) (h3 c (k4 c hc)), fun c hc => h4 c (k4 c hc), fun c hc => hc.elim (fun hd => h4 c (k5 c hd)) (h5 c)⟩
theorem SatF.perm {z : Snap} {h : LHeap} {xs ys : List Res} (p : xs.Perm ys) : ∀ {F : Fp}, SatF z h xs F → SatF z h ys F := by
 induction p with
 | nil => exact fun k => k
 | cons r _ ih => exact fun ⟨A, B, h1, h2, h3, h4, h5⟩ => ⟨A, B, h1, ih h2, h3, h4, h5⟩
 | swap r s l =>
  rintro F ⟨A, B, h1, ⟨C, D, k1, k2, k3, k4, k5⟩, h3, h4, h5⟩
  exact ⟨C, fun c => A c ∨ D c, k1, ⟨A, D, h1, k2, fun c ha hd => h3 c ha (k5 c hd), fun c hc => .inl hc, fun c hc => .inr hc⟩, fun c hc hd => hd.elim (fun ha => h3 c ha (k4 c hc)) (k3 c hc), fun c hc => h5 c (k4 c hc), fun c hc => hc.elim (h4 c) fun hd => h5 c (k5 c hd)⟩
 | trans _ _ ih1 ih2 => exact fun k => ih2 (ih1 k)

/-! ### Rules -/
variable {z : Snap} {h : LHeap} {rs : List Res}
theorem Sat.old {h' : LHeap} (S : Sat z h rs) (hz : ∀ c, z c ≠ none → h'.get c = h.get c) : ∀ c o, z c = some o → h'.get c = some o := fun c o e => (hz c (by rw [e]; simp)).trans (S.fz c o e).1
theorem Sat.zlt (S : Sat z h rs) {c : Nat} (hc : z c ≠ none) : c < h.size := by
 cases e : z c with
 | none => exact absurd e hc
 | some o => exact (S.fz c o e).2
theorem Sat.perm {xs ys : List Res} (S : Sat z h xs) (p : xs.Perm ys) : Sat z h ys :=
 let ⟨F, k, l⟩ := S.ex; ⟨S.fz, F, k.perm p, l⟩
theorem Sat.ext {h' : LHeap} (S : Sat z h rs) (X : Ext h h') : Sat z h' rs := by
 obtain ⟨F, k, l⟩ := S.ex
 have hz : ∀ c, z c ≠ none → h'.get c = h.get c := fun c hc => X.get c (S.zlt hc)
 exact ⟨fun c o e => ⟨S.old hz c o e, Nat.lt_of_lt_of_le (S.fz c o e).2 X.size⟩, F, k.keep X.size hz fun c hc => X.get c (l c hc).2, fun c hc => ⟨(l c hc).1, Nat.lt_of_lt_of_le (l c hc).2 X.size⟩⟩
theorem Sat.drop {r : Res} (S : Sat z h (r :: rs)) : Sat z h rs := by
 obtain ⟨F, ⟨A, B, h1, h2, h3, h4, h5⟩, l⟩ := S.ex
 exact ⟨S.fz, B, h2, fun c hc => l c (h5 c hc)⟩
theorem Sat.head {r : Res} (S : Sat z h (r :: rs)) : ∃ F, r.P z h F := by
 obtain ⟨F, ⟨A, B, h1, _⟩, l⟩ := S.ex
 exact ⟨A, h1⟩
theorem Sat.at {r : Res} : ∀ {rs : List Res} (i : Nat), Sat z h rs → rs[i]? = some r → ∃ F, r.P z h F
 | [], i, _, e => by simp at e
 | s :: rs, 0, S, e => by simp only [List.getElem?_cons_zero, Option.some.injEq] at e; exact e ▸ S.head
 | s :: rs, i + 1, S, e => Sat.at i S.drop (by simpa using e)

/-- The part's own rule: it may be replaced by other parts, over its own cells and new ones; all that is new and in none of them stays for good. -/
theorem Sat.step {r : Res} (S : Sat z h (r :: rs)) : ∃ A, r.P z h A ∧ (∀ c, A c → z c = none) ∧ ∀ (h' : LHeap) (A' : Fp), Keep A h h' → (∀ c, A' c → A c ∨ h.size ≤ c) → (∀ c, A' c → c < h'.size) →
  ∃ z' : Snap, z.le z' ∧ (∀ c, h.size ≤ c → c < h'.size → ¬ A' c → z' c = h'.get c) ∧ ∀ ns : List Res, SatF z' h' ns A' → Sat z' h' (ns ++ rs) := by
 obtain ⟨F, ⟨A, B, h1, h2, h3, h4, h5⟩, l⟩ := S.ex
 refine ⟨A, h1, fun c hc => (l c (h4 c hc)).1, fun h' A' K hA hl => ?_⟩
 classical
 have hz : ∀ c, z c ≠ none → h'.get c = h.get c := fun c hc => K.get c (S.zlt hc) fun ha => hc (l c (h4 c ha)).1
 obtain ⟨z', hz'⟩ : ∃ z' : Snap, ∀ c, z' c = if c < h.size then z c else if c < h'.size ∧ ¬ A' c then h'.get c else none := ⟨_, fun _ => rfl⟩
 have le : z.le z' := fun c o e => by rw [hz', if_pos (S.fz c o e).2]; exact e
 refine ⟨z', le, fun c c1 c2 c3 => ?_, fun ns N => ⟨fun c o e => ?_, fun c => A' c ∨ B c, ?_, ?_⟩⟩
 ·rw [hz', if_neg (by omega), if_pos ⟨c2, c3⟩]
 ·rw [hz'] at e
  by_cases c1 : c < h.size
  ·rw [if_pos c1] at e
   exact ⟨S.old hz c o e, Nat.lt_of_lt_of_le c1 K.size⟩
  ·rw [if_neg c1] at e
   by_cases c2 : c < h'.size ∧ ¬ A' c
   ·rw [if_pos c2] at e; exact ⟨e, c2.1⟩
   ·rw [if_neg c2] at e; cases e
 ·refine SatF.append.2 ⟨A', B, N, (h2.keep K.size hz fun c hc => K.get c (l c (h5 c hc)).2 fun ha => h3 c ha hc).zmono le, fun c ha hb => ?_, fun c hc => .inl hc, fun c hc => .inr hc⟩
  rcases hA c ha with q | q
  ·exact h3 c q hb
  ·have := (l c (h5 c hb)).2; omega
 ·rintro c (hc | hc)
  ·refine ⟨?_, hl c hc⟩
   rw [hz']
   by_cases c1 : c < h.size
   ·rw [if_pos c1]
    rcases hA c hc with q | q
    ·exact (l c (h4 c q)).1
    ·omega
   ·rw [if_neg c1, if_neg fun q => q.2 hc]
  ·have := (l c (h5 c hc))
   refine ⟨?_, Nat.lt_of_lt_of_le this.2 K.size⟩
   rw [hz', if_pos this.2]; exact this.1

/-! ### A block -/
/-- A block with these cells. -/
def ptO (b : Nat) (o : LObj) : Res where
 P := fun _ h F => h.get b = some o ∧ b < h.size ∧ ∀ c, F c ↔ c = b
 mono := fun _ p => p
 keep := fun p hs _ hg => ⟨(hg b ((p.2.2 b).2 rfl)).trans p.1, Nat.lt_of_lt_of_le p.2.1 hs, p.2.2⟩
 lt := fun p hc => by rw [(p.2.2 _).1 hc]; exact p.2.1
def pt (b : Nat) (cs : List Value) : Res := ptO b (.cells cs true true)
theorem Sat.gptO {b : Nat} {o : LObj} (S : Sat z h rs) (i : Nat) (e : rs[i]? = some (Go.E1.ptO b o)) : h.get b = some o ∧ b < h.size := by
 obtain ⟨F, p⟩ := Sat.at i S e
 exact ⟨p.1, p.2.1⟩
theorem Sat.gpt {b : Nat} {cs : List Value} (S : Sat z h rs) (i : Nat) (e : rs[i]? = some (Go.E1.pt b cs)) : h.get b = some (.cells cs true true) := (S.gptO i e).1
theorem Sat.ptlt {b : Nat} {cs : List Value} (S : Sat z h rs) (i : Nat) (e : rs[i]? = some (Go.E1.pt b cs)) : b < h.size := (S.gptO i e).2
theorem Sat.pushO (S : Sat z h rs) (o : LObj) : Sat z (h.push o) (Go.E1.ptO h.size o :: rs) := by
 have X : Ext h (h.push o) := Ext.push _ _
 obtain ⟨F, k, l⟩ := S.ex
 have S' := S.ext X
 have hz : ∀ c, z c ≠ none → (h.push o).get c = h.get c := fun c hc => X.get c (S.zlt hc)
 refine ⟨S'.fz, fun c => c = h.size ∨ F c, ⟨fun c => c = h.size, F, ⟨by simp, by simp, fun c => Iff.rfl⟩, k.keep X.size hz fun c hc => X.get c (l c hc).2, fun c e hc => ?_, fun c hc => .inl hc, fun c hc => .inr hc⟩, ?_⟩
 ·have := (l c hc).2; omega
 ·rintro c (rfl | hc)
  ·refine ⟨?_, by simp⟩
   cases hn : z h.size with
   | none => rfl
   | some o' => have := (S.fz _ _ hn).2; omega
  ·exact ⟨(l c hc).1, Nat.lt_of_lt_of_le (l c hc).2 X.size⟩
theorem Sat.push (S : Sat z h rs) (cs : List Value) : Sat z (h.push (.cells cs true true)) (Go.E1.pt h.size cs :: rs) := S.pushO _
theorem Sat.setO {b : Nat} {o : LObj} (o' : LObj) : ∀ {rs : List Res} (_ : Sat z h rs) (i : Nat) (_ : rs[i]? = some (Go.E1.ptO b o)), Sat z (h.set b o') (rs.set i (Go.E1.ptO b o'))  := by
 intro rs S i e
 obtain ⟨F, k, l⟩ := S.ex
 have key : ∀ (rs : List Res) (i : Nat) (F : Fp), SatF z h rs F → rs[i]? = some (Go.E1.ptO b o) → F b := by
  intro rs
  induction rs with
  | nil => intro i F _ e; simp at e
  | cons r rs ih =>
   intro i F ⟨A, B, h1, h2, h3, h4, h5⟩ e
   cases i with
   | zero =>
    simp only [List.getElem?_cons_zero, Option.some.injEq] at e
    subst e
    exact h4 b ((h1.2.2 b).2 rfl)
   | succ i => exact h5 b (ih i B h2 (by simpa using e))
 have hFb := key rs i F k e
 obtain ⟨zb, hb⟩ := l b hFb
 have hz : ∀ c, z c ≠ none → (h.set b o').get c = h.get c := fun c hc => by
  have : c ≠ b := fun q => hc (by rw [q, zb])
  simp only [LHeap.get_set, this, if_false]
 refine ⟨fun c o'' e'' => ⟨S.old hz c o'' e'', by simpa using (S.fz c o'' e'').2⟩, F, ?_, fun c hc => ⟨(l c hc).1, by simpa using (l c hc).2⟩⟩
 clear hFb
 induction rs generalizing i F with
 | nil => simp at e
 | cons r rs ih =>
  obtain ⟨A, B, h1, h2, h3, h4, h5⟩ := k
  cases i with
  | zero =>
   simp only [List.getElem?_cons_zero, Option.some.injEq] at e
   subst e
   refine ⟨A, B, ⟨by simp, by simpa using h1.2.1, h1.2.2⟩, h2.keep (by simp) hz fun c hc => ?_, h3, h4, h5⟩
   have : c ≠ b := fun q => h3 c ((h1.2.2 c).2 q) hc
   simp [this]
  | succ i =>
   have hB := ih S.drop i (by simpa using e) B h2 (fun c hc => l c (h5 c hc))
   refine ⟨A, B, r.keep h1 (by simp) hz fun c hc => ?_, hB, h3, h4, h5⟩
   have hBb := key rs i B h2 (by simpa using e)
   have : c ≠ b := fun q => h3 c hc (q ▸ hBb)
   simp [this]
theorem Sat.set {b : Nat} {cs : List Value} (S : Sat z h rs) (i : Nat) (e : rs[i]? = some (Go.E1.pt b cs)) (cs' : List Value) : Sat z (h.set b (.cells cs' true true)) (rs.set i (Go.E1.pt b cs')) := S.setO _ i e

/-! ### Parts of parts -/
def star (xs : List Res) : Res where
 P := fun z h F => SatF z h xs F ∧ ∀ c, F c → c < h.size
 mono := fun hz p => ⟨p.1.zmono hz, p.2⟩
 keep := fun p hs hz hg => ⟨p.1.keep hs hz hg, fun c hc => Nat.lt_of_lt_of_le (p.2 c hc) hs⟩
 lt := fun p hc => p.2 _ hc
theorem Sat.star {xs : List Res} (S : Sat z h (xs ++ rs)) : Sat z h (Go.E1.star xs :: rs) := by
 obtain ⟨F, k, l⟩ := S.ex
 obtain ⟨A, B, h1, h2, h3, h4, h5⟩ := SatF.append.1 k
 exact ⟨S.fz, F, ⟨fun c => A c ∧ c < h.size, B, ⟨h1.fit, fun c hc => hc.2⟩, h2, fun c ha hb => h3 c ha.1 hb, fun c hc => h4 c hc.1, h5⟩, l⟩
def exR {α : Type} (f : α → Res) : Res where
 P := fun z h F => ∃ a, (f a).P z h F
 mono := fun hz ⟨a, p⟩ => ⟨a, (f a).mono hz p⟩
 keep := fun ⟨a, p⟩ hs hz hg => ⟨a, (f a).keep p hs hz hg⟩
 lt := fun ⟨a, p⟩ hc => (f a).lt p hc
/-- A fact that stays, beside a part. -/
def withR (p : Snap → Prop) (hp : ∀ {z z' : Snap}, z.le z' → p z → p z') (r : Res) : Res where
 P := fun z h F => p z ∧ r.P z h F
 mono := fun hz q => ⟨hp hz q.1, r.mono hz q.2⟩
 keep := fun q hs hz hg => ⟨q.1, r.keep q.2 hs hz hg⟩
 lt := fun q hc => r.lt q.2 hc
/-! ### Order -/
theorem Sat.pull {r : Res} (S : Sat z h rs) (i : Nat) (e : rs[i]? = some r) : Sat z h (r :: rs.eraseIdx i) := by
 refine S.perm ?_
 induction rs generalizing i with
 | nil => simp at e
 | cons s rs ih =>
  cases i with
  | zero => simp only [List.getElem?_cons_zero, Option.some.injEq] at e; subst e; exact .refl _
  | succ i => exact ((ih S.drop i (by simpa using e)).cons s).trans (.swap r s _)
theorem Sat.swap {a b : Res} (S : Sat z h (a :: b :: rs)) : Sat z h (b :: a :: rs) := S.perm (.swap b a rs)
theorem Sat.back {r : Res} {xs : List Res} (S : Sat z h (r :: (xs ++ rs))) : Sat z h (xs ++ r :: rs) := S.perm List.perm_middle.symm
/-- The first parts in another order, or fewer of them. -/
theorem SatF.fam {z : Snap} {h : LHeap} : ∀ {rs : List Res} {F : Fp}, SatF z h rs F → ∃ G : Nat → Fp, (∀ (i : Nat) (r : Res), rs[i]? = some r → r.P z h (G i)) ∧ (∀ i j c, i ≠ j → G i c → G j c → False) ∧ ∀ i c, G i c → F c
 | [], F, _ => ⟨fun _ _ => False, fun i r e => by simp at e, fun _ _ _ _ h => h.elim, fun _ _ h => h.elim⟩
 | r :: rs, F, ⟨A, B, h1, h2, h3, h4, h5⟩ => by
  obtain ⟨G, g1, g2, g3⟩ := SatF.fam h2
  refine ⟨fun i => match i with | 0 => A | i + 1 => G i, fun i x e => ?_, fun i j c hij hi hj => ?_, fun i c hi => ?_⟩
  ·cases i with
   | zero => simp only [List.getElem?_cons_zero, Option.some.injEq] at e; exact e ▸ h1
   | succ i => exact g1 i x (by simpa using e)
  ·cases i with
   | zero => cases j with
    | zero => exact hij rfl
    | succ j => exact h3 c hi (g3 j c hj)
   | succ i => cases j with
    | zero => exact h3 c hj (g3 i c hi)
    | succ j => exact g2 i j c (by omega) hi hj
  ·cases i with
   | zero => exact h4 c hi
   | succ i => exact h5 c (g3 i c hi)
theorem Sat.ord {xs : List Res} (S : Sat z h (xs ++ rs)) (is : List Nat) (hd : is.Nodup) : Sat z h (is.map (fun i => xs[i]?.getD (Go.E1.star [])) ++ rs) := by
 obtain ⟨F, k, l⟩ := S.ex
 obtain ⟨A, B, h1, h2, h3, h4, h5⟩ := SatF.append.1 k
 obtain ⟨G, g1, g2, g3⟩ := h1.fam
 refine ⟨S.fz, F, SatF.append.2 ⟨A, B, ?_, h2, h3, h4, h5⟩, l⟩
 have key : ∀ (is : List Nat), is.Nodup → SatF z h (is.map fun i => xs[i]?.getD (Go.E1.star [])) fun c => ∃ i ∈ is, G i c := by
  intro is
  induction is with
  | nil => intro _; trivial
  | cons i is ih =>
   intro hd
   obtain ⟨hn, hd'⟩ := List.nodup_cons.1 hd
   rw [List.map_cons]
   cases e : xs[i]? with
   | none => exact ⟨fun _ => False, _, ⟨trivial, fun _ h => h.elim⟩, ih hd', fun _ h => h.elim, fun _ h => h.elim, fun c ⟨j, hj, hc⟩ => ⟨j, List.mem_cons_of_mem _ hj, hc⟩⟩
   | some r => exact ⟨G i, _, g1 i r e, ih hd', fun c hc ⟨j, hj, hc'⟩ => g2 i j c (fun q => hn (q ▸ hj)) hc hc', fun c hc => ⟨i, List.mem_cons_self .., hc⟩, fun c ⟨j, hj, hc⟩ => ⟨j, List.mem_cons_of_mem _ hj, hc⟩⟩
 exact (key is hd).mono fun c ⟨i, _, hc⟩ => g3 i c hc

theorem Sat.ordN (n : Nat) (S : Sat z h rs) (is : List Nat) (hd : is.Nodup) : Sat z h (is.map (fun i => (rs.take n)[i]?.getD (Go.E1.star [])) ++ rs.drop n) :=
 Sat.ord (by rw [List.take_append_drop]; exact S) is hd

/-! ### At a law's beginning -/
def snap0 (h : LHeap) : Snap := fun c => if c < h.size then h.get c else none
theorem sat0 (h : LHeap) : Sat (snap0 h) h [] := by
 refine ⟨fun c o e => ?_, fun _ => False, trivial, fun _ h => h.elim⟩
 unfold snap0 at e
 by_cases c1 : c < h.size
 ·rw [if_pos c1] at e; exact ⟨e, c1⟩
 ·rw [if_neg c1] at e; cases e
theorem snap0_get {h : LHeap} {c : Nat} (hc : c < h.size) : snap0 h c = h.get c := by simp [snap0, hc]

/-! ### Bytes and lists that stay -/
def zB (z : Snap) (v : Value) (l : Bytes) : Prop :=
 (l = [] ∧ ∃ c, v = .slice none 0 c) ∨ ∃ b o cs t r, v = .slice (some ⟨b, o, none⟩) l.length 1 ∧ z b = some (.cells cs t r) ∧ o + l.length ≤ cs.length ∧ (cs.drop o).take l.length = bv l
theorem zB.mono {z z' : Snap} {v : Value} {l : Bytes} (a : zB z v l) (hz : z.le z') : zB z' v l := by
 rcases a with h1 | ⟨b, o, cs, t, r, h1, h2, h3⟩
 ·exact .inl h1
 ·exact .inr ⟨b, o, cs, t, r, h1, hz b _ h2, h3⟩
theorem zB.at {v : Value} {l : Bytes} (a : zB z v l) (S : Sat z h rs) : BytesAt h v l := by
 rcases a with h1 | ⟨b, o, cs, t, r, h1, h2, h3⟩
 ·exact .inl h1
 ·exact .inr ⟨b, o, cs, t, r, h1, (S.fz b _ h2).2, (S.fz b _ h2).1, h3⟩
theorem BytesAt.zz {v : Value} {l : Bytes} (a : BytesAt h v l) {z : Snap} (hz : ∀ b, blkOf v = some b → b < h.size → z b = h.get b) : zB z v l := by
 rcases a with h1 | ⟨b, o, cs, t, r, rfl, h2, h3, h4⟩
 ·exact .inl h1
 ·exact .inr ⟨b, o, cs, t, r, rfl, (hz b rfl h2).trans h3, h4⟩
theorem BytesAt.z0 {v : Value} {l : Bytes} (a : BytesAt h v l) : zB (snap0 h) v l := a.zz fun _ _ hb => snap0_get hb
theorem zB.len {q : EqF} {v : Value} {l : Bytes} (a : zB z v l) : lexec q (.lenS v) h = some (.int .i64 l.length, h) := by
 rcases a with ⟨rfl, c, rfl⟩ | ⟨b, o, cs, t, r, rfl, _⟩ <;> rfl
theorem zB.shape {v : Value} {l : Bytes} (a : zB z v l) : ∃ a n e, v = .slice a n e := by
 rcases a with ⟨_, c, rfl⟩ | ⟨b, o, cs, t, r, rfl, _⟩ <;> exact ⟨_, _, _, rfl⟩
theorem zB.nil : zB z (.slice none 0 0) [] := .inl ⟨rfl, 0, rfl⟩
theorem zB.hi {q : EqF} {v : Value} {l : Bytes} (hv : zB z v l) {j : Nat} (hj : j ≤ l.length) {k : IntKind} :
  ∃ w, (∀ hh : LHeap, lexec q (.slice 1 v none (some (.int k (j : Nat))) none) hh = some (w, hh)) ∧ zB z w (l.take j) := by
 rcases hv with ⟨rfl, c, rfl⟩ | ⟨b, o, cs, t, r, rfl, h2, h3, h4⟩
 ·simp only [List.length_nil] at hj
  obtain rfl : j = 0 := by omega
  exact ⟨.slice none 0 c, fun hh => by simp [lexec, lo1], .inl ⟨rfl, c, rfl⟩⟩
 ·refine ⟨_, fun hh => x_slice_hi hj, .inr ⟨b, o, cs, t, r, by rw [List.length_take, Nat.min_eq_left hj], h2, by rw [List.length_take]; omega, ?_⟩⟩
  rw [List.length_take, Nat.min_eq_left hj]
  have := bytes_sub h4 0 j (by omega)
  simpa using this
theorem zB.lo {q : EqF} {v : Value} {l : Bytes} (hv : zB z v l) {i : Nat} (hi : i ≤ l.length) {k : IntKind} :
  ∃ w, (∀ hh : LHeap, lexec q (.slice 1 v (some (.int k (i : Nat))) none none) hh = some (w, hh)) ∧ zB z w (l.drop i) := by
 rcases hv with ⟨rfl, c, rfl⟩ | ⟨b, o, cs, t, r, rfl, h2, h3, h4⟩
 ·simp only [List.length_nil] at hi
  obtain rfl : i = 0 := by omega
  exact ⟨.slice none 0 c, fun hh => x_slice_lo_nil, .inl ⟨rfl, c, rfl⟩⟩
 ·refine ⟨_, fun hh => x_slice_lo hi, .inr ⟨b, o + i * 1, cs, t, r, by rw [List.length_drop], h2, by rw [List.length_drop]; omega, ?_⟩⟩
  rw [List.length_drop, Nat.mul_one]
  have := bytes_sub h4 i (l.length - i) (by omega)
  rw [this, List.take_of_length_le (by rw [List.length_drop]; omega)]

/-- A list that stays. -/
def zL {α : Type} (k : Nat) (c : α → List Value) (z : Snap) (v : Value) (l : List α) : Prop := (l = [] ∧ v = .slice none 0 0) ∨ ∃ b t r, v = .slice (some ⟨b, 0, none⟩) l.length k ∧ z b = some (.cells (l.flatMap c) t r)
theorem zL.mono {α : Type} {k : Nat} {c : α → List Value} {z z' : Snap} {v : Value} {l : List α} (a : zL k c z v l) (hz : z.le z') : zL k c z' v l := by
 rcases a with h1 | ⟨b, t, r, h1, h2⟩
 ·exact .inl h1
 ·exact .inr ⟨b, t, r, h1, hz b _ h2⟩
theorem zL.len {α : Type} {k : Nat} {c : α → List Value} {q : EqF} {v : Value} {l : List α} (a : zL k c z v l) : lexec q (.lenS v) h = some (.int .i64 l.length, h) := by
 rcases a with ⟨rfl, rfl⟩ | ⟨b, _, _, rfl, _⟩ <;> rfl
theorem zL.at {α : Type} {k : Nat} {c : α → List Value} {v : Value} {l : List α} (a : zL k c z v l) (S : Sat z h rs) {i : Nat} {x : α} (hx : l[i]? = some x) : ∃ b t r, v = .slice (some ⟨b, 0, none⟩) l.length k ∧ b < h.size ∧ h.get b = some (.cells (l.flatMap c) t r) := by
 rcases a with ⟨rfl, _⟩ | ⟨b, t, r, h1, h2⟩
 ·simp at hx
 ·exact ⟨b, t, r, h1, (S.fz b _ h2).2, (S.fz b _ h2).1⟩
theorem GL.zz {α : Type} {k : Nat} {c : α → List Value} {v : Value} {l : List α} (a : GL k c h v l) {z : Snap} (hz : ∀ b, blkOf v = some b → b < h.size → z b = h.get b) : zL k c z v l := by
 rcases a with h1 | ⟨b, rfl, h2, h3⟩
 ·exact .inl h1
 ·exact .inr ⟨b, true, true, rfl, (hz b rfl h2).trans h3⟩
theorem zL.shape {α : Type} {k : Nat} {c : α → List Value} {v : Value} {l : List α} (a : zL k c z v l) : ∃ a n e, v = .slice a n e := by
 rcases a with ⟨_, rfl⟩ | ⟨b, _, _, rfl, _⟩ <;> exact ⟨_, _, _, rfl⟩

/-- A list of one's own, that grows; what its things need stays. -/
def ownL {α : Type} (k : Nat) (c : α → List Value) (v : Value) (l : List α) : Res where
 P := fun _ h F => GL k c h v l ∧ ∀ b, F b ↔ blkOf v = some b
 mono := fun _ p => p
 keep := fun p hs _ hg => ⟨p.1.move hs fun x hx => hg x ((p.2 x).2 hx), p.2⟩
 lt := fun p hc => (p.1.blk ((p.2 _).1 hc)).1
theorem Sat.gown {α : Type} {k : Nat} {c : α → List Value} {v : Value} {l : List α} (S : Sat z h rs) (i : Nat) (e : rs[i]? = some (Go.E1.ownL k c v l)) : GL k c h v l := by
 obtain ⟨F, p⟩ := Sat.at i S e
 exact p.1
theorem Sat.ownL0 {α : Type} {k : Nat} {c : α → List Value} (S : Sat z h rs) : Sat z h (Go.E1.ownL k c (.slice none 0 0) ([] : List α) :: rs) := by
 obtain ⟨F, p, l⟩ := S.ex
 exact ⟨S.fz, F, ⟨fun _ => False, F, ⟨.nil, fun b => by simp⟩, p, fun _ h _ => h, fun _ h => h.elim, fun _ h => h⟩, l⟩

theorem gl_appends {α : Type} {k by' : Nat} {c : α → List Value} (C : Cel k c) {q : EqF} {hh : LHeap} {v w : Value} {l m : List α} (g : GL k c hh v l) (hw : hh.firstCells k w = some (m.length, m.flatMap c)) (hn : l.length + m.length ≤ 1000000) (hb : by' ≤ 1000) :
  ∃ v' hh', lexec q (.append k by' v w) hh = some (v', hh') ∧ GL k c hh' v' (l ++ m) ∧ hh.size ≤ hh'.size ∧
   (∀ b, b < hh.size → blkOf v ≠ some b → hh'.get b = hh.get b) ∧ (∀ b, blkOf v' = some b → blkOf v = some b ∨ hh.size ≤ b) := by
 have hm : (l.length + m.length) * by' ≤ 1000000 * 1000 := Nat.mul_le_mul hn hb
 have hm2 : m.length * by' ≤ 1000000 * 1000 := Nat.mul_le_mul (by omega) hb
 have hr : roomOk (l.length + m.length) by' = true := by
  simp only [roomOk, Bool.and_eq_true, decide_eq_true_eq]
  omega
 have hr2 : roomOk m.length by' = true := by
  simp only [roomOk, Bool.and_eq_true, decide_eq_true_eq]
  omega
 by_cases h0 : m.length = 0
 ·obtain rfl := List.length_eq_zero_iff.1 h0
  rcases g with ⟨rfl, rfl⟩ | ⟨b, rfl, h3, h4⟩
  ·exact ⟨_, _, x_append_zero (c := 0) hw, .inl ⟨rfl, rfl⟩, Nat.le_refl _, fun _ _ _ => rfl, fun b hb => .inl hb⟩
  ·refine ⟨.slice (some ⟨b, 0, none⟩) l.length k, hh, ?_, .inr ⟨b, by simp, h3, by simpa using h4⟩, Nat.le_refl _, fun _ _ _ => rfl, fun b hb => .inl hb⟩
   have e1 : oneCells ([] : List Value) = true := rfl
   simp only [List.length_nil, List.flatMap_nil, Nat.add_zero] at hw hr
   simp [lexec, hw, e1, hr, h4]
 ·rcases g with ⟨rfl, rfl⟩ | ⟨b, rfl, h3, h4⟩
  ·exact ⟨_, _, x_append_none hw h0 (C.flat_one m) hr2, .inr ⟨hh.size, by simp, by simp, by simp⟩, by simp, fun b hb _ => by simp [show b ≠ hh.size by omega], fun b he => .inr (by simp only [blkOf_some, Option.some.injEq] at he; omega)⟩
  ·refine ⟨_, _, x_append_some (cs := l.flatMap c) (r := true) hw h0 h4 (by rw [C.flat_len]; omega) (C.flat_one m) hr, .inr ⟨hh.size, by simp, by simp, by simp⟩, by simp, ?_, ?_⟩
   ·intro i hi hno
    have : i ≠ b := fun h => hno (by rw [h]; rfl)
    simp [show i ≠ hh.size by omega, this]
   ·intro b he
    right
    simp only [blkOf_some, Option.some.injEq] at he
    omega
/-- 'append', of any list to one's own. -/
theorem Sat.app {α : Type} {k by' : Nat} {c : α → List Value} (C : Cel k c) {q : EqF} {v w : Value} {l m : List α} (S : Sat z h (Go.E1.ownL k c v l :: rs)) (hw : h.firstCells k w = some (m.length, m.flatMap c)) (hn : l.length + m.length ≤ 1000000) (hb : by' ≤ 1000) :
  ∃ v' h', lexec q (.append k by' v w) h = some (v', h') ∧ Sat z h' (Go.E1.ownL k c v' (l ++ m) :: rs) := by
 obtain ⟨F, ⟨A, B, h1, h2, h3, h4, h5⟩, hl⟩ := S.ex
 obtain ⟨v', h', e, G, hs, hg, hv⟩ := gl_appends C (q := q) h1.1 hw hn hb
 have hz : ∀ c, z c ≠ none → h'.get c = h.get c := fun c hc => hg c (S.zlt hc) fun he => hc (hl c (h4 c ((h1.2 c).2 he))).1
 refine ⟨v', h', e, fun c o e => ⟨S.old hz c o e, Nat.lt_of_lt_of_le (S.fz c o e).2 hs⟩, fun c => blkOf v' = some c ∨ B c, ⟨fun c => blkOf v' = some c, B, ⟨G, fun _ => Iff.rfl⟩, h2.keep hs hz fun c hc => hg c (hl c (h5 c hc)).2 fun he => h3 c ((h1.2 c).2 he) hc, fun c hc hb => ?_, fun c hc => .inl hc, fun c hc => .inr hc⟩, ?_⟩
 ·rcases hv c hc with q | q
  ·exact h3 c ((h1.2 c).2 q) hb
  ·have := (hl c (h5 c hb)).2; omega
 ·rintro c (hc | hc)
  ·refine ⟨?_, (G.blk hc).1⟩
   rcases hv c hc with q | q
   ·exact (hl c (h4 c ((h1.2 c).2 q))).1
   ·cases hn : z c with
    | none => rfl
    | some o => have := (S.fz _ _ hn).2; omega
  ·exact ⟨(hl c (h5 c hc)).1, Nat.lt_of_lt_of_le (hl c (h5 c hc)).2 hs⟩
theorem zL.first {α : Type} {k : Nat} {c : α → List Value} (C : Cel k c) {v : Value} {l : List α} (a : zL k c z v l) (S : Sat z h rs) : h.firstCells k v = some (l.length, l.flatMap c) := by
 rcases a with ⟨rfl, rfl⟩ | ⟨b, t, r, rfl, h2⟩
 ·rfl
 ·by_cases h0 : l.length = 0
  ·obtain rfl := List.length_eq_zero_iff.1 h0
   simp [LHeap.firstCells]
  ·rw [first_some (S.fz b _ h2).1 (by rw [C.flat_len]; omega) h0, List.drop_zero, ← C.flat_len, List.take_length]
/-- What is one's own may stay for good. -/
theorem Sat.freeze {α : Type} {k : Nat} {c : α → List Value} {v : Value} {l : List α} (S : Sat z h (Go.E1.ownL k c v l :: rs)) : ∃ z', z.le z' ∧ zL k c z' v l ∧ Sat z' h rs := by
 obtain ⟨F, ⟨A, B, h1, h2, h3, h4, h5⟩, hl⟩ := S.ex
 classical
 obtain ⟨z', hz'⟩ : ∃ z' : Snap, ∀ c, z' c = if A c then h.get c else z c := ⟨_, fun _ => rfl⟩
 have le : z.le z' := fun c o e => by
  rw [hz', if_neg fun ha => by rw [(hl c (h4 c ha)).1] at e; cases e]; exact e
 refine ⟨z', le, h1.1.zz fun b hb _ => ?_, fun c o e => ?_, B, h2.zmono le, fun c hc => ?_⟩
 ·rw [hz', if_pos ((h1.2 b).2 hb)]
 ·rw [hz'] at e
  by_cases ha : A c
  ·rw [if_pos ha] at e; exact ⟨e, (hl c (h4 c ha)).2⟩
  ·rw [if_neg ha] at e; exact S.fz c o e
 ·have ha : ¬ A c := fun ha => h3 c ha hc
  rw [hz', if_neg ha]
  exact hl c (h5 c hc)
/-- What a call made anew stays for good. -/
theorem Sat.fresh {h' : LHeap} (S : Sat z h rs) (X : Ext h h') : ∃ z' : Snap, z.le z' ∧ (∀ c, h.size ≤ c → c < h'.size → z' c = h'.get c) ∧ Sat z' h' rs := by
 obtain ⟨F, k, l⟩ := S.ex
 have S' := S.ext X
 obtain ⟨z', hz'⟩ : ∃ z' : Snap, ∀ c, z' c = if c < h.size then z c else if c < h'.size then h'.get c else none := ⟨_, fun _ => rfl⟩
 have le : z.le z' := fun c o e => by rw [hz', if_pos (S.fz c o e).2]; exact e
 refine ⟨z', le, fun c c1 c2 => ?_, fun c o e => ?_, F, (k.keep X.size (fun c hc => X.get c (S.zlt hc)) fun c hc => X.get c (l c hc).2).zmono le, fun c hc => ?_⟩
 ·rw [hz', if_neg (by omega), if_pos c2]
 ·rw [hz'] at e
  by_cases c1 : c < h.size
  ·rw [if_pos c1] at e; exact S'.fz c o e
  ·rw [if_neg c1] at e
   by_cases c2 : c < h'.size
   ·rw [if_pos c2] at e; exact ⟨e, c2⟩
   ·rw [if_neg c2] at e; cases e
 ·rw [hz', if_pos (l c hc).2]
  exact ⟨(l c hc).1, Nat.lt_of_lt_of_le (l c hc).2 X.size⟩
theorem OutAt.zf {lo : Nat} {v : Value} {l : Bytes} (O : OutAt h lo v l) {z : Snap} (hz : ∀ c, lo ≤ c → c < h.size → z c = h.get c) : zB z v l := O.bytes.zz fun b hb hlt => hz b (O.lt hb).1 hlt
end Go.E1

/-
 Layer 23 as parts of a heap: a reader, what it told.
-/
namespace Go.E1
open Go Go.Proofs Go.M
set_option linter.unusedSimpArgs false

theorem Sat.new {z : Snap} {h h' : LHeap} {rs : List Res} (S : Sat z h rs) (X : Ext h h') (A' : Fp) (hA : ∀ c, A' c → h.size ≤ c ∧ c < h'.size) :
  ∃ z' : Snap, z.le z' ∧ (∀ c, h.size ≤ c → c < h'.size → ¬ A' c → z' c = h'.get c) ∧ ∀ ns : List Res, SatF z' h' ns A' → Sat z' h' (ns ++ rs) := by
 let emp : Res := { P := fun _ _ F => ∀ c, ¬ F c, mono := fun _ p => p, keep := fun p _ _ _ => p, lt := fun p hc => (p _ hc).elim }
 have S' : Sat z h (emp :: rs) := by
  obtain ⟨F, k, l⟩ := S.ex
  exact ⟨S.fz, F, ⟨fun _ => False, F, fun _ h => h, k, fun _ h _ => h, fun _ h => h.elim, fun _ h => h⟩, l⟩
 obtain ⟨A, hE, _, k⟩ := S'.step
 exact k h' A' (Keep.of_ext X) (fun c hc => .inr (hA c hc).1) fun c hc => (hA c hc).2

/-- A reader. -/
def inb (rb : Nat) (s : Sd) : Res where
 P := fun z h M => ∃ fb ab db FD wv tv, Inb h rb fb ab db FD wv tv s ∧ (∀ c, M c ↔ Foot4 rb fb ab FD c) ∧ zB z wv s.wait ∧ zB z tv s.rd.asm.text ∧ s.wait.length < 16393 ∧ s.rd.asm.text.length ≤ 16384 ∧ (s.big = true → s.dead = true)
 mono := fun hz ⟨fb, ab, db, FD, wv, tv, h1, h2, h3, h4, h5⟩ => ⟨fb, ab, db, FD, wv, tv, h1, h2, h3.mono hz, h4.mono hz, h5⟩
 keep := by
  rintro z h h' M ⟨fb, ab, db, FD, wv, tv, h1, h2, h3, h4, h5⟩ hs hz hg
  have K : Keep (fun c => h'.get c ≠ h.get c) h h' := ⟨hs, fun b _ hn => Classical.byContradiction hn⟩
  have nb : ∀ (v : Value) (l : Bytes), zB z v l → ∀ b, blkOf v = some b → ¬ h'.get b ≠ h.get b := by
   rintro v l Z b hb hn
   rcases Z with ⟨_, c, rfl⟩ | ⟨b', o, cs, t, r, rfl, q1, _⟩
   ·cases hb
   ·cases hb
    exact hn (hz _ (by rw [q1]; simp))
  exact ⟨fb, ab, db, FD, wv, tv, h1.kp K (fun hn => hn (hg _ ((h2 _).2 (.inl rfl)))) (fun hn => hn (hg _ ((h2 _).2 (.inr (.inl rfl))))) (fun hn => hn (hg _ ((h2 _).2 (.inr (.inr (.inl rfl))))))
   (fun c hc hn => hn (hg _ ((h2 _).2 (.inr (.inr (.inr hc)))))) (nb _ _ h3) (nb _ _ h4), h2, h3, h4, h5⟩
 lt := by
  rintro z h M c ⟨fb, ab, db, FD, wv, tv, h1, h2, h3⟩ hc
  rcases (h2 c).1 hc with rfl | rfl | rfl | hc
  ·exact h1.lt
  ·exact h1.rs.lt
  ·exact h1.am.lt
  ·exact h1.dw.lt hc

/-- What was told, for good. -/
def zPay (z : Snap) (p : EvP) : Prop := zL 3 lc z (slV p.2.1) p.1.lines ∧ zB z (slV p.2.2.1) p.1.text ∧ zL 2 pc z (slV p.2.2.2) p.1.pairs
def zEvs (z : Snap) (v : Value) (es : List Ev) (ps : List EvP) : Prop := ps.map (·.1) = es ∧ zL 8 evp z v ps ∧ ∀ p ∈ ps, zPay z p
theorem zPay.mono {z z' : Snap} {p : EvP} (a : zPay z p) (hz : z.le z') : zPay z' p := ⟨a.1.mono hz, a.2.1.mono hz, a.2.2.mono hz⟩
theorem zEvs.mono {z z' : Snap} {v : Value} {es : List Ev} {ps : List EvP} (a : zEvs z v es ps) (hz : z.le z') : zEvs z' v es ps := ⟨a.1, a.2.1.mono hz, fun p hp => (a.2.2 p hp).mono hz⟩

theorem inb_P {z : Snap} {h : LHeap} {rb fb ab db : Nat} {FD : Nat → Prop} {wv tv : Value} {s : Sd} (I : Inb h rb fb ab db FD wv tv s) (w : zB z wv s.wait) (t : zB z tv s.rd.asm.text) (h1 : s.wait.length < 16393) (h2 : s.rd.asm.text.length ≤ 16384) (h3 : s.big = true → s.dead = true) : SatF z h [inb rb s] (Foot4 rb fb ab FD) :=
 ⟨Foot4 rb fb ab FD, fun _ => False, ⟨fb, ab, db, FD, wv, tv, I, fun _ => Iff.rfl, w, t, h1, h2, h3⟩, trivial, fun _ _ h => h, fun _ h => h, fun _ h => h.elim⟩
theorem Inb.flt {h : LHeap} {rb fb ab db : Nat} {FD : Nat → Prop} {wv tv : Value} {s : Sd} (I : Inb h rb fb ab db FD wv tv s) : ∀ c, Foot4 rb fb ab FD c → c < h.size := by
 rintro c (rfl | rfl | rfl | hc)
 ·exact I.lt
 ·exact I.rs.lt
 ·exact I.am.lt
 ·exact I.dw.lt hc

theorem fFeedI {z : Snap} {h : LHeap} {rs : List Res} {rb : Nat} {s : Sd} (S : Sat z h (inb rb s :: rs)) {v : Value} {l : Bytes} (B : zB z v l) (hl : l.length < 900000) :
  LCalls EC 41 [.pointer (some ⟨rb, 0, none⟩), v] h fun u h' => ∃ z' ov ps, z.le z' ∧ u = .tuple #[ov, fltV (feedS s l).2.2] ∧ zEvs z' ov (feedS s l).2.1 ps ∧ Sat z' h' (inb rb (feedS s l).1 :: rs) := by
 obtain ⟨A, ⟨fb, ab, db, FD, wv, tv, I, hA, zw, zt, h1, h2, h3⟩, hAz, step⟩ := S.step
 refine (sFeedI I (B.at S) (by omega) h2 h3).mono fun u h' ⟨FD', wv', tv', I', hF, hw, ht, K, ov, ps, hu, E⟩ => ?_
 obtain ⟨k1, k2, k3⟩ := feedS_wait (l := l) h1 h2 h3
 have a1 := I.lt
 have a2 := I.rs.lt
 have a3 := I.am.lt
 have K' : Keep A h h' := ⟨K.size, fun b hb hn => K.get b hb fun q => hn ((hA b).2 q)⟩
 obtain ⟨z', le, hz', fin⟩ := step h' (Foot4 rb fb ab FD') K' (by
  rintro c (q | q | q | q)
  ·exact .inl ((hA c).2 (.inl q))
  ·exact .inl ((hA c).2 (.inr (.inl q)))
  ·exact .inl ((hA c).2 (.inr (.inr (.inl q))))
  ·exact (hF c q).imp (fun q => (hA c).2 (.inr (.inr (.inr q)))) id) I'.flt
 have zz : ∀ (v v' : Value) (l l' : Bytes), zB z v l → (v' = v ∨ ∀ b, blkOf v' = some b → h.size ≤ b) → BytesAt h' v' l' → (∀ b, blkOf v' = some b → ¬ Foot4 rb fb ab FD' b) → zB z' v' l' := by
  intro v v' l l' Z hv Bv hn
  refine Bv.zz fun b hb hlt => ?_
  rcases hv with rfl | hv
  ·rcases Z with ⟨_, c, rfl⟩ | ⟨b', o, cs, t, r, rfl, q1, _⟩
   ·cases hb
   ·cases hb
    rw [le _ _ q1, ← (S.fz _ _ q1).1]
    exact (K'.get _ (S.fz _ _ q1).2 fun ha => by rw [hAz _ ha] at q1; cases q1).symm
  ·exact hz' b (hv b hb) hlt (hn b hb)
 have nf : ∀ b, h.size ≤ b → ¬ FD' b → ¬ Foot4 rb fb ab FD' b := by
  rintro b hb hn (q | q | q | q)
  ·omega
  ·omega
  ·omega
  ·exact hn q
 refine ⟨z', ov, ps, le, hu, ⟨E.fst, E.gl.zz fun b hb hlt => hz' b (E.low b hb).1 hlt (nf b (E.low b hb).1 (E.low b hb).2), fun p hp => ?_⟩, fin [inb rb (feedS s l).1] (inb_P I' (zz _ _ _ _ zw hw I'.rs.wait fun b e => ?_) (zz _ _ _ _ zt ht I'.am.text fun b e => ?_) k1 k2 k3)⟩
 ·obtain ⟨p1, p2, p3, p4⟩ := (E.pay p hp).1
  exact ⟨p1.zz fun b hb hlt => hz' b (p4 b (.inl hb)).1 hlt (nf b (p4 b (.inl hb)).1 (p4 b (.inl hb)).2), p2.zz fun b hb hlt => hz' b (p4 b (.inr (.inl hb))).1 hlt (nf b (p4 b (.inr (.inl hb))).1 (p4 b (.inr (.inl hb))).2), p3.zz fun b hb hlt => hz' b (p4 b (.inr (.inr hb))).1 hlt (nf b (p4 b (.inr (.inr hb))).1 (p4 b (.inr (.inr hb))).2)⟩
 ·obtain ⟨q1, q2, q3, q4⟩ := I'.ap.w b e
  rintro (q | q | q | q)
  ·exact q1 q
  ·exact q2 q
  ·exact q3 q
  ·exact q4 q
 ·obtain ⟨q1, q2, q3, q4⟩ := I'.ap.t b e
  rintro (q | q | q | q)
  ·exact q1 q
  ·exact q2 q
  ·exact q3 q
  ·exact q4 q

theorem fNewI {z : Snap} {h : LHeap} {rs : List Res} (S : Sat z h rs) : LCalls EC 38 [] h fun u h' => ∃ z' rb, z.le z' ∧ u = .pointer (some ⟨rb, 0, none⟩) ∧ Sat z' h' (inb rb sd0 :: rs) := by
 refine wNewI.mono fun u h' ⟨rb, M, F, hu, I, X, hF⟩ => ?_
 obtain ⟨fb, ab, db, FD, wv, tv, I1, rfl, rfl⟩ := I.ex
 obtain ⟨z', le, hz', fin⟩ := S.new X (Foot4 rb fb ab FD) fun c hc => ⟨hF c (.inl hc), I1.flt c hc⟩
 refine ⟨z', rb, le, hu, fin [inb rb sd0] (inb_P I1 (I1.rs.wait.zz fun b hb hlt => ?_) (I1.am.text.zz fun b hb hlt => ?_) I.wait I.text I.big)⟩
 ·obtain ⟨q1, q2, q3, q4⟩ := I1.ap.w b hb
  refine hz' b (hF b (.inr (.inl hb))) hlt ?_
  rintro (q | q | q | q)
  ·exact q1 q
  ·exact q2 q
  ·exact q3 q
  ·exact q4 q
 ·obtain ⟨q1, q2, q3, q4⟩ := I1.ap.t b hb
  refine hz' b (hF b (.inr (.inr hb))) hlt ?_
  rintro (q | q | q | q)
  ·exact q1 q
  ·exact q2 q
  ·exact q3 q
  ·exact q4 q

theorem Sat.inb {z : Snap} {h : LHeap} {rs : List Res} {rb : Nat} {s : Sd} (S : Sat z h rs) (i : Nat) (e : rs[i]? = some (inb rb s)) : ∃ M F, InW h rb s M F := by
 obtain ⟨M, fb, ab, db, FD, wv, tv, I, hA, zw, zt, h1, h2, h3⟩ := Sat.at i S e
 exact ⟨_, _, ⟨fb, ab, db, FD, wv, tv, I, rfl, rfl⟩, h1, h2, h3⟩
theorem fDeadI {z : Snap} {h : LHeap} {rs : List Res} {rb : Nat} {s : Sd} (S : Sat z h rs) (i : Nat) (e : rs[i]? = some (Go.E1.inb rb s)) : LCalls EC 40 [.pointer (some ⟨rb, 0, none⟩)] h fun u h' => u = .bool s.dead ∧ h' = h := by
 obtain ⟨M, F, I⟩ := S.inb i e
 exact wDeadI I
theorem fWaitI {z : Snap} {h : LHeap} {rs : List Res} {rb : Nat} {s : Sd} (S : Sat z h rs) (i : Nat) (e : rs[i]? = some (Go.E1.inb rb s)) : LCalls EC 43 [.pointer (some ⟨rb, 0, none⟩)] h fun u h' => u = .int .i64 ((s.wait.length + s.rd.asm.text.length : Nat) : Int) ∧ h' = h := by
 obtain ⟨M, F, I⟩ := S.inb i e
 exact wWaitI I
/-- Bytes that a call made: they stay. -/
theorem Sat.out {z : Snap} {h h' : LHeap} {rs : List Res} {u : Value} {l : Bytes} (S : Sat z h rs) (O : OutAt h' h.size u l) (X : Ext h h') : ∃ z', z.le z' ∧ zB z' u l ∧ Sat z' h' rs := by
 obtain ⟨z', le, hz', S'⟩ := S.fresh X
 exact ⟨z', le, O.zf hz', S'⟩
end Go.E1

/-
 Layer 23: frames that came in, events' sizes.
-/
namespace Go.E1
open Go Go.Proofs Go.M
set_option linter.unusedSimpArgs false

theorem SL.z0 {α : Type} {k : Nat} {c : α → List Value} {h : LHeap} {v : Value} {l : List α} (a : SL k c h v l) : zL k c (snap0 h) v l := by
 rcases a with h1 | ⟨b, t, r, rfl, h2, h3⟩
 ·exact .inl h1
 ·exact .inr ⟨b, t, r, rfl, (snap0_get h2).trans h3⟩
theorem zL.sl {α : Type} {k : Nat} {c : α → List Value} {z : Snap} {h : LHeap} {rs : List Res} {v : Value} {l : List α} (a : zL k c z v l) (S : Sat z h rs) : SL k c h v l := by
 rcases a with h1 | ⟨b, t, r, rfl, h2⟩
 ·exact .inl h1
 ·exact .inr ⟨b, t, r, rfl, (S.fz _ _ h2).2, (S.fz _ _ h2).1⟩
def ic (i : Int) : List Value := [.int .i64 i]
theorem ic_cel : Cel 1 ic := ⟨fun _ => rfl, fun _ => rfl, by omega⟩
def bc (c : UInt8) : List Value := [.int .u8 c.toNat]
theorem bc_cel : Cel 1 bc := ⟨fun _ => rfl, fun _ => rfl, by omega⟩
theorem bc_bv : ∀ l : Bytes, l.flatMap bc = bv l
 | [] => rfl
 | c :: l => by rw [List.flatMap_cons, bc_bv l]; rfl
theorem zB.first {z : Snap} {h : LHeap} {rs : List Res} {v : Value} {l : Bytes} (a : zB z v l) (S : Sat z h rs) : h.firstCells 1 v = some (l.length, l.flatMap bc) := by
 rw [bc_bv]; exact (a.at S).first
theorem zL.bytes {z : Snap} {v : Value} {l : Bytes} (a : zL 1 bc z v l) : zB z v l := by
 rcases a with ⟨rfl, rfl⟩ | ⟨b, t, r, rfl, h2⟩
 ·exact .inl ⟨rfl, 0, rfl⟩
 ·exact .inr ⟨b, 0, _, t, r, rfl, h2, by rw [bc_cel.flat_len]; omega, by rw [List.drop_zero, bc_bv, ← bv_len l, List.take_length]⟩

theorem larg_ints {h : LHeap} {n : Nat} {lv : Value} (hl : LArg Tryz.prog h n 78 lv) : ∃ l : List Int, SL 1 ic h lv l ∧ (∀ i ∈ l, (Lit.int .i64 i).wf = true) ∧ l.length * 8 ≤ reachBytes := by
 have cells_int : Tryz.prog.cellsOf 3 = 1 := by kernel_rfl
 have bytes_int : Tryz.prog.bytesOf 3 = 8 := by kernel_rfl
 rcases hl with ⟨g1, _⟩ | ⟨_, hl⟩
 ·simp [isAggP, Tryz.underlying78] at g1
 ·rcases LRd_slice' Tryz.underlying78 hl with h1 | ⟨b, len, css, m, rfl, h0, h1, h2, h3, h4, h5⟩
  ·simp only [List.cons.injEq, and_true] at h1
   subst h1
   exact ⟨[], .inl ⟨rfl, rfl⟩, by simp, by simp⟩
  ·simp only [List.cons.injEq, and_true] at h0
   subst h0
   rw [cells_int] at h5 ⊢
   rw [bytes_int] at h4
   have key : ∀ (css : List (List Value)), (∀ c ∈ css, c.length = 1 ∧ LRd Tryz.prog h m 3 c) → ∃ l : List Int, css.flatten = l.flatMap ic ∧ l.length = css.length ∧ ∀ i ∈ l, (Lit.int .i64 i).wf = true := by
    intro css
    induction css with
    | nil => intro _; exact ⟨[], rfl, rfl, by simp⟩
    | cons c css ih =>
     intro hc
     obtain ⟨l, h6, h7, h8⟩ := ih fun x hx => hc x (List.mem_cons_of_mem _ hx)
     obtain ⟨i, rfl, hi⟩ := LRd_int Tryz.underlying3 (hc c (List.mem_cons_self ..)).2
     refine ⟨i :: l, by simp [h6, ic], by simp [h7], fun x hx => ?_⟩
     rcases List.mem_cons.1 hx with rfl | hx
     ·exact hi
     ·exact h8 x hx
   obtain ⟨l, h6, h7, h8⟩ := key css h5
   exact ⟨l, .inr ⟨b, _, _, by rw [h7, h3], h1, by rw [← h6]; exact h2⟩, h8, by rw [h7, h3]; exact h4.2⟩

def toF (r : RF) : Frm := ⟨r.1.1.toNat, r.1.2.1.toNat, r.1.2.2.toNat, r.2.2⟩
theorem toF_ok {r : RF} (h : rightR r = true) : frOk (toF r) ∧ r.1.1 = ((toF r).ty : Int) ∧ r.1.2.1 = ((toF r).fl : Int) ∧ r.1.2.2 = ((toF r).st : Int) := by
 simp only [rightR, Bool.and_eq_true, decide_eq_true_eq] at h
 obtain ⟨⟨⟨⟨⟨⟨h1, h2⟩, h3⟩, h4⟩, h5⟩, h6⟩, h7⟩ := h
 refine ⟨⟨?_, ?_, ?_, ?_⟩, ?_, ?_, ?_⟩ <;> simp only [toF] <;> omega
theorem sumR_mem {l : List RF} {r : RF} (h : r ∈ l) : 10 + r.2.2.length ≤ sumR l := by
 induction l with
 | nil => cases h
 | cons x l ih =>
  have e : sumR (x :: l) = 10 + x.2.2.length + sumR l := by simp [sumR]
  rcases List.mem_cons.1 h with rfl | h
  ·omega
  ·have := ih h; omega
theorem sumR_len (l : List RF) : 10 * l.length ≤ sumR l := by
 induction l with
 | nil => simp
 | cons x l ih =>
  have e : sumR (x :: l) = 10 + x.2.2.length + sumR l := by simp [sumR]
  rw [List.length_cons]; omega
theorem frames_len : ∀ (l : List RF), (l.map fun r => frBytes (toF r)).flatten.length ≤ sumR l
 | [] => by simp
 | x :: l => by
  have e : sumR (x :: l) = 10 + x.2.2.length + sumR l := by simp [sumR]
  have := frames_len l
  rw [List.map_cons, List.flatten_cons, List.length_append, frBytes_len, e]
  show 9 + x.2.2.length + _ ≤ _; omega

theorem fBytes {z : Snap} {h : LHeap} {rs : List Res} (S : Sat z h rs) {f : Frm} {fv : Value} (B : zB z fv f.pl) (hf : frOk f) (hpl : f.pl.length ≤ 16384) :
  LCalls EC 45 [frV f fv] h fun u h' => ∃ z' w, z.le z' ∧ u = .tuple #[w, .int .i64 0] ∧ zB z' w (frBytes f) ∧ Sat z' h' rs := by
 refine (sBytesF (B.at S) hf hpl).mono fun u h' ⟨w, hu, O, X⟩ => ?_
 obtain ⟨z', le, O', S'⟩ := S.out O X
 exact ⟨z', w, le, hu, O', S'⟩
theorem weighI_pairs {x y : Itm} {l l' : Bytes} (h : weighI x l = some (y, l')) : y.pairs = x.pairs := by
 unfold weighI at h
 split at h
 ·cases h
 ·cases h; rfl
theorem paddedI_prs (x : Itm) (f : Frm) : (paddedI x f).1.pairs = x.pairs := by
 unfold paddedI
 split
 ·rfl
 ·split
  ·rfl
  ·rename_i y l' hm
   have hy : y.pairs = x.pairs := by
    split at hm
    ·exact weighI_pairs hm
    ·cases hm; rfl
   split
   ·exact hy
   ·exact hy
theorem readI_pairs (x : Itm) (f : Frm) (hx : x.pairs = []) : (readI x f).1.pairs.length ≤ f.pl.length := by
 unfold readI
 split
 ·show (if _ then _ else _ : Itm × Flt).1.pairs.length ≤ _
  split
  ·rw [paddedI_prs]; simp [hx]
  ·show (paddedI _ f).1.pairs.length ≤ _
   rw [paddedI_prs]; simp [hx]
 ·split
  ·split
   ·simp [hx]
   ·rename_i y l hm
    show y.pairs.length ≤ _
    rw [weighI_pairs hm, hx]; simp
  ·split
   ·show x.pairs.length ≤ _
    rw [hx]; simp
   ·split
    ·show (pairsI _ _).length ≤ _
     rw [pairsI_len]; omega
    ·split
     ·show x.pairs.length ≤ _
      rw [hx]; simp
     ·split
      ·show x.pairs.length ≤ _
       rw [hx]; simp
      ·split
       ·show x.pairs.length ≤ _
        rw [hx]; simp
       ·split
        ·show x.pairs.length ≤ _
         rw [hx]; simp
        ·show x.pairs.length ≤ _
         rw [hx]; simp
theorem parseI_pairs (f : Frm) : (parseI f).1.pairs.length ≤ f.pl.length := by
 unfold parseI
 split
 ·simp [bareI]
 ·split
  ·simp [bareI]
  ·show (if _ then _ else _ : Itm × Flt).1.pairs.length ≤ _
   split
   ·simp [bareI]
   ·exact readI_pairs _ f rfl
theorem plainI_sz {x : Itm} (h : x.pairs.length ≤ 1000000) {e : Ev} (he : plainI x = some e) : evOk e := by
 unfold plainI at he
 split at he
 ·cases he; exact ⟨by simp, by simp⟩
 ·split at he
  ·cases he; exact ⟨by simp, by simp⟩
  ·split at he
   ·cases he; exact ⟨by simp, by simp⟩
   ·split at he
    ·cases he; exact ⟨by simp, h⟩
    ·split at he
     ·cases he; exact ⟨by simp, by simp⟩
     ·split at he
      ·cases he; exact ⟨by simp, by simp⟩
      ·cases he
theorem readR_sz (r : Rd) (f : Frm) (hl : f.pl.length ≤ 16384) (e : Ev) (he : (readR r f).2.1 = some e) : evOk e := by
 unfold readR at he
 by_cases c1 : mayR r f = false
 ·rw [if_pos c1] at he; cases he
 ·rw [if_neg c1] at he
  simp only at he
  by_cases c2 : (parseI f).2.2 = true ∨ (parseI f).2 ≠ okF ∧ f.ty = 1
  ·rw [if_pos c2] at he; cases he
  ·rw [if_neg c2] at he
   by_cases c3 : (parseI f).2 ≠ okF
   ·rw [if_pos c3] at he
    cases he
    exact ⟨by simp, by simp⟩
   ·rw [if_neg c3] at he
    by_cases c4 : (onA r.asm (parseI f).1).2.2 ≠ okF
    ·rw [if_pos c4] at he; cases he
    ·rw [if_neg c4] at he
     cases hb : (onA r.asm (parseI f).1).2.1 with
     | none =>
      rw [hb] at he
      have := parseI_pairs f
      exact plainI_sz (by omega) he
     | some b =>
      rw [hb] at he
      simp only at he
      cases hd : M.decode 0 16384 r.dec b.2.1 with
      | mk d res =>
       rw [hd] at he
       cases res with
       | error x => cases he
       | ok ls =>
        cases he
        have h1 := decode_bound hd
        have h2 := lsz_len ls
        exact ⟨by show ls.length ≤ _; omega, by simp⟩
theorem procR_sz : ∀ (fs : List Frm) (r : Rd), (∀ f ∈ fs, f.pl.length ≤ 16384) → ∀ e ∈ (procR r fs).2.1, evOk e
 | [], r, _, e, he => by cases he
 | f :: fs, r, hf, e, he => by
  rw [procR_cons] at he
  split at he
  ·cases he
  ·rcases List.mem_append.1 he with he | he
   ·exact readR_sz r f (hf f (List.mem_cons_self ..)) e (by simpa using he)
   ·exact procR_sz fs _ (fun g hg => hf g (List.mem_cons_of_mem _ hg)) e he
theorem feedS_sz {s : Sd} {b : Bytes} : ∀ e ∈ (feedS s b).2.1, evOk e := by
 intro e he
 unfold feedS at he
 by_cases c1 : s.dead = true
 ·rw [if_pos c1] at he; cases he
 ·rw [if_neg c1] at he
  by_cases c2 : s.big = true
  ·rw [if_pos c2] at he; cases he
  ·rw [if_neg c2] at he
   cases hr : allF 16384 ((s.wait ++ b).length + 1) (s.wait ++ b) with
   | none => rw [hr] at he; cases he
   | some p =>
    obtain ⟨fs, rest⟩ := p
    rw [hr] at he
    exact procR_sz fs s.rd (fun f hf => (allB_spec _ _ fs rest (Nat.le_refl _) hr).2.2 f hf |>.2.2.2) e he

theorem x_max {q : EqF} {h : LHeap} {k : IntKind} {a b : Int} : lexec q (.minmax true [.int k a, .int k b]) h = some (.int k (max a b), h) := by
 have e : (if b > a then b else a) = max a b := by split <;> omega
 simp [lexec, e]
theorem x_min {q : EqF} {h : LHeap} {k : IntKind} {a b : Int} : lexec q (.minmax false [.int k a, .int k b]) h = some (.int k (min a b), h) := by
 have e : (if b < a then b else a) = min a b := by split <;> omega
 simp [lexec, e]
theorem q_flt2 (a : Int) (b : Bool) : EC.q 73 (.agg #[.int .i64 a, .bool b]) (.agg #[.int .i64 a, .bool b]) = some true := by
 have e : qAll.lookup 73 = some [.int, .bool] := by kernel_rfl
 rw [EC_q]
 simp only [qOf, e, cellsEq, leafEq, decide_true, beq_self_eq_true, Bool.and_self, ↓reduceIte]
theorem sOKFS {z : Snap} {h : LHeap} {rs : List Res} (S : Sat z h rs) (f : Flt) : LCalls EC 42 [fltV f] h fun u h' => u = .bool (decide (f = okF)) ∧ Sat z h' rs :=
 (sOKF f).mono fun _ _ ⟨a, X⟩ => ⟨a, S.ext X⟩
theorem Sat.ofPt {α : Type} {z : Snap} {h : LHeap} {rs : List Res} {b k : Nat} {c : α → List Value} {l : List α} (S : Sat z h (pt b (l.flatMap c) :: rs)) : Sat z h (Go.E1.ownL k c (.slice (some ⟨b, 0, none⟩) l.length k) l :: rs) := by
 obtain ⟨F, ⟨A, B, h1, h2⟩, l'⟩ := S.ex
 exact ⟨S.fz, F, ⟨A, B, ⟨.inr ⟨b, rfl, h1.2.1, h1.1⟩, fun c => by simp only [blkOf_some, Option.some.injEq]; rw [h1.2.2 c]; exact eq_comm⟩, h2⟩, l'⟩
end Go.E1
