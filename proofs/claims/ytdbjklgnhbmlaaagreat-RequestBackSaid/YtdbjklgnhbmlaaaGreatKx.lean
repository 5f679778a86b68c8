/-
  Texts joined: RqK, RqN, RqO, RqP.
-/
import Derived.Test.YtdbjklgnhbmlaaaGreatKv
import Derived.Test.YtdbjklgnhbmlaaaGreatKr
import Derived.Test.YtdbjklgnhbmlaaaGreatKp
/-
  Layer 22: what stands ahead of the fields.
-/
namespace Go.M
open Go.E1
def nMeth : List UInt8 := [58, 109, 101, 116, 104, 111, 100]
def nSchm : List UInt8 := [58, 115, 99, 104, 101, 109, 101]
def nPath : List UInt8 := [58, 112, 97, 116, 104]
def nAuth : List UInt8 := [58, 97, 117, 116, 104, 111, 114, 105, 116, 121]
def hdA : List Ln → ByteArray × Nat
  | [] => (⟨#[]⟩, 0)
  | w :: _ => if (w.f.1.data.toList == nAuth) && !(w.f.2.data.toList == []) then (w.f.2, 1) else (⟨#[]⟩, 0)
theorem hdA_le (t : List Ln) : (hdA t).2 ≤ t.length := by
  cases t with
  | nil => exact Nat.le_refl _
  | cons w t => unfold hdA; dsimp only; split <;> simp
def hdT : List Ln → Option (ByteArray × ByteArray × ByteArray × ByteArray × Nat)
  | x :: y :: z :: t => if ((x.f.1.data.toList == nMeth) && (y.f.1.data.toList == nSchm) && (z.f.1.data.toList == nPath)) && !((t.drop (hdA t).2).any ownB) then some (x.f.2, y.f.2, z.f.2, (hdA t).1, 3 + (hdA t).2) else none
  | _ => none
end Go.M
namespace Go.E1
open Go Go.Proofs Go.M
set_option linter.unusedSimpArgs false

theorem MC.cutc {E : Env} {c b : LCode} {k : Cont} {fr : Fr} {h : LHeap} {Q : Value → LHeap → Prop} (J : Fr → LHeap → Prop) (w : MC E c (.inv J k) fr h Q) (hb : ∀ fr h, J fr h → MC E b k fr h Q) : MC E c (.code b k) fr h Q := MC.cut J w hb
def rcs (i : Nat) (x y z : ByteArray) : List Value := [.string (if 0 < i then x else ⟨#[]⟩), .string (if 1 < i then y else ⟨#[]⟩), .string (if 2 < i then z else ⟨#[]⟩), .string ⟨#[]⟩, .slice none 0 0, .slice none 0 0]
def zreq : List Value := [.string ⟨#[]⟩, .string ⟨#[]⟩, .string ⟨#[]⟩, .string ⟨#[]⟩, .slice none 0 0, .slice none 0 0]
theorem rcs0 (x y z : ByteArray) : rcs 0 x y z = [.string ⟨#[]⟩, .string ⟨#[]⟩, .string ⟨#[]⟩, .string ⟨#[]⟩, .slice none 0 0, .slice none 0 0] := rfl
theorem rcs1 (x y z : ByteArray) : rcs 1 x y z = [.string x, .string ⟨#[]⟩, .string ⟨#[]⟩, .string ⟨#[]⟩, .slice none 0 0, .slice none 0 0] := rfl
theorem rcs2 (x y z : ByteArray) : rcs 2 x y z = [.string x, .string y, .string ⟨#[]⟩, .string ⟨#[]⟩, .slice none 0 0, .slice none 0 0] := rfl
theorem rcs3 (x y z : ByteArray) : rcs 3 x y z = [.string x, .string y, .string z, .string ⟨#[]⟩, .slice none 0 0, .slice none 0 0] := rfl
theorem veqs_req (m s p a : ByteArray) : veqs [Value.string m, Value.string s, Value.string p, Value.string a, Value.slice none 0 0, Value.slice none 0 0] [Value.string m, Value.string s, Value.string p, Value.string a, Value.slice none 0 0, Value.slice none 0 0] = true := by simp [veqs, veq]
theorem sHeading {h : LHeap} {v : Value} {l : List Ln} (F : SL 3 lc h v l) (hl : l.length < 1000000000000000) :
    LCalls EC 58 [v] h fun u h' => ∃ m s p a n ok, u = .tuple #[reqV m s p a (.slice none 0 0) (.slice none 0 0), .int .i64 (n : Nat), .bool ok] ∧ (ok = true → hdT l = some (m, s, p, a, n) ∧ n ≤ l.length) ∧ (ok = false → hdT l = none) ∧ Ext h h' := by
  refine LCalls.enter (lf := lf58) rfl rfl (by simp [lf58]) ?_
  have eL := fun hh => F.len (q := EC.q) (h := hh)
  have n1 : (h.size = h.size + 1) = False := by simp
  by_cases h3 : l.length < 3
  · have k0 : (l.length : Int) < 3 := by omega
    have hT : hdT l = none := by
      match l, h3 with
      | [], _ => rfl
      | [_], _ => rfl
      | [_, _], _ => rfl
    simp only [go_sem, lf58, ↓reduceIte, eL, k0, n1]
    exact ⟨⟨#[]⟩, ⟨#[]⟩, ⟨#[]⟩, ⟨#[]⟩, 0, false, rfl, fun e => (by cases e), fun _ => hT, ((Ext.push _ _).trans (Ext.push _ _)).set (Nat.le_refl _) _⟩
  have k0 : ¬ (l.length : Int) < 3 := by omega
  obtain ⟨x, y, z, t, rfl⟩ : ∃ x y z t, l = x :: y :: z :: t := by
    match l, h3 with
    | [], h3 => exact absurd (by decide) h3
    | [_], h3 => exact absurd (by simp) h3
    | [_, _], h3 => exact absurd (by simp) h3
    | x :: y :: z :: t, _ => exact ⟨x, y, z, t, rfl⟩
  · rcases F with ⟨h0, _⟩ | ⟨b, t1, r1, rfl, hb, hg⟩
    · cases h0
    generalize hcs : (x :: y :: z :: t).flatMap lc = cs at hg
    have hc0 : cs[0]? = some (.string x.f.1) := by rw [← hcs]; rfl
    have hc1 : cs[1]? = some (.string x.f.2) := by rw [← hcs]; rfl
    have hc3 : cs[3]? = some (.string y.f.1) := by rw [← hcs]; rfl
    have hc4 : cs[4]? = some (.string y.f.2) := by rw [← hcs]; rfl
    have hc6 : cs[6]? = some (.string z.f.1) := by rw [← hcs]; rfl
    have hc7 : cs[7]? = some (.string z.f.2) := by rw [← hcs]; rfl
    have k0 : ¬ ((t.length + 1 + 1 + 1 : Nat) : Int) < 3 := by omega
    simp only [go_sem, lf58, ↓reduceIte, eL, k0, n1]
    refine MC.cutb (fun fr hh => ∃ tl, fr = (0, .slice (some ⟨b, 0, none⟩) (x :: y :: z :: t).length 3) :: (2, .pointer (some ⟨h.size, 0, none⟩)) :: (5, .pointer (some ⟨h.size + 1, 0, none⟩)) :: tl ∧ Ext h hh ∧ h.size + 1 < hh.size ∧ hh.get h.size = some (.cells zreq true true) ∧ hh.get (h.size + 1) = some (.cells (rcs 3 x.f.2 y.f.2 z.f.2) true true) ∧ ((x.f.1.data.toList == nMeth) = true ∧ (y.f.1.data.toList == nSchm) = true ∧ (z.f.1.data.toList == nPath) = true)) ?_ ?_
    · refine MC.loop (fun m fr hh => ∃ i tl, m = 3 - i ∧ i ≤ 3 ∧ fr = (0, .slice (some ⟨b, 0, none⟩) (x :: y :: z :: t).length 3) :: (2, .pointer (some ⟨h.size, 0, none⟩)) :: (5, .pointer (some ⟨h.size + 1, 0, none⟩)) :: (19, .slice (some ⟨h.size + 2, 0, none⟩) 3 2) :: (20, .int .i64 3) :: (21, .int .i64 (i : Nat)) :: tl ∧ Ext h hh ∧ h.size + 2 < hh.size ∧ hh.get h.size = some (.cells zreq true true) ∧ hh.get (h.size + 1) = some (.cells (rcs i x.f.2 y.f.2 z.f.2) true true) ∧
          hh.get (h.size + 2) = some (.cells [.string ⟨#[58, 109, 101, 116, 104, 111, 100]⟩, .pointer (some ⟨h.size + 1, 0, none⟩), .string ⟨#[58, 115, 99, 104, 101, 109, 101]⟩, .pointer (some ⟨h.size + 1, 1, none⟩), .string ⟨#[58, 112, 97, 116, 104]⟩, .pointer (some ⟨h.size + 1, 2, none⟩)] true true) ∧
          ((0 < i → (x.f.1.data.toList == nMeth) = true) ∧ (1 < i → (y.f.1.data.toList == nSchm) = true) ∧ (2 < i → (z.f.1.data.toList == nPath) = true))) 3 ?_ ?_
      · refine ⟨0, [], rfl, by omega, rfl, ((Ext.push _ _).trans (Ext.push _ _)).trans (Ext.push _ _), by simp, ?_, ?_, ?_, fun h => (by cases h), fun h => (by cases h), fun h => (by cases h)⟩
        · simp [zreq, show h.size ≠ h.size + 1 + 1 by omega]
        · simp [rcs]
        · simp
      rintro m fr hh J ⟨i, tl, rfl, hi, rfl, X, s1, g1, g2, g3, e1, e2, e3⟩ hJ
      have gb : hh.get b = some (.cells cs t1 r1) := by rw [X.get b hb, hg]
      have hX : ∀ {c c'}, Ext hh ((hh.push c).set hh.size c') := (Ext.push _ _).set (Nat.le_refl _) _
      have nb : (b = hh.size) = False := by have := X.size; simp; omega
      have m0 : (h.size = hh.size) = False := by simp; omega
      have m1 : (h.size + 1 = hh.size) = False := by simp; omega
      have m2 : (h.size + 2 = hh.size) = False := by simp; omega
      have nb1 : (b = h.size + 1) = False := by simp; omega
      rcases (by omega : i = 0 ∨ i = 1 ∨ i = 2 ∨ i = 3) with rfl | rfl | rfl | rfl
      · have a0 : (0 : Int) ≤ 0 := by decide
        have a1 : (0 : Int) < 3 := by decide
        have a2 : (0 : Int) < ((t.length + 1 + 1 + 1 : Nat) : Int) := by omega
        have a3 : (0 : Int).toNat = 0 := rfl
        have a4 : IntKind.i64.wrap ((0 : Int) + 1) = 1 := by decide
        have a5 : IntKind.i64.wrap 1 = 1 := by decide
        have c0 : ((0 : Nat) : Int) = 0 := rfl
        rw [rcs0] at g2
        simp only [go_sem, ↓reduceIte, c0, a0, a1, a3, g3, List.drop_zero, List.drop_succ_cons, List.take_succ_cons, List.take_zero, Nat.zero_mul, Nat.zero_add, Nat.one_mul]
        generalize hq : (LHeap.set (LHeap.push hh _) hh.size _) = h2
        have Xq : Ext hh h2 := by rw [← hq]; exact hX
        have sq : h2.size = hh.size + 1 := by rw [← hq]; simp
        have gq : h2.get hh.size = some (.cells [.string ⟨#[58, 109, 101, 116, 104, 111, 100]⟩, .pointer (some ⟨h.size + 1, 0, none⟩)] true true) := by rw [← hq]; simp
        have gb' := (Xq.get b (by omega)).trans gb
        have g1' := (Xq.get h.size (by omega)).trans g1
        unfold zreq at g1'
        have g2' := (Xq.get (h.size + 1) (by omega)).trans g2
        have g3' := (Xq.get (h.size + 2) (by omega)).trans g3
        clear hq
        refine MC.dregion ?_
        cases hN : (x.f.1.data.toList == nMeth) with
        | false =>
          unfold nMeth at hN
          have hT : hdT (x :: y :: z :: t) = none := by simp only [hdT, nMeth, nSchm, nPath, hN, Bool.false_and, Bool.and_false]; rfl
          simp only [go_sem, ↓reduceIte, c0, a0, a2, a3, gb', gq, hc0, hc1, hc3, hc4, hc6, hc7, hN, g2', g1']
          exact ⟨_, _, _, _, 0, false, rfl, fun e => (by cases e), fun _ => hT, (X.trans Xq).set (Nat.le_refl _) _⟩
        | true =>
          have hN' := hN
          unfold nMeth at hN
          simp only [go_sem, ↓reduceIte, c0, a0, a2, a3, gb', gq, hc0, hc1, hc3, hc4, hc6, hc7, hN]
          refine MC.dregion ?_
          simp only [go_sem, ↓reduceIte, c0, a0, a2, a3, gb', gq, hc0, hc1, hc3, hc4, hc6, hc7, g2', a4, a5]
          refine hJ _ _ _ (by omega) ⟨1, _, rfl, by omega, rfl, (X.trans Xq).set (by omega) _, by simp; omega, ?_, ?_, ?_, ?_⟩
          · simp [g1', zreq]
          · simp [rcs]
          · simp [g3']
          · exact ⟨fun _ => hN', fun h => absurd h (by omega), fun h => absurd h (by omega)⟩
      · have a0 : (0 : Int) ≤ 1 := by decide
        have a1 : (1 : Int) < 3 := by decide
        have a2 : (1 : Int) < ((t.length + 1 + 1 + 1 : Nat) : Int) := by omega
        have a3 : (1 : Int).toNat = 1 := rfl
        have a4 : IntKind.i64.wrap ((1 : Int) + 1) = 2 := by decide
        have a5 : IntKind.i64.wrap 2 = 2 := by decide
        have c0 : ((1 : Nat) : Int) = 1 := rfl
        rw [rcs1] at g2
        simp only [go_sem, ↓reduceIte, c0, a0, a1, a3, g3, List.drop_zero, List.drop_succ_cons, List.take_succ_cons, List.take_zero, Nat.zero_mul, Nat.zero_add, Nat.one_mul]
        generalize hq : (LHeap.set (LHeap.push hh _) hh.size _) = h2
        have Xq : Ext hh h2 := by rw [← hq]; exact hX
        have sq : h2.size = hh.size + 1 := by rw [← hq]; simp
        have gq : h2.get hh.size = some (.cells [.string ⟨#[58, 115, 99, 104, 101, 109, 101]⟩, .pointer (some ⟨h.size + 1, 1, none⟩)] true true) := by rw [← hq]; simp
        have gb' := (Xq.get b (by omega)).trans gb
        have g1' := (Xq.get h.size (by omega)).trans g1
        unfold zreq at g1'
        have g2' := (Xq.get (h.size + 1) (by omega)).trans g2
        have g3' := (Xq.get (h.size + 2) (by omega)).trans g3
        clear hq
        refine MC.dregion ?_
        cases hN : (y.f.1.data.toList == nSchm) with
        | false =>
          unfold nSchm at hN
          have hT : hdT (x :: y :: z :: t) = none := by simp only [hdT, nMeth, nSchm, nPath, hN, Bool.false_and, Bool.and_false]; rfl
          simp only [go_sem, ↓reduceIte, c0, a0, a2, a3, gb', gq, hc0, hc1, hc3, hc4, hc6, hc7, hN, g2', g1']
          exact ⟨_, _, _, _, 0, false, rfl, fun e => (by cases e), fun _ => hT, (X.trans Xq).set (Nat.le_refl _) _⟩
        | true =>
          have hN' := hN
          unfold nSchm at hN
          simp only [go_sem, ↓reduceIte, c0, a0, a2, a3, gb', gq, hc0, hc1, hc3, hc4, hc6, hc7, hN]
          refine MC.dregion ?_
          simp only [go_sem, ↓reduceIte, c0, a0, a2, a3, gb', gq, hc0, hc1, hc3, hc4, hc6, hc7, g2', a4, a5]
          refine hJ _ _ _ (by omega) ⟨2, _, rfl, by omega, rfl, (X.trans Xq).set (by omega) _, by simp; omega, ?_, ?_, ?_, ?_⟩
          · simp [g1', zreq]
          · simp [rcs]
          · simp [g3']
          · exact ⟨fun _ => e1 (by omega), fun _ => hN', fun h => absurd h (by omega)⟩
      · have a0 : (0 : Int) ≤ 2 := by decide
        have a1 : (2 : Int) < 3 := by decide
        have a2 : (2 : Int) < ((t.length + 1 + 1 + 1 : Nat) : Int) := by omega
        have a3 : (2 : Int).toNat = 2 := rfl
        have a4 : IntKind.i64.wrap ((2 : Int) + 1) = 3 := by decide
        have a5 : IntKind.i64.wrap 3 = 3 := by decide
        have c0 : ((2 : Nat) : Int) = 2 := rfl
        rw [rcs2] at g2
        simp only [go_sem, ↓reduceIte, c0, a0, a1, a3, g3, List.drop_zero, List.drop_succ_cons, List.take_succ_cons, List.take_zero, Nat.zero_mul, Nat.zero_add, Nat.one_mul]
        generalize hq : (LHeap.set (LHeap.push hh _) hh.size _) = h2
        have Xq : Ext hh h2 := by rw [← hq]; exact hX
        have sq : h2.size = hh.size + 1 := by rw [← hq]; simp
        have gq : h2.get hh.size = some (.cells [.string ⟨#[58, 112, 97, 116, 104]⟩, .pointer (some ⟨h.size + 1, 2, none⟩)] true true) := by rw [← hq]; simp
        have gb' := (Xq.get b (by omega)).trans gb
        have g1' := (Xq.get h.size (by omega)).trans g1
        unfold zreq at g1'
        have g2' := (Xq.get (h.size + 1) (by omega)).trans g2
        have g3' := (Xq.get (h.size + 2) (by omega)).trans g3
        clear hq
        refine MC.dregion ?_
        cases hN : (z.f.1.data.toList == nPath) with
        | false =>
          unfold nPath at hN
          have hT : hdT (x :: y :: z :: t) = none := by simp only [hdT, nMeth, nSchm, nPath, hN, Bool.false_and, Bool.and_false]; rfl
          simp only [go_sem, ↓reduceIte, c0, a0, a2, a3, gb', gq, hc0, hc1, hc3, hc4, hc6, hc7, hN, g2', g1']
          exact ⟨_, _, _, _, 0, false, rfl, fun e => (by cases e), fun _ => hT, (X.trans Xq).set (Nat.le_refl _) _⟩
        | true =>
          have hN' := hN
          unfold nPath at hN
          simp only [go_sem, ↓reduceIte, c0, a0, a2, a3, gb', gq, hc0, hc1, hc3, hc4, hc6, hc7, hN]
          refine MC.dregion ?_
          simp only [go_sem, ↓reduceIte, c0, a0, a2, a3, gb', gq, hc0, hc1, hc3, hc4, hc6, hc7, g2', a4, a5]
          refine hJ _ _ _ (by omega) ⟨3, _, rfl, by omega, rfl, (X.trans Xq).set (by omega) _, by simp; omega, ?_, ?_, ?_, ?_⟩
          · simp [g1', zreq]
          · simp [rcs]
          · simp [g3']
          · exact ⟨fun _ => e1 (by omega), fun _ => e2 (by omega), fun _ => hN'⟩
      · have a1 : ¬ (3 : Int) < 3 := by decide
        have c0 : ((3 : Nat) : Int) = 3 := rfl
        simp only [go_sem, ↓reduceIte, c0, a1]
        exact ⟨_, rfl, X, by omega, g1, g2, e1 (by omega), e2 (by omega), e3 (by omega)⟩
    · rintro fr hh ⟨tl, rfl, X, s1, g1, g2, e1, e2, e3⟩
      rw [rcs3] at g2
      unfold zreq at g1
      have gb : hh.get b = some (.cells cs t1 r1) := by rw [X.get b hb, hg]
      rw [MC_seq]
      refine MC.cut (fun fr hc => ∃ tl, fr = (0, .slice (some ⟨b, 0, none⟩) (x :: y :: z :: t).length 3) :: (2, .pointer (some ⟨h.size, 0, none⟩)) :: (5, .pointer (some ⟨h.size + 1, 0, none⟩)) :: (8, .int .i64 3) :: tl ∧ hc = hh) ?_ ?_
      · simp only [go_sem, ↓reduceIte]
        exact ⟨_, rfl⟩
      rintro fr hc ⟨tl, rfl, ec⟩
      rw [ec]
      clear ec hc
      rw [MC_seq]
      refine MC.cut (fun fr hc => ∃ tl, fr = (0, .slice (some ⟨b, 0, none⟩) (x :: y :: z :: t).length 3) :: (2, .pointer (some ⟨h.size, 0, none⟩)) :: (5, .pointer (some ⟨h.size + 1, 0, none⟩)) :: (8, .int .i64 ((3 + (hdA t).2 : Nat) : Int)) :: tl ∧ Ext h hc ∧ h.size + 1 < hc.size ∧ hc.get h.size = some (.cells [.string ⟨#[]⟩, .string ⟨#[]⟩, .string ⟨#[]⟩, .string ⟨#[]⟩, .slice none 0 0, .slice none 0 0] true true) ∧ hc.get (h.size + 1) = some (.cells [.string x.f.2, .string y.f.2, .string z.f.2, .string (hdA t).1, .slice none 0 0, .slice none 0 0] true true)) ?_ ?_
      · cases t with
        | nil =>
          have k1 : ¬ ((3 : Int) < 3) := by decide
          have k2 : ¬ ((3 : Int) > 3) := by decide
          have k3 : ((0 + 1 + 1 + 1 : Nat) : Int) = 3 := rfl
          have k4 : ((3 : Nat) : Int) = 3 := rfl
          simp only [go_sem, ↓reduceIte, k3, k4, k1, k2, List.length_nil]
          exact ⟨_, rfl, X, s1, g1, g2⟩
        | cons w t' =>
          have k1 : ((3 : Int) < ((t'.length + 1 + 1 + 1 + 1 : Nat) : Int)) := by omega
          have k2 : (((t'.length + 1 + 1 + 1 + 1 : Nat) : Int) > 3) := by omega
          have a0 : (0 : Int) ≤ 3 := by decide
          have a3 : (3 : Int).toNat = 3 := rfl
          have hc9 : cs[9]? = some (.string w.f.1) := by rw [← hcs]; rfl
          have hc10 : cs[10]? = some (.string w.f.2) := by rw [← hcs]; rfl
          cases hN : (w.f.1.data.toList == nAuth) with
          | false =>
            have hA : hdA (w :: t') = (⟨#[]⟩, 0) := by simp only [hdA, hN, Bool.false_and]; rfl
            unfold nAuth at hN
            rw [hA]
            simp only [go_sem, ↓reduceIte, k1, k2, a0, a3, gb, hc9, hc10, hN]
            exact ⟨_, rfl, X, s1, g1, g2⟩
          | true =>
            cases hV : (w.f.2.data.toList == []) with
            | true =>
              have hA : hdA (w :: t') = (⟨#[]⟩, 0) := by simp only [hdA, hN, hV, Bool.not_true, Bool.and_false]; rfl
              unfold nAuth at hN
              rw [hA]
              simp only [go_sem, ↓reduceIte, k1, k2, a0, a3, gb, hc9, hc10, hN, hV]
              exact ⟨_, rfl, X, s1, g1, g2⟩
            | false =>
              have hA : hdA (w :: t') = (w.f.2, 1) := by simp only [hdA, hN, hV, Bool.not_false, Bool.and_true]; rfl
              unfold nAuth at hN
              have a4 : IntKind.i64.wrap ((3 : Int) + 1) = 4 := by decide
              have a5 : IntKind.i64.wrap 4 = 4 := by decide
              rw [hA]
              simp only [go_sem, ↓reduceIte, k1, k2, a0, a3, gb, hc9, hc10, hN, hV, g2, a4, a5]
              refine ⟨_, rfl, X.set (by omega) _, by simpa using s1, ?_⟩
              simp [g1]
      · rintro fr hc ⟨tl, rfl, Xc, sc, g1, g2⟩
        have gb : hc.get b = some (.cells cs t1 r1) := by rw [Xc.get b hb, hg]
        have hk := hdA_le t
        have hlen : (x :: y :: z :: t).length = t.length + 1 + 1 + 1 := rfl
        have hsl : ∀ hh : LHeap, lexec EC.q (.slice 3 (.slice (some ⟨b, 0, none⟩) (t.length + 1 + 1 + 1) 3) (some (.int .i64 ((3 + (hdA t).2 : Nat) : Int))) none none) hh = some (.slice (some ⟨b, 0 + (3 + (hdA t).2) * 3, none⟩) (t.length + 1 + 1 + 1 - (3 + (hdA t).2)) 3, hh) := fun hh => x_slice_lo (q := EC.q) (h := hh) (e := 3) (b := b) (o := 0) (n := t.length + 1 + 1 + 1) (i := 3 + (hdA t).2) (k := .i64) (by omega)
        have F' := SA.tail (c := lc) lc_cel (b := b) (o := 0) (n := 3 + (hdA t).2) (cs := cs) (t := t1) (r := r1) (h := hc) (l := x :: y :: z :: t) (by omega) (by have := Xc.size; omega) gb (by rw [← hcs, List.drop_zero, ← lc_cel.flat_len, List.take_length]) (by rw [← hcs, lc_cel.flat_len]; omega)
        have hd : (x :: y :: z :: t).drop (3 + (hdA t).2) = t.drop (hdA t).2 := by rw [Nat.add_comm]; rfl
        rw [hd, hlen, Nat.zero_add] at F'
        have hT : hdT (x :: y :: z :: t) = if !((t.drop (hdA t).2).any ownB) then some (x.f.2, y.f.2, z.f.2, (hdA t).1, 3 + (hdA t).2) else none := by simp only [hdT, e1, e2, e3, Bool.and_self, Bool.true_and]
        simp only [go_sem, ↓reduceIte]
        refine MC.dregion ?_
        simp only [go_sem, ↓reduceIte, g2, hsl]
        refine MDCall.by (sAnyOwn F' (by rw [List.length_drop]; simp only [List.length_cons] at hl; omega)) ?_
        rintro u h5 ⟨rfl, X5⟩
        have g1' := (X5.get h.size (by omega)).trans g1
        have g2' := (X5.get (h.size + 1) (by omega)).trans g2
        have X5' := Xc.trans X5
        simp only [go_sem, ↓reduceIte, g1', g2', veqs_req]
        cases hO : (t.drop (hdA t).2).any ownB with
        | true =>
          rw [hO] at hT
          simp only [go_sem, ↓reduceIte, g1', g2', veqs_req]
          exact ⟨_, _, _, _, _, false, rfl, fun e => (by cases e), fun _ => hT, X5'.set (Nat.le_refl _) _⟩
        | false =>
          rw [hO] at hT
          simp only [go_sem, ↓reduceIte, g1', g2', veqs_req]
          exact ⟨_, _, _, _, _, true, rfl, fun _ => ⟨hT, by omega⟩, fun e => (by cases e), X5'.set (Nat.le_refl _) _⟩
end Go.E1

/-
  Layer 22: the request of lines.
-/
namespace Go.M
open Go.E1
def lnEqB (x y : Ln) : Bool := (x.f.1.data.toList == y.f.1.data.toList) && ((x.f.2.data.toList == y.f.2.data.toList) && ((x.never == y.never) && true))
theorem ba_eq {a b : ByteArray} (h : a.data.toList = b.data.toList) : a = b := by
  apply ByteArray.ext
  exact Array.toList_inj.1 h
theorem lnEqB_iff (x y : Ln) : lnEqB x y = true ↔ x = y := by
  unfold lnEqB
  simp only [Bool.and_eq_true, beq_iff_eq, and_true]
  constructor
  · rintro ⟨h1, h2, h3⟩
    obtain ⟨⟨a, b⟩, n⟩ := x
    obtain ⟨⟨c, d⟩, m⟩ := y
    simp only at h1 h2 h3
    rw [ba_eq h1, ba_eq h2, h3]
  · rintro rfl; exact ⟨rfl, rfl, rfl⟩
open Classical in
noncomputable def backE (l : List Ln) : Nat := match hdT l with
  | none => 32
  | some (m, s, p, a, n) => if rightB m s p a = false then 31 else if firstN wLn (l.drop n) ≠ 0 then firstN wLn (l.drop n) else if headsL m s p a ++ linesF (fldsL (l.drop n)) = l then 0 else 32
theorem wrongN_in (a b : ByteArray) : wrongN a b = 0 ∨ wrongN a b = 30 ∨ wrongN a b = 31 := by
  unfold wrongN
  cases nameB a <;> cases valueB b <;> simp
theorem wLn_in (x : Ln) : wLn x = 0 ∨ wLn x = 30 ∨ wLn x = 31 := by
  unfold wLn
  split
  · exact .inr (.inl rfl)
  · exact wrongN_in _ _
theorem firstN_in : ∀ l : List Ln, firstN wLn l = 0 ∨ firstN wLn l = 30 ∨ firstN wLn l = 31
  | [] => .inl rfl
  | x :: l => by
    rw [firstN]
    split
    · exact wLn_in x
    · exact firstN_in l
theorem backE_in (l : List Ln) : backE l = 0 ∨ backE l = 30 ∨ backE l = 31 ∨ backE l = 32 := by
  unfold backE
  split
  · exact .inr (.inr (.inr rfl))
  · split
    · exact .inr (.inr (.inl rfl))
    · split
      · rename_i n _ _ _
        rcases firstN_in (l.drop _) with h | h | h
        · exact .inl h
        · exact .inr (.inl h)
        · exact .inr (.inr (.inl h))
      · split
        · exact .inl rfl
        · exact .inr (.inr (.inr rfl))
theorem errF_of_first {l : List Ln} (h : firstN wLn l = 0) : errF (fldsL l) = 0 := by
  refine errF_zero fun f hf => ?_
  obtain ⟨x, hx, rfl⟩ := List.mem_map.1 hf
  have := firstN_all h x hx
  unfold wLn at this
  split at this
  · cases this
  · exact this
theorem backE_zero {l : List Ln} (h : backE l = 0) : ∃ m s p a n, hdT l = some (m, s, p, a, n) ∧ rightB m s p a = true ∧ firstN wLn (l.drop n) = 0 ∧ headsL m s p a ++ linesF (fldsL (l.drop n)) = l := by
  unfold backE at h
  split at h
  · cases h
  · rename_i m s p a n hT
    split at h
    · cases h
    · rename_i hr
      split at h
      · rename_i h1; exact absurd h h1
      · rename_i h1
        split at h
        · rename_i h2
          exact ⟨m, s, p, a, n, hT, by simpa using hr, by simpa using h1, h2⟩
        · cases h
/-- Lines of fields that may be sent are as they were. -/
theorem name_own {a b : ByteArray} (n : Bool) (h : nameB a = true) : ownB ⟨(a, b), n⟩ = false := by
  unfold ownB
  cases hl : a.data.toList with
  | nil => rfl
  | cons c l =>
    simp only [List.head?_cons, Option.some_beq_some, beq_eq_false_iff_ne]
    rintro rfl
    unfold nameB at h
    rw [hl] at h
    simp only [Bool.and_eq_true, List.all_cons] at h
    exact absurd h.1.1 (by decide)
theorem linesF_mem {L : List Fld} (h : errF L = 0) {x : Ln} (hx : x ∈ linesF L) : nameB x.f.1 = true ∧ hopB x.f.1 x.f.2 = false ∧ wrongN x.f.1 x.f.2 = 0 ∧ x.never = sensB x.f.1 := by
  obtain ⟨f, hf, hfx⟩ := List.mem_filterMap.1 hx
  have hw := errF_all h f hf
  unfold lnOf at hfx
  split at hfx
  · cases hfx
  · rename_i hh
    cases hfx
    exact ⟨wrong_name hw, by simpa using hh, hw, rfl⟩
theorem linesF_same {l : List Ln} (h : ∀ x ∈ l, hopB x.f.1 x.f.2 = false ∧ x.never = sensB x.f.1) : linesF (fldsL l) = l := by
  induction l with
  | nil => rfl
  | cons x l ih =>
    obtain ⟨h1, h2⟩ := h x (List.mem_cons_self ..)
    have e : lnOf x.f = some x := by
      unfold lnOf
      rw [if_neg (by rw [h1]; decide), ← h2]
    have := ih fun y hy => h y (List.mem_cons_of_mem _ hy)
    simp only [fldsL, linesF, List.map_cons, List.filterMap_cons, e] at this ⊢
    rw [this]
theorem hdA_lines {a : ByteArray} {L : List Fld} (h : errF L = 0) : hdA ((if (a.data.toList == []) = true then [] else [⟨(⟨#[58, 97, 117, 116, 104, 111, 114, 105, 116, 121]⟩, a), false⟩]) ++ linesF L) = (a, if (a.data.toList == []) = true then 0 else 1) := by
  cases hA : (a.data.toList == []) with
  | false =>
    simp only [Bool.false_eq_true, if_false, List.cons_append, List.nil_append, hdA, hA]
    rfl
  | true =>
    have ea : a = ⟨#[]⟩ := ba_eq (by rw [eq_of_beq hA])
    simp only [if_true, List.nil_append]
    cases hl : linesF L with
    | nil => rw [hdA, ea]
    | cons w t =>
      have := linesF_mem h (x := w) (by rw [hl]; exact List.mem_cons_self ..)
      have h58 := name_58 this.1
      rw [hdA, if_neg (by
        rw [show (w.f.1.data.toList == nAuth) = false from h58, Bool.false_and]
        decide), ea]
theorem hdT_lines {m s p a : ByteArray} {L : List Fld} (h : errF L = 0) : ∃ n, hdT (headsL m s p a ++ linesF L) = some (m, s, p, a, n) ∧ (headsL m s p a ++ linesF L).drop n = linesF L := by
  have hd := hdA_lines (a := a) h
  have hown : (linesF L).any ownB = false := List.any_eq_false.2 fun x hx => by
    have := name_own (a := x.f.1) (b := x.f.2) x.never (linesF_mem h hx).1
    rw [show (⟨(x.f.1, x.f.2), x.never⟩ : Ln) = x from rfl] at this
    rw [this]; decide
  refine ⟨3 + (if (a.data.toList == []) = true then 0 else 1), ?_, ?_⟩
  · unfold headsL
    rw [List.append_assoc]
    simp only [List.cons_append, List.nil_append, hdT]
    rw [hd]
    have hdrop : List.drop (if (a.data.toList == []) = true then 0 else 1) ((if (a.data.toList == []) = true then [] else [(⟨(⟨#[58, 97, 117, 116, 104, 111, 114, 105, 116, 121]⟩, a), false⟩ : Ln)]) ++ linesF L) = linesF L := by
      cases (a.data.toList == []) <;> rfl
    simp only [hdrop, hown]
    rfl
  · unfold headsL
    cases (a.data.toList == []) <;> rfl
theorem back_lines {m s p a : ByteArray} {L : List Fld} (hr : rightB m s p a = true) (h : errF L = 0) : ∃ n, hdT (headsL m s p a ++ linesF L) = some (m, s, p, a, n) ∧ (headsL m s p a ++ linesF L).drop n = linesF L ∧ backE (headsL m s p a ++ linesF L) = 0 := by
  obtain ⟨n, h1, h2⟩ := hdT_lines (m := m) (s := s) (p := p) (a := a) h
  refine ⟨n, h1, h2, ?_⟩
  unfold backE
  rw [h1]
  have hf : firstN wLn (linesF L) = 0 := firstN_zero fun x hx => by
    obtain ⟨k1, k2, k3, _⟩ := linesF_mem h hx
    unfold wLn
    rw [k1, k2, k3]; rfl
  have hs : linesF (fldsL (linesF L)) = linesF L := linesF_same fun x hx => by
    obtain ⟨_, k2, _, k4⟩ := linesF_mem h hx
    exact ⟨k2, k4⟩
  simp only [hr, h2, hf, hs]
  simp
end Go.M
namespace Go.E1
open Go Go.Proofs Go.M
set_option linter.unusedSimpArgs false

theorem q_line2 (x y : Ln) : EC.q 35 (.agg #[.string x.f.1, .string x.f.2, .bool x.never]) (.agg #[.string y.f.1, .string y.f.2, .bool y.never]) = some (lnEqB x y) := by
  have e : qAll.lookup 35 = some [.str, .str, .bool] := rfl
  rw [EC_q]
  simp only [qOf, e, cellsEq, leafEq, lnEqB]

theorem sEqLines {h : LHeap} {v w : Value} {l k : List Ln} (A : SL 3 lc h v l) (B : SL 3 lc h w k) (hl : l.length < 1000000000000000) :
    LCalls EC 59 [v, w] h fun u h' => (∃ r : Bool, u = .bool r ∧ (r = true ↔ l = k)) ∧ Ext h h' := by
  refine LCalls.enter (lf := lf59) rfl rfl (by simp [lf59]) ?_
  have eA := fun hh => A.len (q := EC.q) (h := hh)
  have eB := fun hh => B.len (q := EC.q) (h := hh)
  by_cases hne : l.length = k.length
  rotate_left
  · have q0 : ((l.length : Int) != (k.length : Int)) = true := by simp; omega
    simp only [go_sem, lf59, ↓reduceIte, eA, eB, q0]
    exact ⟨⟨false, rfl, fun h => (by cases h), fun h => absurd (congrArg List.length h) hne⟩, Ext.refl _⟩
  have q0 : ((l.length : Int) != (k.length : Int)) = false := by simp; omega
  simp only [go_sem, lf59, ↓reduceIte, eA, eB, q0]
  refine MC.cutb (fun fr hh => l = k ∧ Ext h hh) ?_ ?_
  · refine MC.loop (fun m fr hh => ∃ i tl, m = l.length - i ∧ fr = (0, v) :: (1, w) :: (12, .int .i64 l.length) :: (13, .int .i64 (i : Nat)) :: tl ∧ i ≤ l.length ∧ l.take i = k.take i ∧ Ext h hh) l.length ⟨0, [], rfl, rfl, Nat.zero_le _, rfl, Ext.refl _⟩ ?_
    rintro m fr hh J ⟨i, tl, rfl, rfl, hi, hsame, X⟩ hJ
    by_cases hlt : i < l.length
    · have d3 : (i : Int) < (l.length : Int) := by omega
      have d3' : (i : Int) < (k.length : Int) := by omega
      have d4 : (0 : Int) ≤ (i : Int) := by omega
      have w1 : IntKind.i64.wrap ((i : Int) + 1) = ((i + 1 : Nat) : Int) := by rw [IntWalk.i64_in _ (by omega)]; omega
      obtain ⟨x, hx⟩ : ∃ x, l[i]? = some x := ⟨l[i], by simp [hlt]⟩
      obtain ⟨y, hy⟩ : ∃ y, k[i]? = some y := ⟨k[i], by simp [show i < k.length by omega]⟩
      obtain ⟨b1, t1, r1, rfl, hb1, hg1⟩ := A.at hx
      obtain ⟨b2, t2, r2, rfl, hb2, hg2⟩ := B.at hy
      obtain ⟨k1, k2⟩ := lc_cel.get hx
      obtain ⟨m1, m2⟩ := lc_cel.get hy
      have g1 : hh.get b1 = some (.cells (l.flatMap lc) t1 r1) := by rw [X.get b1 hb1, hg1]
      have g2 : hh.get b2 = some (.cells (k.flatMap lc) t2 r2) := by rw [X.get b2 hb2, hg2]
      simp only [lc] at k1 m1
      have hq := q_line2 x y
      simp only [go_sem, ↓reduceIte, d3]
      refine MC.dregion ?_
      cases hE : lnEqB x y with
      | true =>
        rw [hE] at hq
        have := (lnEqB_iff x y).1 hE
        simp only [go_sem, ↓reduceIte, d3, d3', d4, Int.toNat_natCast, g1, g2, k1, k2, m1, m2, hq, w1]
        exact hJ _ _ _ (by omega) ⟨i + 1, _, rfl, rfl, by omega, by rw [List.take_add_one, List.take_add_one, hsame, hx, hy, this], X⟩
      | false =>
        rw [hE] at hq
        simp only [go_sem, ↓reduceIte, d3, d3', d4, Int.toNat_natCast, g1, g2, k1, k2, m1, m2, hq, w1]
        refine ⟨⟨false, rfl, fun h => (by cases h), fun h => ?_⟩, X⟩
        subst h
        rw [hx] at hy
        cases hy
        rw [(lnEqB_iff x x).2 rfl] at hE
        cases hE
    · have d3 : ¬ (i : Int) < (l.length : Int) := by omega
      rw [List.take_of_length_le (by omega), List.take_of_length_le (by omega)] at hsame
      simp only [go_sem, ↓reduceIte, d3]
      exact ⟨hsame, X⟩
  · rintro fr hh ⟨hs, X⟩
    simp only [go_sem, ↓reduceIte]
    exact ⟨⟨true, rfl, fun _ => hs, fun _ => rfl⟩, X⟩
end Go.E1

/-
  Layer 22: the request of lines: the walk.
-/
namespace Go.E1
open Go Go.Proofs Go.M
set_option linter.unusedSimpArgs false

theorem sBack {h : LHeap} {v : Value} {l : List Ln} (F : SL 3 lc h v l) (hl : l.length < 100000) (hs : ∀ x ∈ l, x.f.1.size < 4611686018427387904) :
    LCalls EC 31 [v] h fun u h' => ∃ m s p a fv, u = .tuple #[reqV m s p a fv (.slice none 0 0), .int .i64 (backE l : Nat)] ∧ Ext h h' ∧ (∃ a0 n0 e0, fv = .slice a0 n0 e0) ∧ (backE l = 0 → ∃ n, hdT l = some (m, s, p, a, n) ∧ GL 2 fc h' fv (fldsL (l.drop n))) := by
  refine LCalls.enter (lf := lf31) rfl rfl (by simp [lf31]) ?_
  have eL := fun hh => F.len (q := EC.q) (h := hh)
  simp only [go_sem, lf31, ↓reduceIte]
  generalize hq : h.push (LObj.cells _ true true) = h1
  have X1 : Ext h h1 := by rw [← hq]; exact Ext.push _ _
  have g1 : h1.get h.size = some (.cells [.string ⟨#[]⟩, .string ⟨#[]⟩, .string ⟨#[]⟩, .string ⟨#[]⟩, .slice none 0 0, .slice none 0 0] true true) := by rw [← hq]; simp
  have s1 : h1.size = h.size + 1 := by rw [← hq]; simp
  clear hq
  refine MCall.by (sHeading (F.ext X1) (by omega)) ?_
  rintro u h2 ⟨m, s, p, a, n, ok, rfl, hok, hno, X2⟩
  have g2 := (X2.get h.size (by omega)).trans g1
  have s2 := X2.size
  have X12 := X1.trans X2
  have er : reqV m s p a (.slice none 0 0) (.slice none 0 0) = .agg #[.string m, .string s, .string p, .string a, .slice none 0 0, .slice none 0 0] := rfl
  have n1 : (h.size = h2.size) = False := by simp; omega
  have done : ∀ {hh : LHeap} {cs : LObj}, Ext h hh → Ext h (hh.set h.size cs) := fun X => X.set (Nat.le_refl _) _
  cases ok with
  | false =>
    have hT := hno rfl
    have e : backE l = 32 := by unfold backE; rw [hT]
    simp only [go_sem, ↓reduceIte, er, g2, n1]
    exact ⟨⟨#[]⟩, ⟨#[]⟩, ⟨#[]⟩, ⟨#[]⟩, .slice none 0 0, by rw [e]; rfl, done (X12.trans ((Ext.push _ _).set (Nat.le_refl _) _)), ⟨_, _, _, rfl⟩, fun h0 => by rw [e] at h0; cases h0⟩
  | true =>
    obtain ⟨hT, hn⟩ := hok rfl
    simp only [go_sem, ↓reduceIte, er, g2, n1]
    generalize hq : (LHeap.set (LHeap.push h2 _) h2.size _) = h3
    have X3 : Ext h2 h3 := by rw [← hq]; exact (Ext.push _ _).set (Nat.le_refl _) _
    have s3 : h3.size = h2.size + 1 := by rw [← hq]; simp
    have g3 := (X3.get h.size (by omega)).trans g2
    have r3 : h3.get h2.size = some (.cells [.string m, .string s, .string p, .string a, .slice none 0 0, .slice none 0 0] true true) := by rw [← hq]; simp
    clear hq
    have X13 := X12.trans X3
    refine MCall.by (sRight m s p a (.slice none 0 0) (.slice none 0 0)) ?_
    rintro u h4 ⟨rfl, X4⟩
    have g4 := (X4.get h.size (by omega)).trans g3
    have r4 := (X4.get h2.size (by omega)).trans r3
    have s4 := X4.size
    have X14 := X13.trans X4
    cases hr : rightB m s p a with
    | false =>
      have e : backE l = 31 := by unfold backE; rw [hT]; simp only [hr, if_true]
      simp only [go_sem, ↓reduceIte, g4]
      exact ⟨⟨#[]⟩, ⟨#[]⟩, ⟨#[]⟩, ⟨#[]⟩, .slice none 0 0, by rw [e]; rfl, done X14, ⟨_, _, _, rfl⟩, fun h0 => by rw [e] at h0; cases h0⟩
    | true =>
      obtain ⟨w, hsl, hSA⟩ : ∃ w, (∀ hh : LHeap, lexec EC.q (.slice 3 v (some (.int .i64 (n : Nat))) none none) hh = some (w, hh)) ∧ ∀ hh, Ext h hh → SA 3 lc hh w (l.drop n) := by
        rcases F with ⟨rfl, _⟩ | ⟨b, t1, r1, rfl, hb, hg⟩
        · cases hT
        · refine ⟨_, fun hh => x_slice_lo (q := EC.q) (h := hh) (e := 3) (b := b) (o := 0) (i := n) (k := .i64) hn, fun hh X => ?_⟩
          exact SA.tail lc_cel hn (by have := X.size; omega) (by rw [X.get b hb]; exact hg) (by rw [List.drop_zero, ← lc_cel.flat_len, List.take_length]) (by rw [lc_cel.flat_len]; omega)
      have hld : (l.drop n).length ≤ l.length := by rw [List.length_drop]; omega
      have hsd : ∀ x ∈ l.drop n, x.f.1.size < 4611686018427387904 := fun x hx => hs x (List.mem_of_mem_drop hx)
      have hrb : 4000000 ≤ reachBytes := by decide
      simp only [go_sem, ↓reduceIte, hsl]
      refine MCall.by (sCheck (hSA _ X14) (by omega) hsd) ?_
      rintro u h5 ⟨rfl, X5⟩
      have g5 := (X5.get h.size (by omega)).trans g4
      have r5 := (X5.get h2.size (by omega)).trans r4
      have s5 := X5.size
      have X15 := X14.trans X5
      by_cases h0 : firstN wLn (l.drop n) = 0
      · have q0 : (((0 : Nat) : Int) != 0) = false := rfl
        simp only [go_sem, ↓reduceIte, h0, q0, hsl]
        refine MCall.by (sDecFields (hSA _ X15) (by omega)) ?_
        rintro fv h6 ⟨G, hf, X6⟩
        obtain ⟨a0, n0, e0, rfl⟩ := G.shape
        have g6 := (X6.get h.size (by omega)).trans g5
        have r6 := (X6.get h2.size (by omega)).trans r5
        have s6 := X6.size
        have X16 := X15.trans X6
        simp only [go_sem, ↓reduceIte, r6]
        generalize hq : h6.set h2.size _ = h7
        have r7 : h7.get h2.size = some (.cells [.string m, .string s, .string p, .string a, .slice a0 n0 e0, .slice none 0 0] true true) := by rw [← hq]; simp
        have g7 : h7.get h.size = some (.cells [.string ⟨#[]⟩, .string ⟨#[]⟩, .string ⟨#[]⟩, .string ⟨#[]⟩, .slice none 0 0, .slice none 0 0] true true) := by rw [← hq]; simp [show h.size ≠ h2.size by omega, g6]
        have X17 : Ext h h7 := by rw [← hq]; exact X16.set (by omega) _
        have s7 : h7.size = h6.size := by rw [← hq]; simp
        have G7 : GL 2 fc h7 (.slice a0 n0 e0) (fldsL (l.drop n)) := G.move (by omega) fun b hb => by
          have := hf b hb
          rw [← hq]; simp [show b ≠ h2.size by omega]
        clear hq
        have hE := errF_of_first h0
        have hRE : reqErr m s p a (fldsL (l.drop n)) = 0 := by simp [reqErr, hr, hE]
        have hfs : ∀ f ∈ fldsL (l.drop n), f.1.size < 4611686018427387904 := fun f hff => by
          obtain ⟨x, hx, rfl⟩ := List.mem_map.1 hff
          exact hsd x hx
        refine MCall.by (sLines m s p a (.slice none 0 0) G7.sl (by rw [fldsL_len]; omega) hfs) ?_
        rintro u h8 ⟨ov, rfl, ho, X8⟩
        have g8 := (X8.get h.size (by omega)).trans g7
        have r8 := (X8.get h2.size (by omega)).trans r7
        have s8 := X8.size
        have X18 := X17.trans X8
        rw [if_pos hRE] at ho
        obtain ⟨G8, f8⟩ := ho
        simp only [go_sem, ↓reduceIte]
        refine MCall.by (sEqLines G8.sl (F.ext X18) (by
          have := (headsL_len m s p a).1
          have := linesF_len (fldsL (l.drop n))
          rw [fldsL_len] at this
          rw [List.length_append]; omega)) ?_
        rintro u h9 ⟨⟨r, rfl, hr9⟩, X9⟩
        have g9 := (X9.get h.size (by omega)).trans g8
        have r9 := (X9.get h2.size (by omega)).trans r8
        have s9 := X9.size
        have X19 := X18.trans X9
        cases r with
        | false =>
          have e : backE l = 32 := by
            unfold backE; rw [hT]
            simp only [hr, h0]
            rw [if_neg (by decide), if_neg (by decide), if_neg (fun h => by have := hr9.2 h; cases this)]
          simp only [go_sem, ↓reduceIte, g9]
          exact ⟨⟨#[]⟩, ⟨#[]⟩, ⟨#[]⟩, ⟨#[]⟩, .slice none 0 0, by rw [e]; rfl, done X19, ⟨_, _, _, rfl⟩, fun h0 => by rw [e] at h0; cases h0⟩
        | true =>
          have e : backE l = 0 := by
            unfold backE; rw [hT]
            simp only [hr, h0]
            rw [if_neg (by decide), if_neg (by decide), if_pos (hr9.1 rfl)]
          simp only [go_sem, ↓reduceIte, g9, r9]
          refine ⟨m, s, p, a, .slice a0 n0 e0, by rw [e]; rfl, done X19, ⟨_, _, _, rfl⟩, fun _ => ⟨n, hT, ?_⟩⟩
          refine (G7.ext (X8.trans X9)).move (by simp) fun b hb => ?_
          have := hf b hb
          simp [show b ≠ h.size by omega]
      · have q1 : ((firstN wLn (l.drop n) : Int) != 0) = true := by simp; omega
        have e : backE l = firstN wLn (l.drop n) := by
          unfold backE; rw [hT]
          simp only [hr]
          rw [if_neg (by decide), if_pos h0]
        simp only [go_sem, ↓reduceIte, q1, g5]
        exact ⟨⟨#[]⟩, ⟨#[]⟩, ⟨#[]⟩, ⟨#[]⟩, .slice none 0 0, by rw [e]; rfl, done X15, ⟨_, _, _, rfl⟩, fun h1 => by rw [e] at h1; exact absurd h1 h0⟩
end Go.E1

/-
  RequestBack: the law.
-/
namespace Go.M
open Go.E1
theorem errF_lines {L : List Fld} (h : errF L = 0) : errF (fldsL (linesF L)) = 0 := errF_zero fun f hf => by
  obtain ⟨x, hx, rfl⟩ := List.mem_map.1 hf
  exact (linesF_mem h hx).2.2.1
theorem linesF_again {L : List Fld} (h : errF L = 0) : linesF (fldsL (linesF L)) = linesF L := linesF_same fun x hx => by
  obtain ⟨_, k2, _, k4⟩ := linesF_mem h hx
  exact ⟨k2, k4⟩
theorem linesF_fld {L : List Fld} {x : Ln} (hx : x ∈ linesF L) : x.f ∈ L := by
  obtain ⟨f, hf, hfx⟩ := List.mem_filterMap.1 hx
  unfold lnOf at hfx
  split at hfx
  · cases hfx
  · cases hfx; exact hf
theorem headsL_sz {m s p a : ByteArray} {x : Ln} (hx : x ∈ headsL m s p a) : x.f.1.size ≤ 10 := by
  unfold headsL at hx
  simp only [List.mem_append, List.mem_cons, List.not_mem_nil, or_false] at hx
  rcases hx with (rfl | rfl | rfl) | hx
  · exact Nat.le_of_ble_eq_true rfl
  · exact Nat.le_of_ble_eq_true rfl
  · exact Nat.le_of_ble_eq_true rfl
  · split at hx
    · cases hx
    · rw [List.mem_singleton.1 hx]; exact Nat.le_of_ble_eq_true rfl
end Go.M
namespace Go.E1
open Go Go.Proofs Go.M
set_option linter.unusedSimpArgs false

theorem MO.cutx {E : Env} {ops : List LOper} {ks : List Nat} {b : LCode} {k : Cont} {fr : Fr} {h : LHeap} {Q : Value → LHeap → Prop} (J : Fr → LHeap → Prop) (w : MO E ops ks (.inv J k) fr h Q) (hb : ∀ fr h, J fr h → MC E b k fr h Q) : MO E ops ks (.code b k) fr h Q :=
  w.cont (kont_cut hb)
theorem sReqBack (m s p a : ByteArray) {fv bv w : Value} {l : List Fld} {l2 : List Ln} {k : Nat} {h : LHeap} (F : SL 2 fc h fv l) (hl : RchF l) (hb : ∀ q h', lexec q (.lenS bv) h' = some (.int .i64 (k : Nat), h')) (F2 : SL 3 lc h w l2) (hl2 : RchL l2) :
    LCalls EC 7 [reqV m s p a fv bv, w] h fun u _ => u = .bool true := by
  refine LCalls.enter (lf := lf7) rfl rfl (by simp [lf7]) ?_
  have hrb : reachBytes ≤ 140737488355328 := by decide
  have hl21 := hl2.1
  have er : ∀ m s p a fv bv, reqV m s p a fv bv = .agg #[.string m, .string s, .string p, .string a, fv, bv] := fun _ _ _ _ _ _ => rfl
  simp only [reqV, go_sem, lf7, ↓reduceIte]
  generalize hq : h.push (LObj.cells [Value.string m, Value.string s, Value.string p, Value.string a, fv, bv] true true) = h1
  have X1 : Ext h h1 := by rw [← hq]; exact Ext.push _ _
  have g1 : h1.get h.size = some (.cells [.string m, .string s, .string p, .string a, fv, bv] true true) := by rw [← hq]; simp
  have s1 : h1.size = h.size + 1 := by rw [← hq]; simp
  clear hq
  refine MCall.by (sWords m s p a (F.ext X1) hl hb) ?_
  rintro u h2 ⟨rfl, X2⟩
  have g2 := (X2.get h.size (by omega)).trans g1
  have s2 := X2.size
  have X12 := X1.trans X2
  cases hw : wordsB m s p a l k with
  | false => simp only [go_sem, ↓reduceIte]
  | true =>
    obtain ⟨_, _, _, _, h5, _⟩ := words_in hw
    have hlen := s5_len l
    simp only [go_sem, ↓reduceIte]
    refine MCall.by (sDecFields ((F2.ext X12).sa lc_cel) hl21) ?_
    rintro fv2 h3 ⟨G3, _, X3⟩
    have X13 := X12.trans X3
    have s3 := X3.size
    simp only [go_sem, ↓reduceIte]
    refine MCall.by (sSmallF G3.sl ⟨by rw [fldsL_len]; omega, fun x hx => ?_⟩) ?_
    · obtain ⟨y, hy, rfl⟩ := List.mem_map.1 hx
      exact hl2.2 y hy
    rintro u h4 ⟨rfl, X4⟩
    cases hsm : smallF (fldsL l2) with
    | false => simp only [go_sem, ↓reduceIte]
    | true =>
      have h52 : s5 (fldsL l2) ≤ 1000 := of_decide_eq_true hsm
      have hn2 := s5_len (fldsL l2)
      rw [fldsL_len] at hn2
      have hs2 : ∀ x ∈ l2, x.f.1.size < 4611686018427387904 := fun x hx => by have := (hl2.2 x hx).1; omega
      have X14 := X13.trans X4
      have s4 := X4.size
      have g4 := ((X3.trans X4).get h.size (by omega)).trans g2
      have hfs : ∀ f ∈ l, f.1.size < 4611686018427387904 := fun f hf => by have := s5_mem hf; omega
      simp only [go_sem, ↓reduceIte, g4]
      refine MCall.by (sLines m s p a bv (F.ext X14) (by omega) hfs) ?_
      rintro u h5' ⟨ov, rfl, ho, X5⟩
      have X15 := X14.trans X5
      have s5' := X5.size
      have g5 := (X5.get h.size (by omega)).trans g4
      refine MO.cutx (fun fr hh => ∃ tl, fr = (1, w) :: (2, .pointer (some ⟨h.size, 0, none⟩)) :: (5, ov) :: (6, .int .i64 (reqErr m s p a l : Nat)) :: tl ∧ hh = h5') ?_ ?_
      · simp only [go_sem, ↓reduceIte]
        exact ⟨_, rfl⟩
      rintro fr hc ⟨tl, rfl, ec⟩
      rw [ec]
      clear ec hc
      rw [MC_seq]
      refine MC.cut (fun fr hh => ∃ tl, fr = (1, w) :: tl ∧ Ext h hh) ?_ ?_
      · by_cases he : reqErr m s p a l = 0
        · rw [if_pos he] at ho
          obtain ⟨G, hfr⟩ := ho
          have hr : rightB m s p a = true := by
            unfold reqErr at he
            split at he
            · assumption
            · cases he
          have hE : errF l = 0 := by
            unfold reqErr at he
            rw [if_pos hr] at he
            exact he
          obtain ⟨n, hT, hD, hB⟩ := back_lines hr hE
          have hL : (headsL m s p a ++ linesF l).length ≤ 4 + l.length := by
            have := (headsL_len m s p a).1
            have := linesF_len l
            rw [List.length_append]; omega
          have hsz : ∀ x ∈ headsL m s p a ++ linesF l, x.f.1.size < 4611686018427387904 := fun x hx => by
            rcases List.mem_append.1 hx with hx | hx
            · have := headsL_sz hx; omega
            · exact hfs _ (linesF_fld hx)
          have q2 : (((0 : Nat) : Int) == 0) = true := rfl
          simp only [go_sem, ↓reduceIte, he, q2]
          refine MCall.by (sBack G.sl (by omega) hsz) ?_
          rintro u h6 ⟨m', s', p', a', fv6, rfl, X6, ⟨a0, n0, e0, rfl⟩, hback⟩
          obtain ⟨n', hT', G6⟩ := hback hB
          rw [hT] at hT'
          cases hT'
          rw [hD] at G6
          have g6 := (X6.get h.size (by omega)).trans g5
          have s6 := X6.size
          have n6 : (h.size = h6.size) = False := by simp; omega
          simp only [er, go_sem, ↓reduceIte]
          generalize hq : (LHeap.set (LHeap.push h6 _) h6.size _) = h7
          have X7 : Ext h6 h7 := by rw [← hq]; exact (Ext.push _ _).set (Nat.le_refl _) _
          have r7 : h7.get h6.size = some (.cells [.string m, .string s, .string p, .string a, .slice a0 n0 e0, .slice none 0 0] true true) := by rw [← hq]; simp
          have s7 : h7.size = h6.size + 1 := by rw [← hq]; simp
          clear hq
          have g7 := (X7.get h.size (by omega)).trans g6
          have hRE : reqErr m s p a (fldsL (linesF l)) = 0 := by unfold reqErr; rw [if_pos hr]; exact errF_lines hE
          have hll := linesF_len l
          have hfl : (fldsL (linesF l)).length ≤ l.length := by rw [fldsL_len]; exact hll
          refine MCall.by (sLines m s p a (.slice none 0 0) (G6.ext X7).sl (by omega) (fun f hf => by
            obtain ⟨x, hx, rfl⟩ := List.mem_map.1 hf
            exact hfs _ (linesF_fld hx))) ?_
          rintro u h8 ⟨ov8, rfl, ho8, X8⟩
          rw [if_pos hRE, linesF_again hE] at ho8
          obtain ⟨G8, _⟩ := ho8
          have g8 := (X8.get h.size (by omega)).trans g7
          have r8 := (X8.get h6.size (by omega)).trans r7
          have s8 := X8.size
          have q3 : (((0 : Nat) : Int) != 0) = false := rfl
          simp only [go_sem, ↓reduceIte, hB, hRE, q3]
          refine MCall.by (sLinesSame G8.sl (G.ext (X6.trans (X7.trans X8))).sl (by omega)) ?_
          rintro u h9 ⟨rfl, X9⟩
          have g9 := (X9.get h.size (by omega)).trans g8
          have r9 := (X9.get h6.size (by omega)).trans r8
          have b1 : (m.data.toList == m.data.toList) = true := beq_self_eq_true _
          have b2 : (s.data.toList == s.data.toList) = true := beq_self_eq_true _
          have b3 : (p.data.toList == p.data.toList) = true := beq_self_eq_true _
          have b4 : (a.data.toList == a.data.toList) = true := beq_self_eq_true _
          have eq6 := fun hh => G6.len (q := EC.q) (h := hh)
          have eF := fun hh => F.len (q := EC.q) (h := hh)
          have d1 : ¬ ((fldsL (linesF l)).length : Int) > (l.length : Int) := by omega
          have d1' : ¬ (l.length : Int) < ((fldsL (linesF l)).length : Int) := by omega
          simp only [go_sem, ↓reduceIte, g9, r9, b1, b2, b3, b4, q3, eq6, eF, d1, d1']
          exact ⟨_, rfl, X15.trans (X6.trans (X7.trans (X8.trans X9)))⟩
        · have q2 : ((reqErr m s p a l : Int) == 0) = false := by simp; omega
          simp only [go_sem, ↓reduceIte, q2]
          exact ⟨_, rfl, X15⟩
      · rintro fr h6 ⟨tl, rfl, X6⟩
        simp only [go_sem, ↓reduceIte]
        refine MCall.by (sBack (F2.ext X6) (by omega) hs2) ?_
        rintro u h7 ⟨m', s', p', a', fv7, rfl, X7, ⟨a0, n0, e0, rfl⟩, hback⟩
        simp only [er, go_sem, ↓reduceIte]
        generalize hq : (LHeap.set (LHeap.push h7 _) h7.size _) = h8
        have X8 : Ext h7 h8 := by rw [← hq]; exact (Ext.push _ _).set (Nat.le_refl _) _
        have r8 : h8.get h7.size = some (.cells [.string m', .string s', .string p', .string a', .slice a0 n0 e0, .slice none 0 0] true true) := by rw [← hq]; simp
        clear hq
        by_cases hB : backE l2 = 0
        · obtain ⟨n, hT, G7⟩ := hback hB
          obtain ⟨m1, s1', p1, a1, n1, hT1, hr1, hf1, hl1⟩ := backE_zero hB
          rw [hT] at hT1
          cases hT1
          have hE1 := errF_of_first hf1
          have hRE : reqErr m' s' p' a' (fldsL (l2.drop n)) = 0 := by unfold reqErr; rw [if_pos hr1]; exact hE1
          have q3 : (((0 : Nat) : Int) != 0) = false := rfl
          have q2 : (((0 : Nat) : Int) == 0) = true := rfl
          simp only [go_sem, ↓reduceIte, hB, q3, r8]
          refine MCall.by (sLines m' s' p' a' (.slice none 0 0) (G7.ext X8).sl (by rw [fldsL_len, List.length_drop]; omega) (fun f hf => by
            obtain ⟨x, hx, rfl⟩ := List.mem_map.1 hf
            exact hs2 _ (List.mem_of_mem_drop hx))) ?_
          rintro u h9 ⟨ov9, rfl, ho9, X9⟩
          rw [if_pos hRE, hl1] at ho9
          obtain ⟨G9, _⟩ := ho9
          simp only [go_sem, ↓reduceIte, hRE, q2]
          refine MCall.by (sLinesSame G9.sl (F2.ext (X6.trans (X7.trans (X8.trans X9)))) (by omega)) ?_
          rintro u h10 ⟨rfl, X10⟩
          simp only [go_sem, ↓reduceIte]
        · rcases backE_in l2 with h0 | h0 | h0 | h0
          · exact absurd h0 hB
          · have q3 : (((30 : Nat) : Int) != 0) = true := rfl
            have q4 : (((30 : Nat) : Int) == 32) = false := rfl
            have q5 : (((30 : Nat) : Int) == 31) = false := rfl
            have q6 : (((30 : Nat) : Int) == 30) = true := rfl
            simp only [go_sem, ↓reduceIte, h0, q3, q4, q5, q6]
            try rfl
          · have q3 : (((31 : Nat) : Int) != 0) = true := rfl
            have q4 : (((31 : Nat) : Int) == 32) = false := rfl
            have q5 : (((31 : Nat) : Int) == 31) = true := rfl
            simp only [go_sem, ↓reduceIte, h0, q3, q4, q5]
            try rfl
          · have q3 : (((32 : Nat) : Int) != 0) = true := rfl
            have q4 : (((32 : Nat) : Int) == 32) = true := rfl
            simp only [go_sem, ↓reduceIte, h0, q3, q4]
            try rfl

theorem lawBack (h : LHeap) (lvs : List Value) (hl : LArgs Tryz.prog h 6 [25, 28] lvs) : LCalls EC 7 lvs h fun v _ => v = .bool true := by
  obtain ⟨v0, r0, rfl, h0, hr0⟩ := LArgs_cons hl
  obtain ⟨v1, r1, rfl, h1, hr1⟩ := LArgs_cons hr0
  obtain rfl := LArgs_nil hr1
  obtain ⟨m, s, p, a, fv, bv, l, k, rfl, F, R, B, _⟩ := larg_req h0
  obtain ⟨l2, F2, R2⟩ := larg_lines h1
  exact sReqBack m s p a F R B F2 R2
end Go.E1
