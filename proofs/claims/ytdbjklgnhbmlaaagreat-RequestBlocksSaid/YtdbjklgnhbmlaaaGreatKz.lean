/-
  Texts joined: RqK, RqN.
-/
import Derived.Test.YtdbjklgnhbmlaaaGreatKv
import Derived.Test.YtdbjklgnhbmlaaaGreatKp
/-
  Layer 22: what stands ahead of the fields.
-/
namespace Go.M
open Go.E1
def nMeth : List UInt8 := [58, 109, 101, 116, 104, 111, 100]
def nSchm : List UInt8 := [58, 115, 99, 104, 101, 109, 101]
def nPath : List UInt8 := [58, 112, 97, 116, 104]
def nAuth : List UInt8 := [58, 97, 117, 116, 104, 111, 114, 105, 116, 121]
def hdA : List Ln → ByteArray × Nat
  | [] => (⟨#[]⟩, 0)
  | w :: _ => if (w.f.1.data.toList == nAuth) && !(w.f.2.data.toList == []) then (w.f.2, 1) else (⟨#[]⟩, 0)
theorem hdA_le (t : List Ln) : (hdA t).2 ≤ t.length := by
  cases t with
  | nil => exact Nat.le_refl _
  | cons w t => unfold hdA; dsimp only; split <;> simp
def hdT : List Ln → Option (ByteArray × ByteArray × ByteArray × ByteArray × Nat)
  | x :: y :: z :: t => if ((x.f.1.data.toList == nMeth) && (y.f.1.data.toList == nSchm) && (z.f.1.data.toList == nPath)) && !((t.drop (hdA t).2).any ownB) then some (x.f.2, y.f.2, z.f.2, (hdA t).1, 3 + (hdA t).2) else none
  | _ => none
end Go.M
namespace Go.E1
open Go Go.Proofs Go.M
set_option linter.unusedSimpArgs false

theorem MC.cutc {E : Env} {c b : LCode} {k : Cont} {fr : Fr} {h : LHeap} {Q : Value → LHeap → Prop} (J : Fr → LHeap → Prop) (w : MC E c (.inv J k) fr h Q) (hb : ∀ fr h, J fr h → MC E b k fr h Q) : MC E c (.code b k) fr h Q := MC.cut J w hb
def rcs (i : Nat) (x y z : ByteArray) : List Value := [.string (if 0 < i then x else ⟨#[]⟩), .string (if 1 < i then y else ⟨#[]⟩), .string (if 2 < i then z else ⟨#[]⟩), .string ⟨#[]⟩, .slice none 0 0, .slice none 0 0]
def zreq : List Value := [.string ⟨#[]⟩, .string ⟨#[]⟩, .string ⟨#[]⟩, .string ⟨#[]⟩, .slice none 0 0, .slice none 0 0]
theorem rcs0 (x y z : ByteArray) : rcs 0 x y z = [.string ⟨#[]⟩, .string ⟨#[]⟩, .string ⟨#[]⟩, .string ⟨#[]⟩, .slice none 0 0, .slice none 0 0] := rfl
theorem rcs1 (x y z : ByteArray) : rcs 1 x y z = [.string x, .string ⟨#[]⟩, .string ⟨#[]⟩, .string ⟨#[]⟩, .slice none 0 0, .slice none 0 0] := rfl
theorem rcs2 (x y z : ByteArray) : rcs 2 x y z = [.string x, .string y, .string ⟨#[]⟩, .string ⟨#[]⟩, .slice none 0 0, .slice none 0 0] := rfl
theorem rcs3 (x y z : ByteArray) : rcs 3 x y z = [.string x, .string y, .string z, .string ⟨#[]⟩, .slice none 0 0, .slice none 0 0] := rfl
theorem veqs_req (m s p a : ByteArray) : veqs [Value.string m, Value.string s, Value.string p, Value.string a, Value.slice none 0 0, Value.slice none 0 0] [Value.string m, Value.string s, Value.string p, Value.string a, Value.slice none 0 0, Value.slice none 0 0] = true := by simp [veqs, veq]
theorem sHeading {h : LHeap} {v : Value} {l : List Ln} (F : SL 3 lc h v l) (hl : l.length < 1000000000000000) :
    LCalls EC 58 [v] h fun u h' => ∃ m s p a n ok, u = .tuple #[reqV m s p a (.slice none 0 0) (.slice none 0 0), .int .i64 (n : Nat), .bool ok] ∧ (ok = true → hdT l = some (m, s, p, a, n) ∧ n ≤ l.length) ∧ (ok = false → hdT l = none) ∧ Ext h h' := by
  refine LCalls.enter (lf := lf58) rfl rfl (by simp [lf58]) ?_
  have eL := fun hh => F.len (q := EC.q) (h := hh)
  have n1 : (h.size = h.size + 1) = False := by simp
  by_cases h3 : l.length < 3
  · have k0 : (l.length : Int) < 3 := by omega
    have hT : hdT l = none := by
      match l, h3 with
      | [], _ => rfl
      | [_], _ => rfl
      | [_, _], _ => rfl
    simp only [go_sem, lf58, ↓reduceIte, eL, k0, n1]
    exact ⟨⟨#[]⟩, ⟨#[]⟩, ⟨#[]⟩, ⟨#[]⟩, 0, false, rfl, fun e => (by cases e), fun _ => hT, ((Ext.push _ _).trans (Ext.push _ _)).set (Nat.le_refl _) _⟩
  have k0 : ¬ (l.length : Int) < 3 := by omega
  obtain ⟨x, y, z, t, rfl⟩ : ∃ x y z t, l = x :: y :: z :: t := by
    match l, h3 with
    | [], h3 => exact absurd (by decide) h3
    | [_], h3 => exact absurd (by simp) h3
    | [_, _], h3 => exact absurd (by simp) h3
    | x :: y :: z :: t, _ => exact ⟨x, y, z, t, rfl⟩
  · rcases F with ⟨h0, _⟩ | ⟨b, t1, r1, rfl, hb, hg⟩
    · cases h0
    generalize hcs : (x :: y :: z :: t).flatMap lc = cs at hg
    have hc0 : cs[0]? = some (.string x.f.1) := by rw [← hcs]; rfl
    have hc1 : cs[1]? = some (.string x.f.2) := by rw [← hcs]; rfl
    have hc3 : cs[3]? = some (.string y.f.1) := by rw [← hcs]; rfl
    have hc4 : cs[4]? = some (.string y.f.2) := by rw [← hcs]; rfl
    have hc6 : cs[6]? = some (.string z.f.1) := by rw [← hcs]; rfl
    have hc7 : cs[7]? = some (.string z.f.2) := by rw [← hcs]; rfl
    have k0 : ¬ ((t.length + 1 + 1 + 1 : Nat) : Int) < 3 := by omega
    simp only [go_sem, lf58, ↓reduceIte, eL, k0, n1]
    refine MC.cutb (fun fr hh => ∃ tl, fr = (0, .slice (some ⟨b, 0, none⟩) (x :: y :: z :: t).length 3) :: (2, .pointer (some ⟨h.size, 0, none⟩)) :: (5, .pointer (some ⟨h.size + 1, 0, none⟩)) :: tl ∧ Ext h hh ∧ h.size + 1 < hh.size ∧ hh.get h.size = some (.cells zreq true true) ∧ hh.get (h.size + 1) = some (.cells (rcs 3 x.f.2 y.f.2 z.f.2) true true) ∧ ((x.f.1.data.toList == nMeth) = true ∧ (y.f.1.data.toList == nSchm) = true ∧ (z.f.1.data.toList == nPath) = true)) ?_ ?_
    · refine MC.loop (fun m fr hh => ∃ i tl, m = 3 - i ∧ i ≤ 3 ∧ fr = (0, .slice (some ⟨b, 0, none⟩) (x :: y :: z :: t).length 3) :: (2, .pointer (some ⟨h.size, 0, none⟩)) :: (5, .pointer (some ⟨h.size + 1, 0, none⟩)) :: (19, .slice (some ⟨h.size + 2, 0, none⟩) 3 2) :: (20, .int .i64 3) :: (21, .int .i64 (i : Nat)) :: tl ∧ Ext h hh ∧ h.size + 2 < hh.size ∧ hh.get h.size = some (.cells zreq true true) ∧ hh.get (h.size + 1) = some (.cells (rcs i x.f.2 y.f.2 z.f.2) true true) ∧
          hh.get (h.size + 2) = some (.cells [.string ⟨#[58, 109, 101, 116, 104, 111, 100]⟩, .pointer (some ⟨h.size + 1, 0, none⟩), .string ⟨#[58, 115, 99, 104, 101, 109, 101]⟩, .pointer (some ⟨h.size + 1, 1, none⟩), .string ⟨#[58, 112, 97, 116, 104]⟩, .pointer (some ⟨h.size + 1, 2, none⟩)] true true) ∧
          ((0 < i → (x.f.1.data.toList == nMeth) = true) ∧ (1 < i → (y.f.1.data.toList == nSchm) = true) ∧ (2 < i → (z.f.1.data.toList == nPath) = true))) 3 ?_ ?_
      · refine ⟨0, [], rfl, by omega, rfl, ((Ext.push _ _).trans (Ext.push _ _)).trans (Ext.push _ _), by simp, ?_, ?_, ?_, fun h => (by cases h), fun h => (by cases h), fun h => (by cases h)⟩
        · simp [zreq, show h.size ≠ h.size + 1 + 1 by omega]
        · simp [rcs]
        · simp
      rintro m fr hh J ⟨i, tl, rfl, hi, rfl, X, s1, g1, g2, g3, e1, e2, e3⟩ hJ
      have gb : hh.get b = some (.cells cs t1 r1) := by rw [X.get b hb, hg]
      have hX : ∀ {c c'}, Ext hh ((hh.push c).set hh.size c') := (Ext.push _ _).set (Nat.le_refl _) _
      have nb : (b = hh.size) = False := by have := X.size; simp; omega
      have m0 : (h.size = hh.size) = False := by simp; omega
      have m1 : (h.size + 1 = hh.size) = False := by simp; omega
      have m2 : (h.size + 2 = hh.size) = False := by simp; omega
      have nb1 : (b = h.size + 1) = False := by simp; omega
      rcases (by omega : i = 0 ∨ i = 1 ∨ i = 2 ∨ i = 3) with rfl | rfl | rfl | rfl
      · have a0 : (0 : Int) ≤ 0 := by decide
        have a1 : (0 : Int) < 3 := by decide
        have a2 : (0 : Int) < ((t.length + 1 + 1 + 1 : Nat) : Int) := by omega
        have a3 : (0 : Int).toNat = 0 := rfl
        have a4 : IntKind.i64.wrap ((0 : Int) + 1) = 1 := by decide
        have a5 : IntKind.i64.wrap 1 = 1 := by decide
        have c0 : ((0 : Nat) : Int) = 0 := rfl
        rw [rcs0] at g2
        simp only [go_sem, ↓reduceIte, c0, a0, a1, a3, g3, List.drop_zero, List.drop_succ_cons, List.take_succ_cons, List.take_zero, Nat.zero_mul, Nat.zero_add, Nat.one_mul]
        generalize hq : (LHeap.set (LHeap.push hh _) hh.size _) = h2
        have Xq : Ext hh h2 := by rw [← hq]; exact hX
        have sq : h2.size = hh.size + 1 := by rw [← hq]; simp
        have gq : h2.get hh.size = some (.cells [.string ⟨#[58, 109, 101, 116, 104, 111, 100]⟩, .pointer (some ⟨h.size + 1, 0, none⟩)] true true) := by rw [← hq]; simp
        have gb' := (Xq.get b (by omega)).trans gb
        have g1' := (Xq.get h.size (by omega)).trans g1
        unfold zreq at g1'
        have g2' := (Xq.get (h.size + 1) (by omega)).trans g2
        have g3' := (Xq.get (h.size + 2) (by omega)).trans g3
        clear hq
        refine MC.dregion ?_
        cases hN : (x.f.1.data.toList == nMeth) with
        | false =>
          unfold nMeth at hN
          have hT : hdT (x :: y :: z :: t) = none := by simp only [hdT, nMeth, nSchm, nPath, hN, Bool.false_and, Bool.and_false]; rfl
          simp only [go_sem, ↓reduceIte, c0, a0, a2, a3, gb', gq, hc0, hc1, hc3, hc4, hc6, hc7, hN, g2', g1']
          exact ⟨_, _, _, _, 0, false, rfl, fun e => (by cases e), fun _ => hT, (X.trans Xq).set (Nat.le_refl _) _⟩
        | true =>
          have hN' := hN
          unfold nMeth at hN
          simp only [go_sem, ↓reduceIte, c0, a0, a2, a3, gb', gq, hc0, hc1, hc3, hc4, hc6, hc7, hN]
          refine MC.dregion ?_
          simp only [go_sem, ↓reduceIte, c0, a0, a2, a3, gb', gq, hc0, hc1, hc3, hc4, hc6, hc7, g2', a4, a5]
          refine hJ _ _ _ (by omega) ⟨1, _, rfl, by omega, rfl, (X.trans Xq).set (by omega) _, by simp; omega, ?_, ?_, ?_, ?_⟩
          · simp [g1', zreq]
          · simp [rcs]
          · simp [g3']
          · exact ⟨fun _ => hN', fun h => absurd h (by omega), fun h => absurd h (by omega)⟩
      · have a0 : (0 : Int) ≤ 1 := by decide
        have a1 : (1 : Int) < 3 := by decide
        have a2 : (1 : Int) < ((t.length + 1 + 1 + 1 : Nat) : Int) := by omega
        have a3 : (1 : Int).toNat = 1 := rfl
        have a4 : IntKind.i64.wrap ((1 : Int) + 1) = 2 := by decide
        have a5 : IntKind.i64.wrap 2 = 2 := by decide
        have c0 : ((1 : Nat) : Int) = 1 := rfl
        rw [rcs1] at g2
        simp only [go_sem, ↓reduceIte, c0, a0, a1, a3, g3, List.drop_zero, List.drop_succ_cons, List.take_succ_cons, List.take_zero, Nat.zero_mul, Nat.zero_add, Nat.one_mul]
        generalize hq : (LHeap.set (LHeap.push hh _) hh.size _) = h2
        have Xq : Ext hh h2 := by rw [← hq]; exact hX
        have sq : h2.size = hh.size + 1 := by rw [← hq]; simp
        have gq : h2.get hh.size = some (.cells [.string ⟨#[58, 115, 99, 104, 101, 109, 101]⟩, .pointer (some ⟨h.size + 1, 1, none⟩)] true true) := by rw [← hq]; simp
        have gb' := (Xq.get b (by omega)).trans gb
        have g1' := (Xq.get h.size (by omega)).trans g1
        unfold zreq at g1'
        have g2' := (Xq.get (h.size + 1) (by omega)).trans g2
        have g3' := (Xq.get (h.size + 2) (by omega)).trans g3
        clear hq
        refine MC.dregion ?_
        cases hN : (y.f.1.data.toList == nSchm) with
        | false =>
          unfold nSchm at hN
          have hT : hdT (x :: y :: z :: t) = none := by simp only [hdT, nMeth, nSchm, nPath, hN, Bool.false_and, Bool.and_false]; rfl
          simp only [go_sem, ↓reduceIte, c0, a0, a2, a3, gb', gq, hc0, hc1, hc3, hc4, hc6, hc7, hN, g2', g1']
          exact ⟨_, _, _, _, 0, false, rfl, fun e => (by cases e), fun _ => hT, (X.trans Xq).set (Nat.le_refl _) _⟩
        | true =>
          have hN' := hN
          unfold nSchm at hN
          simp only [go_sem, ↓reduceIte, c0, a0, a2, a3, gb', gq, hc0, hc1, hc3, hc4, hc6, hc7, hN]
          refine MC.dregion ?_
          simp only [go_sem, ↓reduceIte, c0, a0, a2, a3, gb', gq, hc0, hc1, hc3, hc4, hc6, hc7, g2', a4, a5]
          refine hJ _ _ _ (by omega) ⟨2, _, rfl, by omega, rfl, (X.trans Xq).set (by omega) _, by simp; omega, ?_, ?_, ?_, ?_⟩
          · simp [g1', zreq]
          · simp [rcs]
          · simp [g3']
          · exact ⟨fun _ => e1 (by omega), fun _ => hN', fun h => absurd h (by omega)⟩
      · have a0 : (0 : Int) ≤ 2 := by decide
        have a1 : (2 : Int) < 3 := by decide
        have a2 : (2 : Int) < ((t.length + 1 + 1 + 1 : Nat) : Int) := by omega
        have a3 : (2 : Int).toNat = 2 := rfl
        have a4 : IntKind.i64.wrap ((2 : Int) + 1) = 3 := by decide
        have a5 : IntKind.i64.wrap 3 = 3 := by decide
        have c0 : ((2 : Nat) : Int) = 2 := rfl
        rw [rcs2] at g2
        simp only [go_sem, ↓reduceIte, c0, a0, a1, a3, g3, List.drop_zero, List.drop_succ_cons, List.take_succ_cons, List.take_zero, Nat.zero_mul, Nat.zero_add, Nat.one_mul]
        generalize hq : (LHeap.set (LHeap.push hh _) hh.size _) = h2
        have Xq : Ext hh h2 := by rw [← hq]; exact hX
        have sq : h2.size = hh.size + 1 := by rw [← hq]; simp
        have gq : h2.get hh.size = some (.cells [.string ⟨#[58, 112, 97, 116, 104]⟩, .pointer (some ⟨h.size + 1, 2, none⟩)] true true) := by rw [← hq]; simp
        have gb' := (Xq.get b (by omega)).trans gb
        have g1' := (Xq.get h.size (by omega)).trans g1
        unfold zreq at g1'
        have g2' := (Xq.get (h.size + 1) (by omega)).trans g2
        have g3' := (Xq.get (h.size + 2) (by omega)).trans g3
        clear hq
        refine MC.dregion ?_
        cases hN : (z.f.1.data.toList == nPath) with
        | false =>
          unfold nPath at hN
          have hT : hdT (x :: y :: z :: t) = none := by simp only [hdT, nMeth, nSchm, nPath, hN, Bool.false_and, Bool.and_false]; rfl
          simp only [go_sem, ↓reduceIte, c0, a0, a2, a3, gb', gq, hc0, hc1, hc3, hc4, hc6, hc7, hN, g2', g1']
          exact ⟨_, _, _, _, 0, false, rfl, fun e => (by cases e), fun _ => hT, (X.trans Xq).set (Nat.le_refl _) _⟩
        | true =>
          have hN' := hN
          unfold nPath at hN
          simp only [go_sem, ↓reduceIte, c0, a0, a2, a3, gb', gq, hc0, hc1, hc3, hc4, hc6, hc7, hN]
          refine MC.dregion ?_
          simp only [go_sem, ↓reduceIte, c0, a0, a2, a3, gb', gq, hc0, hc1, hc3, hc4, hc6, hc7, g2', a4, a5]
          refine hJ _ _ _ (by omega) ⟨3, _, rfl, by omega, rfl, (X.trans Xq).set (by omega) _, by simp; omega, ?_, ?_, ?_, ?_⟩
          · simp [g1', zreq]
          · simp [rcs]
          · simp [g3']
          · exact ⟨fun _ => e1 (by omega), fun _ => e2 (by omega), fun _ => hN'⟩
      · have a1 : ¬ (3 : Int) < 3 := by decide
        have c0 : ((3 : Nat) : Int) = 3 := rfl
        simp only [go_sem, ↓reduceIte, c0, a1]
        exact ⟨_, rfl, X, by omega, g1, g2, e1 (by omega), e2 (by omega), e3 (by omega)⟩
    · rintro fr hh ⟨tl, rfl, X, s1, g1, g2, e1, e2, e3⟩
      rw [rcs3] at g2
      unfold zreq at g1
      have gb : hh.get b = some (.cells cs t1 r1) := by rw [X.get b hb, hg]
      rw [MC_seq]
      refine MC.cut (fun fr hc => ∃ tl, fr = (0, .slice (some ⟨b, 0, none⟩) (x :: y :: z :: t).length 3) :: (2, .pointer (some ⟨h.size, 0, none⟩)) :: (5, .pointer (some ⟨h.size + 1, 0, none⟩)) :: (8, .int .i64 3) :: tl ∧ hc = hh) ?_ ?_
      · simp only [go_sem, ↓reduceIte]
        exact ⟨_, rfl⟩
      rintro fr hc ⟨tl, rfl, ec⟩
      rw [ec]
      clear ec hc
      rw [MC_seq]
      refine MC.cut (fun fr hc => ∃ tl, fr = (0, .slice (some ⟨b, 0, none⟩) (x :: y :: z :: t).length 3) :: (2, .pointer (some ⟨h.size, 0, none⟩)) :: (5, .pointer (some ⟨h.size + 1, 0, none⟩)) :: (8, .int .i64 ((3 + (hdA t).2 : Nat) : Int)) :: tl ∧ Ext h hc ∧ h.size + 1 < hc.size ∧ hc.get h.size = some (.cells [.string ⟨#[]⟩, .string ⟨#[]⟩, .string ⟨#[]⟩, .string ⟨#[]⟩, .slice none 0 0, .slice none 0 0] true true) ∧ hc.get (h.size + 1) = some (.cells [.string x.f.2, .string y.f.2, .string z.f.2, .string (hdA t).1, .slice none 0 0, .slice none 0 0] true true)) ?_ ?_
      · cases t with
        | nil =>
          have k1 : ¬ ((3 : Int) < 3) := by decide
          have k2 : ¬ ((3 : Int) > 3) := by decide
          have k3 : ((0 + 1 + 1 + 1 : Nat) : Int) = 3 := rfl
          have k4 : ((3 : Nat) : Int) = 3 := rfl
          simp only [go_sem, ↓reduceIte, k3, k4, k1, k2, List.length_nil]
          exact ⟨_, rfl, X, s1, g1, g2⟩
        | cons w t' =>
          have k1 : ((3 : Int) < ((t'.length + 1 + 1 + 1 + 1 : Nat) : Int)) := by omega
          have k2 : (((t'.length + 1 + 1 + 1 + 1 : Nat) : Int) > 3) := by omega
          have a0 : (0 : Int) ≤ 3 := by decide
          have a3 : (3 : Int).toNat = 3 := rfl
          have hc9 : cs[9]? = some (.string w.f.1) := by rw [← hcs]; rfl
          have hc10 : cs[10]? = some (.string w.f.2) := by rw [← hcs]; rfl
          cases hN : (w.f.1.data.toList == nAuth) with
          | false =>
            have hA : hdA (w :: t') = (⟨#[]⟩, 0) := by simp only [hdA, hN, Bool.false_and]; rfl
            unfold nAuth at hN
            rw [hA]
            simp only [go_sem, ↓reduceIte, k1, k2, a0, a3, gb, hc9, hc10, hN]
            exact ⟨_, rfl, X, s1, g1, g2⟩
          | true =>
            cases hV : (w.f.2.data.toList == []) with
            | true =>
              have hA : hdA (w :: t') = (⟨#[]⟩, 0) := by simp only [hdA, hN, hV, Bool.not_true, Bool.and_false]; rfl
              unfold nAuth at hN
              rw [hA]
              simp only [go_sem, ↓reduceIte, k1, k2, a0, a3, gb, hc9, hc10, hN, hV]
              exact ⟨_, rfl, X, s1, g1, g2⟩
            | false =>
              have hA : hdA (w :: t') = (w.f.2, 1) := by simp only [hdA, hN, hV, Bool.not_false, Bool.and_true]; rfl
              unfold nAuth at hN
              have a4 : IntKind.i64.wrap ((3 : Int) + 1) = 4 := by decide
              have a5 : IntKind.i64.wrap 4 = 4 := by decide
              rw [hA]
              simp only [go_sem, ↓reduceIte, k1, k2, a0, a3, gb, hc9, hc10, hN, hV, g2, a4, a5]
              refine ⟨_, rfl, X.set (by omega) _, by simpa using s1, ?_⟩
              simp [g1]
      · rintro fr hc ⟨tl, rfl, Xc, sc, g1, g2⟩
        have gb : hc.get b = some (.cells cs t1 r1) := by rw [Xc.get b hb, hg]
        have hk := hdA_le t
        have hlen : (x :: y :: z :: t).length = t.length + 1 + 1 + 1 := rfl
        have hsl : ∀ hh : LHeap, lexec EC.q (.slice 3 (.slice (some ⟨b, 0, none⟩) (t.length + 1 + 1 + 1) 3) (some (.int .i64 ((3 + (hdA t).2 : Nat) : Int))) none none) hh = some (.slice (some ⟨b, 0 + (3 + (hdA t).2) * 3, none⟩) (t.length + 1 + 1 + 1 - (3 + (hdA t).2)) 3, hh) := fun hh => x_slice_lo (q := EC.q) (h := hh) (e := 3) (b := b) (o := 0) (n := t.length + 1 + 1 + 1) (i := 3 + (hdA t).2) (k := .i64) (by omega)
        have F' := SA.tail (c := lc) lc_cel (b := b) (o := 0) (n := 3 + (hdA t).2) (cs := cs) (t := t1) (r := r1) (h := hc) (l := x :: y :: z :: t) (by omega) (by have := Xc.size; omega) gb (by rw [← hcs, List.drop_zero, ← lc_cel.flat_len, List.take_length]) (by rw [← hcs, lc_cel.flat_len]; omega)
        have hd : (x :: y :: z :: t).drop (3 + (hdA t).2) = t.drop (hdA t).2 := by rw [Nat.add_comm]; rfl
        rw [hd, hlen, Nat.zero_add] at F'
        have hT : hdT (x :: y :: z :: t) = if !((t.drop (hdA t).2).any ownB) then some (x.f.2, y.f.2, z.f.2, (hdA t).1, 3 + (hdA t).2) else none := by simp only [hdT, e1, e2, e3, Bool.and_self, Bool.true_and]
        simp only [go_sem, ↓reduceIte]
        refine MC.dregion ?_
        simp only [go_sem, ↓reduceIte, g2, hsl]
        refine MDCall.by (sAnyOwn F' (by rw [List.length_drop]; simp only [List.length_cons] at hl; omega)) ?_
        rintro u h5 ⟨rfl, X5⟩
        have g1' := (X5.get h.size (by omega)).trans g1
        have g2' := (X5.get (h.size + 1) (by omega)).trans g2
        have X5' := Xc.trans X5
        simp only [go_sem, ↓reduceIte, g1', g2', veqs_req]
        cases hO : (t.drop (hdA t).2).any ownB with
        | true =>
          rw [hO] at hT
          simp only [go_sem, ↓reduceIte, g1', g2', veqs_req]
          exact ⟨_, _, _, _, _, false, rfl, fun e => (by cases e), fun _ => hT, X5'.set (Nat.le_refl _) _⟩
        | false =>
          rw [hO] at hT
          simp only [go_sem, ↓reduceIte, g1', g2', veqs_req]
          exact ⟨_, _, _, _, _, true, rfl, fun _ => ⟨hT, by omega⟩, fun e => (by cases e), X5'.set (Nat.le_refl _) _⟩
end Go.E1

/-
  Layer 22: the request of lines.
-/
namespace Go.M
open Go.E1
def lnEqB (x y : Ln) : Bool := (x.f.1.data.toList == y.f.1.data.toList) && ((x.f.2.data.toList == y.f.2.data.toList) && ((x.never == y.never) && true))
theorem ba_eq {a b : ByteArray} (h : a.data.toList = b.data.toList) : a = b := by
  apply ByteArray.ext
  exact Array.toList_inj.1 h
theorem lnEqB_iff (x y : Ln) : lnEqB x y = true ↔ x = y := by
  unfold lnEqB
  simp only [Bool.and_eq_true, beq_iff_eq, and_true]
  constructor
  · rintro ⟨h1, h2, h3⟩
    obtain ⟨⟨a, b⟩, n⟩ := x
    obtain ⟨⟨c, d⟩, m⟩ := y
    simp only at h1 h2 h3
    rw [ba_eq h1, ba_eq h2, h3]
  · rintro rfl; exact ⟨rfl, rfl, rfl⟩
open Classical in
noncomputable def backE (l : List Ln) : Nat := match hdT l with
  | none => 32
  | some (m, s, p, a, n) => if rightB m s p a = false then 31 else if firstN wLn (l.drop n) ≠ 0 then firstN wLn (l.drop n) else if headsL m s p a ++ linesF (fldsL (l.drop n)) = l then 0 else 32
theorem wrongN_in (a b : ByteArray) : wrongN a b = 0 ∨ wrongN a b = 30 ∨ wrongN a b = 31 := by
  unfold wrongN
  cases nameB a <;> cases valueB b <;> simp
theorem wLn_in (x : Ln) : wLn x = 0 ∨ wLn x = 30 ∨ wLn x = 31 := by
  unfold wLn
  split
  · exact .inr (.inl rfl)
  · exact wrongN_in _ _
theorem firstN_in : ∀ l : List Ln, firstN wLn l = 0 ∨ firstN wLn l = 30 ∨ firstN wLn l = 31
  | [] => .inl rfl
  | x :: l => by
    rw [firstN]
    split
    · exact wLn_in x
    · exact firstN_in l
theorem backE_in (l : List Ln) : backE l = 0 ∨ backE l = 30 ∨ backE l = 31 ∨ backE l = 32 := by
  unfold backE
  split
  · exact .inr (.inr (.inr rfl))
  · split
    · exact .inr (.inr (.inl rfl))
    · split
      · rename_i n _ _ _
        rcases firstN_in (l.drop _) with h | h | h
        · exact .inl h
        · exact .inr (.inl h)
        · exact .inr (.inr (.inl h))
      · split
        · exact .inl rfl
        · exact .inr (.inr (.inr rfl))
theorem errF_of_first {l : List Ln} (h : firstN wLn l = 0) : errF (fldsL l) = 0 := by
  refine errF_zero fun f hf => ?_
  obtain ⟨x, hx, rfl⟩ := List.mem_map.1 hf
  have := firstN_all h x hx
  unfold wLn at this
  split at this
  · cases this
  · exact this
theorem backE_zero {l : List Ln} (h : backE l = 0) : ∃ m s p a n, hdT l = some (m, s, p, a, n) ∧ rightB m s p a = true ∧ firstN wLn (l.drop n) = 0 ∧ headsL m s p a ++ linesF (fldsL (l.drop n)) = l := by
  unfold backE at h
  split at h
  · cases h
  · rename_i m s p a n hT
    split at h
    · cases h
    · rename_i hr
      split at h
      · rename_i h1; exact absurd h h1
      · rename_i h1
        split at h
        · rename_i h2
          exact ⟨m, s, p, a, n, hT, by simpa using hr, by simpa using h1, h2⟩
        · cases h
/-- Lines of fields that may be sent are as they were. -/
theorem name_own {a b : ByteArray} (n : Bool) (h : nameB a = true) : ownB ⟨(a, b), n⟩ = false := by
  unfold ownB
  cases hl : a.data.toList with
  | nil => rfl
  | cons c l =>
    simp only [List.head?_cons, Option.some_beq_some, beq_eq_false_iff_ne]
    rintro rfl
    unfold nameB at h
    rw [hl] at h
    simp only [Bool.and_eq_true, List.all_cons] at h
    exact absurd h.1.1 (by decide)
theorem linesF_mem {L : List Fld} (h : errF L = 0) {x : Ln} (hx : x ∈ linesF L) : nameB x.f.1 = true ∧ hopB x.f.1 x.f.2 = false ∧ wrongN x.f.1 x.f.2 = 0 ∧ x.never = sensB x.f.1 := by
  obtain ⟨f, hf, hfx⟩ := List.mem_filterMap.1 hx
  have hw := errF_all h f hf
  unfold lnOf at hfx
  split at hfx
  · cases hfx
  · rename_i hh
    cases hfx
    exact ⟨wrong_name hw, by simpa using hh, hw, rfl⟩
theorem linesF_same {l : List Ln} (h : ∀ x ∈ l, hopB x.f.1 x.f.2 = false ∧ x.never = sensB x.f.1) : linesF (fldsL l) = l := by
  induction l with
  | nil => rfl
  | cons x l ih =>
    obtain ⟨h1, h2⟩ := h x (List.mem_cons_self ..)
    have e : lnOf x.f = some x := by
      unfold lnOf
      rw [if_neg (by rw [h1]; decide), ← h2]
    have := ih fun y hy => h y (List.mem_cons_of_mem _ hy)
    simp only [fldsL, linesF, List.map_cons, List.filterMap_cons, e] at this ⊢
    rw [this]
theorem hdA_lines {a : ByteArray} {L : List Fld} (h : errF L = 0) : hdA ((if (a.data.toList == []) = true then [] else [⟨(⟨#[58, 97, 117, 116, 104, 111, 114, 105, 116, 121]⟩, a), false⟩]) ++ linesF L) = (a, if (a.data.toList == []) = true then 0 else 1) := by
  cases hA : (a.data.toList == []) with
  | false =>
    simp only [Bool.false_eq_true, if_false, List.cons_append, List.nil_append, hdA, hA]
    rfl
  | true =>
    have ea : a = ⟨#[]⟩ := ba_eq (by rw [eq_of_beq hA])
    simp only [if_true, List.nil_append]
    cases hl : linesF L with
    | nil => rw [hdA, ea]
    | cons w t =>
      have := linesF_mem h (x := w) (by rw [hl]; exact List.mem_cons_self ..)
      have h58 := name_58 this.1
      rw [hdA, if_neg (by
        rw [show (w.f.1.data.toList == nAuth) = false from h58, Bool.false_and]
        decide), ea]
theorem hdT_lines {m s p a : ByteArray} {L : List Fld} (h : errF L = 0) : ∃ n, hdT (headsL m s p a ++ linesF L) = some (m, s, p, a, n) ∧ (headsL m s p a ++ linesF L).drop n = linesF L := by
  have hd := hdA_lines (a := a) h
  have hown : (linesF L).any ownB = false := List.any_eq_false.2 fun x hx => by
    have := name_own (a := x.f.1) (b := x.f.2) x.never (linesF_mem h hx).1
    rw [show (⟨(x.f.1, x.f.2), x.never⟩ : Ln) = x from rfl] at this
    rw [this]; decide
  refine ⟨3 + (if (a.data.toList == []) = true then 0 else 1), ?_, ?_⟩
  · unfold headsL
    rw [List.append_assoc]
    simp only [List.cons_append, List.nil_append, hdT]
    rw [hd]
    have hdrop : List.drop (if (a.data.toList == []) = true then 0 else 1) ((if (a.data.toList == []) = true then [] else [(⟨(⟨#[58, 97, 117, 116, 104, 111, 114, 105, 116, 121]⟩, a), false⟩ : Ln)]) ++ linesF L) = linesF L := by
      cases (a.data.toList == []) <;> rfl
    simp only [hdrop, hown]
    rfl
  · unfold headsL
    cases (a.data.toList == []) <;> rfl
theorem back_lines {m s p a : ByteArray} {L : List Fld} (hr : rightB m s p a = true) (h : errF L = 0) : ∃ n, hdT (headsL m s p a ++ linesF L) = some (m, s, p, a, n) ∧ (headsL m s p a ++ linesF L).drop n = linesF L ∧ backE (headsL m s p a ++ linesF L) = 0 := by
  obtain ⟨n, h1, h2⟩ := hdT_lines (m := m) (s := s) (p := p) (a := a) h
  refine ⟨n, h1, h2, ?_⟩
  unfold backE
  rw [h1]
  have hf : firstN wLn (linesF L) = 0 := firstN_zero fun x hx => by
    obtain ⟨k1, k2, k3, _⟩ := linesF_mem h hx
    unfold wLn
    rw [k1, k2, k3]; rfl
  have hs : linesF (fldsL (linesF L)) = linesF L := linesF_same fun x hx => by
    obtain ⟨_, k2, _, k4⟩ := linesF_mem h hx
    exact ⟨k2, k4⟩
  simp only [hr, h2, hf, hs]
  simp
end Go.M
namespace Go.E1
open Go Go.Proofs Go.M
set_option linter.unusedSimpArgs false

theorem q_line2 (x y : Ln) : EC.q 35 (.agg #[.string x.f.1, .string x.f.2, .bool x.never]) (.agg #[.string y.f.1, .string y.f.2, .bool y.never]) = some (lnEqB x y) := by
  have e : qAll.lookup 35 = some [.str, .str, .bool] := rfl
  rw [EC_q]
  simp only [qOf, e, cellsEq, leafEq, lnEqB]

theorem sEqLines {h : LHeap} {v w : Value} {l k : List Ln} (A : SL 3 lc h v l) (B : SL 3 lc h w k) (hl : l.length < 1000000000000000) :
    LCalls EC 59 [v, w] h fun u h' => (∃ r : Bool, u = .bool r ∧ (r = true ↔ l = k)) ∧ Ext h h' := by
  refine LCalls.enter (lf := lf59) rfl rfl (by simp [lf59]) ?_
  have eA := fun hh => A.len (q := EC.q) (h := hh)
  have eB := fun hh => B.len (q := EC.q) (h := hh)
  by_cases hne : l.length = k.length
  rotate_left
  · have q0 : ((l.length : Int) != (k.length : Int)) = true := by simp; omega
    simp only [go_sem, lf59, ↓reduceIte, eA, eB, q0]
    exact ⟨⟨false, rfl, fun h => (by cases h), fun h => absurd (congrArg List.length h) hne⟩, Ext.refl _⟩
  have q0 : ((l.length : Int) != (k.length : Int)) = false := by simp; omega
  simp only [go_sem, lf59, ↓reduceIte, eA, eB, q0]
  refine MC.cutb (fun fr hh => l = k ∧ Ext h hh) ?_ ?_
  · refine MC.loop (fun m fr hh => ∃ i tl, m = l.length - i ∧ fr = (0, v) :: (1, w) :: (12, .int .i64 l.length) :: (13, .int .i64 (i : Nat)) :: tl ∧ i ≤ l.length ∧ l.take i = k.take i ∧ Ext h hh) l.length ⟨0, [], rfl, rfl, Nat.zero_le _, rfl, Ext.refl _⟩ ?_
    rintro m fr hh J ⟨i, tl, rfl, rfl, hi, hsame, X⟩ hJ
    by_cases hlt : i < l.length
    · have d3 : (i : Int) < (l.length : Int) := by omega
      have d3' : (i : Int) < (k.length : Int) := by omega
      have d4 : (0 : Int) ≤ (i : Int) := by omega
      have w1 : IntKind.i64.wrap ((i : Int) + 1) = ((i + 1 : Nat) : Int) := by rw [IntWalk.i64_in _ (by omega)]; omega
      obtain ⟨x, hx⟩ : ∃ x, l[i]? = some x := ⟨l[i], by simp [hlt]⟩
      obtain ⟨y, hy⟩ : ∃ y, k[i]? = some y := ⟨k[i], by simp [show i < k.length by omega]⟩
      obtain ⟨b1, t1, r1, rfl, hb1, hg1⟩ := A.at hx
      obtain ⟨b2, t2, r2, rfl, hb2, hg2⟩ := B.at hy
      obtain ⟨k1, k2⟩ := lc_cel.get hx
      obtain ⟨m1, m2⟩ := lc_cel.get hy
      have g1 : hh.get b1 = some (.cells (l.flatMap lc) t1 r1) := by rw [X.get b1 hb1, hg1]
      have g2 : hh.get b2 = some (.cells (k.flatMap lc) t2 r2) := by rw [X.get b2 hb2, hg2]
      simp only [lc] at k1 m1
      have hq := q_line2 x y
      simp only [go_sem, ↓reduceIte, d3]
      refine MC.dregion ?_
      cases hE : lnEqB x y with
      | true =>
        rw [hE] at hq
        have := (lnEqB_iff x y).1 hE
        simp only [go_sem, ↓reduceIte, d3, d3', d4, Int.toNat_natCast, g1, g2, k1, k2, m1, m2, hq, w1]
        exact hJ _ _ _ (by omega) ⟨i + 1, _, rfl, rfl, by omega, by rw [List.take_add_one, List.take_add_one, hsame, hx, hy, this], X⟩
      | false =>
        rw [hE] at hq
        simp only [go_sem, ↓reduceIte, d3, d3', d4, Int.toNat_natCast, g1, g2, k1, k2, m1, m2, hq, w1]
        refine ⟨⟨false, rfl, fun h => (by cases h), fun h => ?_⟩, X⟩
        subst h
        rw [hx] at hy
        cases hy
        rw [(lnEqB_iff x x).2 rfl] at hE
        cases hE
    · have d3 : ¬ (i : Int) < (l.length : Int) := by omega
      rw [List.take_of_length_le (by omega), List.take_of_length_le (by omega)] at hsame
      simp only [go_sem, ↓reduceIte, d3]
      exact ⟨hsame, X⟩
  · rintro fr hh ⟨hs, X⟩
    simp only [go_sem, ↓reduceIte]
    exact ⟨⟨true, rfl, fun _ => hs, fun _ => rfl⟩, X⟩
end Go.E1
