/-
  EncodeRefuses.
-/
import Derived.Test.YtdbjklgnhbmlaaaKn
import Derived.Test.YtdbjklgnhbmlaaaKe
namespace Go.M
open Go.E1
theorem zeros_bv (n : Nat) : (List.replicate n [Value.int .u8 0]).flatten = bv (List.replicate n 0) := by
  induction n with
  | zero => rfl
  | succ n ih => rw [List.replicate_succ, List.replicate_succ, List.flatten_cons, ih]; rfl
def zLn : Ln := ⟨(⟨#[]⟩, ⟨#[]⟩), false⟩
theorem z_len : 0 < (lineEnc zLn).length ∧ (lineEnc zLn).length < 100 := of_decide_eq_true (by kernel_rfl)
end Go.M
namespace Go.E1
open Go Go.Proofs Go.M
set_option linter.unusedSimpArgs false

theorem OutAt.len8 {q : EqF} {h hh : LHeap} {lo : Nat} {v : Value} {l : Bytes} (O : OutAt hh lo v l) : lexec q (.lenS v) h = some (.int .i64 l.length, h) := by
  rcases O with ⟨rfl, rfl⟩ | ⟨b, rfl, _⟩ <;> rfl

def zs (n : Nat) : Bytes := List.replicate n 0
theorem zs_len (n : Nat) : (zs n).length = n := by simp [zs]
theorem x_mkz {q : EqF} {h : LHeap} {n : Nat} (hn : n ≤ 5000) : lexec q (.makeSlice 1 1 [.int .u8 0] (.int .i64 (n : Nat)) (.int .i64 (n : Nat))) h = some (.slice (some ⟨h.size, 0, none⟩) n 1, h.push (.cells (bv (zs n)) true true)) := by
  simp only [lexec]
  rw [if_pos ⟨by omega, Int.le_refl _, by simp [roomOk]; omega, rfl⟩]
  rw [Int.toNat_natCast, zeros_bv]
  rfl
theorem x_strz {q : EqF} {hh : LHeap} {n b : Nat} (hb : b < hh.size) (hg : hh.get b = some (.cells (bv (zs n)) true true)) : lexec q (.bytesStr (.slice (some ⟨b, 0, none⟩) n 1)) hh = some (.string (toBA (zs n)), hh) := by
  have := out_str (q := q) (h := hh) (lo := 0) (v := .slice (some ⟨b, 0, none⟩) n 1) (s := zs n) (.inr ⟨b, by rw [zs_len], Nat.zero_le _, hb, hg⟩)
  exact this
theorem veq_s (s : ByteArray) : veq (.string s) (.string s) = true := by simp [veq]

theorem sRefuses (n m : Int) (never : Bool) (h : LHeap) : LCalls EC 11 [.int .i64 n, .int .i64 m, .bool never] h fun u _ => u = .bool true := by
  refine LCalls.enter (lf := lf11) rfl rfl (by simp [lf11]) ?_
  by_cases a1 : n < 0
  · simp only [go_sem, lf11, ↓reduceIte, a1]
  by_cases a2 : 5000 < n
  · have a2' : n > 5000 := a2
    simp only [go_sem, lf11, ↓reduceIte, a1, a2, a2']
  by_cases a3 : m < 0
  · have a2' : ¬ n > 5000 := a2
    simp only [go_sem, lf11, ↓reduceIte, a1, a2, a2', a3]
  by_cases a4 : 5000 < m
  · have a2' : ¬ n > 5000 := a2
    have a4' : m > 5000 := a4
    simp only [go_sem, lf11, ↓reduceIte, a1, a2, a2', a3, a4, a4']
  have a2' : ¬ n > 5000 := a2
  have a4' : ¬ m > 5000 := a4
  obtain ⟨n, rfl⟩ : ∃ k : Nat, n = k := ⟨n.toNat, by omega⟩
  obtain ⟨m, rfl⟩ : ∃ k : Nat, m = k := ⟨m.toNat, by omega⟩
  simp only [go_sem, lf11, ↓reduceIte, a1, a2, a2', a3, a4, a4']
  have m1 := x_mkz (q := EC.q) (h := h) (n := n) (by omega)
  have m2 := x_mkz (q := EC.q) (h := h.push (.cells (bv (zs n)) true true)) (n := m) (by omega)
  simp only [LHeap.size_push] at m2
  have k1 : ∀ hh : LHeap, h.size < hh.size → hh.get h.size = some (.cells (bv (zs n)) true true) → lexec EC.q (.bytesStr (.slice (some ⟨h.size, 0, none⟩) n 1)) hh = some (.string (toBA (zs n)), hh) := fun hh h1 h2 => x_strz h1 h2
  have s1 := k1 (h.push (.cells (bv (zs n)) true true)) (by simp) (by simp)
  have s2 := k1 ((h.push (.cells (bv (zs n)) true true)).push (.cells (bv (zs m)) true true)) (by simp; omega) (by simp)
  have s3 := x_strz (q := EC.q) (hh := (h.push (.cells (bv (zs n)) true true)).push (.cells (bv (zs m)) true true)) (n := m) (b := h.size + 1) (by simp) (by simp)
  have s4 := k1 (((h.push (.cells (bv (zs n)) true true)).push (.cells (bv (zs m)) true true)).push (LObj.cells [Value.string { data := #[] }, Value.string { data := #[] }, Value.bool false] true true)) (by simp; omega) (by simp; omega)
  have s5 := x_strz (q := EC.q) (hh := ((h.push (.cells (bv (zs n)) true true)).push (.cells (bv (zs m)) true true)).push (LObj.cells [Value.string { data := #[] }, Value.string { data := #[] }, Value.bool false] true true)) (n := m) (b := h.size + 1) (by simp) (by simp)
  refine MC.dregion ?_
  simp only [go_sem, ↓reduceIte, m1, m2, s1, s2, s3, s4, s5, veq_s]
  generalize hq : (LHeap.set _ (h.size + 1 + 1) _) = h1
  have g1 : h1.get (h.size + 1 + 1) = some (.cells [.string (toBA (zs n)), .string (toBA (zs m)), .bool never] true true) := by rw [← hq]; simp
  have z1 : h1.size = h.size + 1 + 1 + 1 := by rw [← hq]; simp
  clear hq m1 m2 k1 s1 s2 s3 s4 s5
  have hsn : (toBA (zs n)).size = n := by rw [toBA_size, zs_len]
  have hsm : (toBA (zs m)).size = m := by rw [toBA_size, zs_len]
  generalize toBA (zs n) = sn at *
  generalize toBA (zs m) = sm at *
  let x : Ln := ⟨(sn, sm), never⟩
  have hbl := lineEnc_len x
  have hblz : blockEnc [zLn, x] = lineEnc zLn ++ lineEnc x := by simp [blockEnc]
  have hblx : blockEnc [x] = lineEnc x := by simp [blockEnc]
  have hx1 : x.f.1.size = n := hsn
  have hx2 : x.f.2.size = m := hsm
  have hzl := z_len
  have hlen2 : (blockEnc [zLn, x]).length = (lineEnc zLn).length + (lineEnc x).length := by rw [hblz, List.length_append]
  have ls2 : ∀ {hh : LHeap} {b : Nat}, b < hh.size → hh.get b = some (.cells [.string ⟨#[]⟩, .string ⟨#[]⟩, .bool false, .string sn, .string sm, .bool never] true true) → LS0 hh (.slice (some ⟨b, 0, none⟩) 2 3) [zLn, x] := fun h1 h2 => .inr ⟨_, _, true, true, rfl, h1, h2, rfl⟩
  have ls1 : ∀ {hh : LHeap} {b : Nat}, b < hh.size → hh.get b = some (.cells [.string sn, .string sm, .bool never] true true) → LS0 hh (.slice (some ⟨b, 0, none⟩) 1 3) [x] := fun h1 h2 => .inr ⟨_, _, true, true, rfl, h1, h2, rfl⟩
  by_cases hok : n ≤ 4096 ∧ m ≤ 4096
  · obtain ⟨o1, o2⟩ := hok
    refine MCall.by (sLine (x := x) (by omega) (by omega)) ?_
    rintro u h2 ⟨w, rfl, O2, X2⟩
    have g2 := (X2.get (h.size + 1 + 1) (by omega)).trans g1
    have z2 := X2.size
    simp only [go_sem, ↓reduceIte, g2]
    have hokL : ∀ y ∈ [zLn, x], okLn y := fun y hy => by
      simp only [List.mem_cons, List.not_mem_nil, or_false] at hy
      rcases hy with rfl | rfl
      · exact ⟨by decide, by decide⟩
      · exact ⟨by omega, by omega⟩
    refine MCall.by (sEncode (ls2 (by simp) (by simp)) (by simp) (by omega)) ?_
    rintro u h3 ⟨X3, ⟨_, w2, rfl, O3⟩ | ⟨⟨y, hy, hny⟩, _⟩⟩
    rotate_left
    · exact absurd (hokL y hy) hny
    have g3 := (X3.get (h.size + 1 + 1) (by simp; omega)).trans (show LHeap.get _ (h.size + 1 + 1) = some (.cells [.string sn, .string sm, .bool never] true true) by rw [LHeap.get_push, if_neg (by omega)]; exact g2)
    have z3 := X3.size
    simp only [LHeap.size_push] at z3
    have e2 := fun hh => O2.len8 (q := EC.q) (h := hh)
    have e3 := fun hh => O3.len8 (q := EC.q) (h := hh)
    have b1 : ¬ (n : Int) > 4096 := by omega
    have b1' : ¬ (4096 : Int) < (n : Int) := by omega
    have b2 : ¬ (m : Int) > 4096 := by omega
    have b2' : ¬ (4096 : Int) < (m : Int) := by omega
    have q0 : ((0 : Int) == 0) = true := rfl
    have d1 : ((blockEnc [zLn, x]).length : Int) > ((lineEnc x).length : Int) := by omega
    have d1' : ((lineEnc x).length : Int) < ((blockEnc [zLn, x]).length : Int) := d1
    simp only [go_sem, ↓reduceIte, b1, b1', b2, b2', q0, e2, e3, d1, d1', g3]
    refine MCall.by (sLen8 (ls1 (by simp) (by simp)) (by simp) (by rw [hblx]; omega)) ?_
    rintro u h4 ⟨X4, ⟨_, rfl⟩ | ⟨⟨y, hy, hny⟩, _⟩⟩
    rotate_left
    · exact absurd (hokL y (List.mem_cons_of_mem _ hy)) hny
    rw [hblx]
    have q1 : (((lineEnc x).length : Int) == ((lineEnc x).length : Int)) = true := by simp
    simp only [go_sem, ↓reduceIte, q1, e2]
  · have hbad : 4096 < n ∨ 4096 < m := by omega
    have hnx : ¬ okLn x := fun hk => by have := hk.1; have := hk.2; omega
    refine MCall.by (sLineBad (x := x) (by omega)) ?_
    rintro u h2 ⟨rfl, X2⟩
    have g2 := (X2.get (h.size + 1 + 1) (by omega)).trans g1
    have z2 := X2.size
    simp only [go_sem, ↓reduceIte, g2]
    refine MCall.by (sEncode (ls2 (by simp) (by simp)) (by simp) (by omega)) ?_
    rintro u h3 ⟨X3, ⟨hall, _⟩ | ⟨_, rfl⟩⟩
    · exact absurd (hall x (by simp)) hnx
    have g3 := (X3.get (h.size + 1 + 1) (by simp; omega)).trans (show LHeap.get _ (h.size + 1 + 1) = some (.cells [.string sn, .string sm, .bool never] true true) by rw [LHeap.get_push, if_neg (by omega)]; exact g2)
    have z3 := X3.size
    simp only [LHeap.size_push] at z3
    have q0 : ((0 : Int) == 0) = true := rfl
    have q11 : ((11 : Int) == 11) = true := rfl
    have q00 : (((0 : Nat) : Int) == 0) = true := rfl
    by_cases hn4 : 4096 < n
    · have b1 : (n : Int) > 4096 := by omega
      have b1' : (4096 : Int) < (n : Int) := by omega
      simp only [go_sem, ↓reduceIte, b1, b1', q11, q0, q00, g3]
      refine MCall.by (sLen8 (ls1 (by simp) (by simp)) (by simp) (by rw [hblx]; omega)) ?_
      rintro u h4 ⟨X4, ⟨hall, _⟩ | ⟨_, rfl⟩⟩
      · exact absurd (hall x (by simp)) hnx
      simp only [go_sem, ↓reduceIte, q0]
    · have b1 : ¬ (n : Int) > 4096 := by omega
      have b1' : ¬ (4096 : Int) < (n : Int) := by omega
      have b2 : (m : Int) > 4096 := by omega
      have b2' : (4096 : Int) < (m : Int) := by omega
      simp only [go_sem, ↓reduceIte, b1, b1', b2, b2', q11, q0, q00, g3]
      refine MCall.by (sLen8 (ls1 (by simp) (by simp)) (by simp) (by rw [hblx]; omega)) ?_
      rintro u h4 ⟨X4, ⟨hall, _⟩ | ⟨_, rfl⟩⟩
      · exact absurd (hall x (by simp)) hnx
      simp only [go_sem, ↓reduceIte, q0]

theorem larg_i64 {h : LHeap} {n : Nat} {lv : Value} (hl : LArg Try.prog h n 3 lv) : ∃ i, lv = .int .i64 i := by
  rcases hl with ⟨g1, _⟩ | ⟨_, hl⟩
  · simp [isAggP, Try.underlying3] at g1
  · obtain ⟨i, h1, h2⟩ := LRd_int Try.underlying3 hl
    exact ⟨i, by simpa using h1⟩
theorem larg_bool8 {h : LHeap} {n : Nat} {lv : Value} (hl : LArg Try.prog h n 4 lv) : ∃ b, lv = .bool b := by
  rcases hl with ⟨g1, _⟩ | ⟨_, hl⟩
  · simp [isAggP, Try.underlying4] at g1
  · obtain ⟨b, h1⟩ := LRd_bool Try.underlying4 hl
    exact ⟨b, by simpa using h1⟩
theorem lawRefuses (h : LHeap) (lvs : List Value) (hl : LArgs Try.prog h 6 [3, 3, 4] lvs) : LCalls EC 11 lvs h fun v _ => v = .bool true := by
  obtain ⟨v0, r0, rfl, h0, hr0⟩ := LArgs_cons hl
  obtain ⟨v1, r1, rfl, h1, hr1⟩ := LArgs_cons hr0
  obtain ⟨v2, r2, rfl, h2, hr2⟩ := LArgs_cons hr1
  obtain rfl := LArgs_nil hr2
  obtain ⟨n, rfl⟩ := larg_i64 h0
  obtain ⟨m, rfl⟩ := larg_i64 h1
  obtain ⟨b, rfl⟩ := larg_bool8 h2
  exact sRefuses n m b h
end Go.E1
