/-
  EncodeRows.
-/
import Derived.Test.YtdbjklgnhbmlaaaKo
import Derived.Test.YtdbjklgnhbmlaaaKp
namespace Go.M
open Go.E1
theorem blockEnc_append (a b : List Ln) : blockEnc (a ++ b) = blockEnc a ++ blockEnc b := by simp [blockEnc]
theorem plain_block {l : List Ln} (h : ∀ x ∈ l, okLn x) : plainB (blockEnc l) = true := by
  have := plain_lines [] l h
  rwa [List.append_nil] at this
end Go.M
namespace Go.E1
open Go Go.Proofs Go.M
set_option linter.unusedSimpArgs false

theorem gl_cat {α : Type} {k by' : Nat} {c : α → List Value} (C : Cel k c) {q : EqF} {hh : LHeap} {v w : Value} {l ys : List α} (g : GL k c hh v l) (hw : hh.firstCells k w = some (ys.length, ys.flatMap c)) (hn : l.length + ys.length < 1000000) (hb : by' ≤ 1000) :
    ∃ v' hh', lexec q (.append k by' v w) hh = some (v', hh') ∧ GL k c hh' v' (l ++ ys) ∧ hh.size ≤ hh'.size ∧ (∀ b, b < hh.size → blkOf v ≠ some b → hh'.get b = hh.get b) ∧ (∀ b, blkOf v' = some b → blkOf v = some b ∨ hh.size ≤ b) := by
  have hr : ∀ m, m ≤ 1000000 → roomOk m by' = true := fun m hm => by
    have : m * by' ≤ 1000000 * 1000 := Nat.mul_le_mul hm hb
    simp only [roomOk, Bool.and_eq_true, decide_eq_true_eq]
    omega
  by_cases h0 : ys.length = 0
  · obtain rfl : ys = [] := List.length_eq_zero_iff.1 h0
    refine ⟨v, hh, ?_, by simpa using g, Nat.le_refl _, fun b _ _ => rfl, fun b hb => .inl hb⟩
    rcases g with ⟨rfl, rfl⟩ | ⟨b, rfl, h1, h2⟩
    · exact x_append_zero (c := 0) hw
    · have e1 : oneCells ([] : List Value) = true := rfl
      have e2 := hr (l.length + 0) (by simp at hn ⊢; omega)
      simp only [List.length_nil, List.flatMap_nil] at hw
      have e3 := C.flat_len l
      simp [lexec, hw, e1, e2, h2, e3]
      simpa using e2
  · rcases g with ⟨rfl, rfl⟩ | ⟨b, rfl, h1, h2⟩
    · refine ⟨_, _, x_append_none hw h0 (C.flat_one ys) (hr _ (by omega)), .inr ⟨hh.size, rfl, by simp, by simp⟩, by simp, fun b hb _ => by simp [show b ≠ hh.size by omega], fun b hb => .inr (by simp only [blkOf_some, Option.some.injEq] at hb; omega)⟩
    · refine ⟨_, _, x_append_some hw h0 h2 (by rw [C.flat_len]; omega) (C.flat_one ys) (hr _ (by omega)), .inr ⟨hh.size, by rw [List.length_append], by simp, by simp⟩, by simp, fun i hi hne => by simp [show i ≠ hh.size by omega, show i ≠ b from fun h => hne (by rw [h]; rfl)], fun b hb => .inr (by simp only [blkOf_some, Option.some.injEq] at hb; omega)⟩

theorem lc_cel' : Cel 3 lc := ⟨fun _ => rfl, fun _ => rfl, by omega⟩
theorem LS0.fst {h : LHeap} {v : Value} {l : List Ln} (a : LS0 h v l) : h.firstCells 3 v = some (l.length, l.flatMap lc) := by
  rcases a with ⟨rfl, rfl⟩ | ⟨b, cs, t, r, rfl, h1, h2, rfl⟩
  · rfl
  · by_cases h0 : l.length = 0
    · obtain rfl : l = [] := List.length_eq_zero_iff.1 h0
      simp [LHeap.firstCells]
    · rw [first_some h2 (by rw [lcells_len]; omega) h0, List.drop_zero, ← lcells_len, List.take_length]; rfl
theorem GL.ls0 {h : LHeap} {v : Value} {l : List Ln} (g : GL 3 lc h v l) : LS0 h v l := by
  rcases g with h1 | ⟨b, h1, h2, h3⟩
  · exact .inl h1
  · exact .inr ⟨b, _, true, true, h1, h2, h3, rfl⟩

theorem s10_cat (a b : List Ln) : s10 (a ++ b) = s10 a + s10 b := s10_append a b

theorem sRows8 {h : LHeap} {va vb : Value} {a b : List Ln} (S : LS0 h va a) (ha : Rch a) (T : LS0 h vb b) (hb : Rch b) :
    LCalls EC 12 [va, vb] h fun u _ => u = .bool true := by
  refine LCalls.enter (lf := lf12) rfl rfl (by simp [lf12]) ?_
  simp only [go_sem, lf12, ↓reduceIte]
  refine MCall.by (sSmall S ha) ?_
  rintro u h2 ⟨rfl, X2⟩
  cases hs : smallB a with
  | false => simp only [go_sem, ↓reduceIte]
  | true =>
    simp only [go_sem, ↓reduceIte]
    refine MCall.by (sSmall (T.ext X2) hb) ?_
    rintro u h3 ⟨rfl, X3⟩
    cases hs2 : smallB b with
    | false => simp only [go_sem, ↓reduceIte]
    | true =>
      have h600 : s10 a ≤ 600 := of_decide_eq_true hs
      have k600 : s10 b ≤ 600 := of_decide_eq_true hs2
      have oka := s10_ok h600
      have okb := s10_ok k600
      have la := s10_len a
      have lb := s10_len b
      have ea := s10_enc a
      have eb := s10_enc b
      have X23 := X2.trans X3
      simp only [go_sem, ↓reduceIte]
      refine MCall.by (sEncode (S.ext X23) (by omega) (by omega)) ?_
      rintro u h4 ⟨X4, ⟨_, wa, rfl, Oa⟩ | ⟨⟨x, hx, hnx⟩, _⟩⟩
      rotate_left
      · exact absurd (oka x hx) hnx
      simp only [go_sem, ↓reduceIte]
      refine MCall.by (sEncode ((T.ext X23).ext X4) (by omega) (by omega)) ?_
      rintro u h5 ⟨X5, ⟨_, wb, rfl, Ob⟩ | ⟨⟨x, hx, hnx⟩, _⟩⟩
      rotate_left
      · exact absurd (okb x hx) hnx
      have X25 := (X23.trans X4).trans X5
      have G0 : GL 3 lc (h5.push (.cells [] true true)) (.slice (some ⟨h5.size, 0, none⟩) 0 3) ([] : List Ln) := .inr ⟨h5.size, rfl, by simp, by simp⟩
      have S6 := (S.ext X25).ext (Ext.push h5 (.cells [] true true))
      obtain ⟨v1, h7, ha1, G1, sz1, g1, n1⟩ := gl_cat lc_cel' (q := EC.q) (by' := 40) G0 S6.fst (by simp; omega) (by omega)
      have X57 : Ext h5 h7 := ⟨by simp at sz1; omega, fun c hc => by rw [g1 c (by simp; omega) (by simp; omega)]; simp [show c ≠ h5.size by omega]⟩
      rw [List.nil_append] at G1
      have T7 := (T.ext X25).ext X57
      obtain ⟨v2, h8, ha2, G2, sz2, g2, n2⟩ := gl_cat lc_cel' (q := EC.q) (by' := 40) G1 T7.fst (by omega) (by omega)
      have n1' : ∀ c, blkOf v1 = some c → h5.size ≤ c := fun c hc => by
        rcases n1 c hc with q | q
        · simp only [blkOf_some, Option.some.injEq] at q; omega
        · simp at q; omega
      have X58 : Ext h5 h8 := ⟨by simp at sz1; omega, fun c hc => by
        have := X57.size
        rw [g2 c (by omega) (fun q => by have := n1' c q; omega)]; exact X57.get c hc⟩
      have ec := s10_enc (a ++ b)
      rw [s10_append] at ec
      simp only [go_sem, ↓reduceIte, ha1, ha2]
      refine MCall.by (sEncode G2.ls0 (by rw [List.length_append]; omega) (by omega)) ?_
      have okc : ∀ x ∈ a ++ b, okLn x := fun x hx => (List.mem_append.1 hx).elim (oka x) (okb x)
      rintro u h9 ⟨X9, ⟨_, wc, rfl, Oc⟩ | ⟨⟨x, hx, hnx⟩, _⟩⟩
      rotate_left
      · exact absurd (okc x hx) hnx
      have X59 := X58.trans X9
      have e1 := out_str (q := EC.q) Oc
      have e2 := out_str (q := EC.q) ((Oa.ext X5).ext X59)
      have e3 := out_str (q := EC.q) (Ob.ext X59)
      have e4 := fun h => out_len (q := EC.q) (h := h) Oc
      have hsz : (blockEnc a).length + (blockEnc b).length ≤ 4611686018427387904 := by omega
      have happ := toBA_append (blockEnc a) (blockEnc b)
      rw [← blockEnc_append] at happ
      have n1 : (blockEnc (a ++ b) == blockEnc (a ++ b)) = true := by simp
      have hpl := plain_block okc
      simp only [go_sem, ↓reduceIte, e1, e2, e3, hsz, happ, n1]
      refine MCall.by (sPlain Oc.bytes (by omega)) ?_
      rintro u h10 ⟨rfl, X10⟩
      rw [hpl]
      simp only [go_sem, ↓reduceIte]
      have XA := X25.trans (X59.trans X10)
      refine MCall.by (sLen8 (S.ext XA) (by omega) (by omega)) ?_
      rintro u h11 ⟨X11, ⟨_, rfl⟩ | ⟨⟨x, hx, hnx⟩, _⟩⟩
      rotate_left
      · exact absurd (oka x hx) hnx
      simp only [go_sem, ↓reduceIte]
      refine MCall.by (sLen8 ((T.ext XA).ext X11) (by omega) (by omega)) ?_
      rintro u h12 ⟨X12, ⟨_, rfl⟩ | ⟨⟨x, hx, hnx⟩, _⟩⟩
      rotate_left
      · exact absurd (okb x hx) hnx
      have w1 : IntKind.i64.wrap (((blockEnc a).length : Int) + ((blockEnc b).length : Int)) = ((blockEnc (a ++ b)).length : Int) := by rw [IntWalk.i64_in _ (by omega), blockEnc_append, List.length_append]; omega
      have n2 : (((blockEnc (a ++ b)).length : Int) == ((blockEnc (a ++ b)).length : Int)) = true := by simp
      simp only [go_sem, ↓reduceIte, e4, w1, n2]

theorem lawRows8 (h : LHeap) (lvs : List Value) (hl : LArgs Try.prog h 6 [40, 40] lvs) : LCalls EC 12 lvs h fun v _ => v = .bool true := by
  obtain ⟨v0, r0, rfl, h0, hr0⟩ := LArgs_cons hl
  obtain ⟨v1, r1, rfl, h1, hr1⟩ := LArgs_cons hr0
  obtain rfl := LArgs_nil hr1
  obtain ⟨a, S, ha⟩ := larg_lines h0
  obtain ⟨b, T, hb⟩ := larg_lines h1
  exact sRows8 S ha T hb
end Go.E1
