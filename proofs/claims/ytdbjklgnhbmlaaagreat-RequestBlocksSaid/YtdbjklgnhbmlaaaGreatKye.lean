/-
  Texts joined: SpR, SpS, M8P, SpT.
-/
import Derived.Test.YtdbjklgnhbmlaaaGreatKyd
import Derived.Test.YtdbjklgnhbmlaaaGreatKi
import Derived.Test.YtdbjklgnhbmlaaaGreatKyb
/-
  Layer 8: blocks: the walks.
-/
namespace Go.E1
open Go Go.Proofs Go.M
set_option linter.unusedSimpArgs false

/-- Slices of bytes. -/
def BLB (h : LHeap) (v : Value) (ls : List Bytes) : Prop := (ls = [] ∧ v = .slice none 0 0) ∨ ∃ b vs t r, v = .slice (some ⟨b, 0, none⟩) ls.length 1 ∧ b < h.size ∧ h.get b = some (.cells vs t r) ∧ vs.length = ls.length ∧ ∀ (i : Nat) (u : Value) (l : Bytes), vs[i]? = some u → ls[i]? = some l → BytesAt h u l
theorem BLB.len {q : EqF} {h hh : LHeap} {v : Value} {ls : List Bytes} (a : BLB hh v ls) : lexec q (.lenS v) h = some (.int .i64 ls.length, h) := by
  rcases a with ⟨rfl, rfl⟩ | ⟨b, _, _, _, rfl, _⟩ <;> rfl
theorem BLB.ext {h h' : LHeap} {v : Value} {ls : List Bytes} (a : BLB h v ls) (X : Ext h h') : BLB h' v ls := by
  rcases a with h1 | ⟨b, vs, t, r, h1, h2, h3, h4, h5⟩
  · exact .inl h1
  · exact .inr ⟨b, vs, t, r, h1, Nat.lt_of_lt_of_le h2 X.size, by rw [X.get b h2]; exact h3, h4, fun i u l a b => (h5 i u l a b).ext X⟩
theorem BLB.at {h : LHeap} {v : Value} {ls : List Bytes} (B : BLB h v ls) {i : Nat} (hi : i < ls.length) : ∃ b vs t r u l, v = .slice (some ⟨b, 0, none⟩) ls.length 1 ∧ b < h.size ∧ h.get b = some (.cells vs t r) ∧ vs[i]? = some u ∧ ls[i]? = some l ∧ BytesAt h u l := by
  rcases B with ⟨rfl, _⟩ | ⟨b, vs, t, r, h1, h2, h3, h4, h5⟩
  · simp at hi
  · exact ⟨b, vs, t, r, vs[i]'(by omega), ls[i], h1, h2, h3, by simp, by simp, h5 i _ _ (by simp) (by simp)⟩

theorem flat_take (ls : List Bytes) {i : Nat} {l : Bytes} (hl : ls[i]? = some l) : (ls.take (i + 1)).flatten = (ls.take i).flatten ++ l := by
  rw [List.take_add_one, hl]; simp
theorem flat_take_le (ls : List Bytes) (i : Nat) : (ls.take i).flatten.length ≤ ls.flatten.length := by
  conv => rhs; rw [← List.take_append_drop i ls, List.flatten_append, List.length_append]
  omega

theorem sConcat {h : LHeap} {v : Value} {ls : List Bytes} (B : BLB h v ls) (hs : ls.flatten.length ≤ 1000000) (hn : ls.length ≤ 1000000) :
    LCalls EC 61 [v] h fun u h' => OutAt h' h.size u ls.flatten ∧ Ext h h' := by
  refine LCalls.enter (lf := lf61) rfl rfl (by simp [lf61]) ?_
  have el := fun h => B.len (q := EC.q) (h := h)
  simp only [go_sem, lf61, ↓reduceIte, el]
  refine MC.cutb (fun fr hh => ∃ tl, fr = (0, v) :: (3, .int .i64 (ls.flatten.length : Int)) :: tl ∧ hh = h) ?_ ?_
  · refine MC.loop (fun m fr hh => ∃ i, m = ls.length - i ∧ i ≤ ls.length ∧ fr = [(0, v), (3, .int .i64 ((ls.take i).flatten.length : Int)), (9, v), (10, .int .i64 (ls.length : Int)), (11, .int .i64 (i : Int))] ∧ hh = h) ls.length ⟨0, rfl, Nat.zero_le _, rfl, rfl⟩ ?_
    rintro m fr hh J ⟨i, rfl, hi, rfl, rfl⟩ hJ
    by_cases hlt : i < ls.length
    · obtain ⟨b, vs, t, r, u, l, rfl, h1, h2, h3, h4, A⟩ := B.at hlt
      have c0 : (0 : Int) ≤ (i : Int) := by omega
      have c1 : (i : Int) < (ls.length : Int) := by omega
      have ea := fun h => A.len (q := EC.q) (h := h)
      have hft := flat_take ls h4
      have hle := flat_take_le ls (i + 1)
      rw [hft, List.length_append] at hle
      have w1 : IntKind.i64.wrap (((ls.take i).flatten.length : Int) + (l.length : Int)) = ((ls.take (i + 1)).flatten.length : Int) := by rw [IntWalk.i64_in _ (by omega), hft, List.length_append]; omega
      have c2 : ¬ ((ls.take (i + 1)).flatten.length : Int) < 0 := by omega
      have w3 : IntKind.i64.wrap ((i : Int) + 1) = ((i + 1 : Nat) : Int) := by rw [IntWalk.i64_in _ (by omega)]; omega
      simp only [go_sem, ↓reduceIte, c0, c1, h2, h3, ea, w1, c2, w3]
      exact hJ (ls.length - (i + 1)) _ _ (by omega) ⟨i + 1, rfl, by omega, rfl, rfl⟩
    · have c1 : ¬ (i : Int) < (ls.length : Int) := by omega
      obtain rfl : i = ls.length := by omega
      simp only [go_sem, ↓reduceIte, c1]
      rw [List.take_length]
      exact ⟨_, rfl⟩
  · rintro fr hh ⟨tl, rfl, rfl⟩
    rw [MC_seq]
    refine MC.cut (fun fr h2 => ∃ w, fr = [(0, v), (6, w)] ∧ OutAt h2 hh.size w [] ∧ Ext hh h2) ?_ ?_
    · by_cases h0 : ls.flatten.length = 0
      · have c1 : (ls.flatten.length : Int) = 0 := by omega
        simp only [go_sem, ↓reduceIte, c1]
        exact ⟨_, rfl, .inl ⟨rfl, rfl⟩, Ext.refl _⟩
      · have c1 : ¬ (ls.flatten.length : Int) = 0 := by omega
        have c2 : (0 : Int) < (ls.flatten.length : Int) := by omega
        have c3 : (ls.flatten.length : Int) ≤ 1099511627776 := by omega
        simp only [go_sem, ↓reduceIte, c1, c2, c3]
        exact ⟨_, rfl, .inr ⟨hh.size, rfl, Nat.le_refl _, by simp, by simp [bv]⟩, Ext.push _ _⟩
    rintro fr h2 ⟨w, rfl, O, X2⟩
    simp only [go_sem, ↓reduceIte, el]
    refine MC.cutb (fun fr h3 => ∃ w tl, fr = (6, w) :: tl ∧ OutAt h3 hh.size w ls.flatten ∧ Ext hh h3) ?_ ?_
    · refine MC.loop (fun m fr h3 => ∃ i w, m = ls.length - i ∧ i ≤ ls.length ∧ fr = [(6, w), (25, v), (26, .int .i64 (ls.length : Int)), (27, .int .i64 (i : Int))] ∧ OutAt h3 hh.size w (ls.take i).flatten ∧ Ext hh h3) ls.length ⟨0, w, rfl, Nat.zero_le _, rfl, O, X2⟩ ?_
      clear O X2
      rintro m fr h3 J ⟨i, w, rfl, hi, rfl, O, X⟩ hJ
      by_cases hlt : i < ls.length
      · obtain ⟨b, vs, t, r, u, l, rfl, h1, g2, g3, g4, A⟩ := B.at hlt
        have c0 : (0 : Int) ≤ (i : Int) := by omega
        have c1 : (i : Int) < (ls.length : Int) := by omega
        have hft := flat_take ls g4
        have hle := flat_take_le ls (i + 1)
        rw [hft, List.length_append] at hle
        have g2' : h3.get b = some (.cells vs t r) := by rw [X.get b h1]; exact g2
        obtain ⟨w', h4, ha, O4, X4, _, _⟩ := out_cat (q := EC.q) O X.size (A.ext X).first (by omega)
        have w3 : IntKind.i64.wrap ((i : Int) + 1) = ((i + 1 : Nat) : Int) := by rw [IntWalk.i64_in _ (by omega)]; omega
        simp only [go_sem, ↓reduceIte, c0, c1, g2', g3, ha, w3]
        exact hJ (ls.length - (i + 1)) _ _ (by omega) ⟨i + 1, w', rfl, by omega, rfl, by rw [hft]; exact O4, X.low X4 (Nat.le_refl _)⟩
      · have c1 : ¬ (i : Int) < (ls.length : Int) := by omega
        obtain rfl : i = ls.length := by omega
        simp only [go_sem, ↓reduceIte, c1]
        rw [List.take_length] at O
        exact ⟨w, _, rfl, O, X⟩
    · rintro fr h3 ⟨w, tl, rfl, O, X⟩
      simp only [go_sem, ↓reduceIte]
      exact ⟨O, X⟩

/-- A list of slices, being gathered. -/
abbrev SlT := Option Addr × Nat × Nat
def slv (s : SlT) : List Value := [.slice s.1 s.2.1 s.2.2]
theorem slv_cel : Cel 1 slv := ⟨fun _ => rfl, fun _ => rfl, by omega⟩
structure GB (h : LHeap) (v : Value) (ls : List Bytes) : Prop where
  ex : ∃ ss : List SlT, GL 1 slv h v ss ∧ ss.length = ls.length ∧ ∀ (i : Nat) (s : SlT) (l : Bytes), ss[i]? = some s → ls[i]? = some l → BytesAt h (.slice s.1 s.2.1 s.2.2) l ∧ ∀ b, blkOf (.slice s.1 s.2.1 s.2.2) = some b → blkOf v ≠ some b
theorem slv_at (ss : List SlT) (i : Nat) : (ss.flatMap slv)[i]? = (ss[i]?).map fun s => .slice s.1 s.2.1 s.2.2 := by
  have : ss.flatMap slv = ss.map fun s => .slice s.1 s.2.1 s.2.2 := by
    induction ss with
    | nil => rfl
    | cons s ss ih => rw [List.flatMap_cons, List.map_cons, ih]; rfl
  rw [this, List.getElem?_map]
theorem GB.blb {h : LHeap} {v : Value} {ls : List Bytes} (g : GB h v ls) : BLB h v ls := by
  obtain ⟨ss, g1, g2, g3⟩ := g.ex
  rcases g1 with ⟨rfl, rfl⟩ | ⟨b, rfl, h1, h2⟩
  · exact .inl ⟨List.length_eq_zero_iff.1 (by simpa using g2.symm), rfl⟩
  · refine .inr ⟨b, _, _, _, by rw [g2], h1, h2, by rw [slv_cel.flat_len, Nat.mul_one, g2], fun i u l hu hl => ?_⟩
    rw [slv_at, Option.map_eq_some_iff] at hu
    obtain ⟨s, hs, rfl⟩ := hu
    exact (g3 i s l hs hl).1
end Go.E1

/-
  Layer 8: Encode and Len: the walks.
-/
namespace Go.M
open Go.E1
def okLn (x : Ln) : Prop := x.f.1.size ≤ 4096 ∧ x.f.2.size ≤ 4096
theorem blockEnc_flat (l : List Ln) : blockEnc l = (l.map lineEnc).flatten := by simp [blockEnc, List.flatMap_def]
end Go.M
namespace Go.E1
open Go Go.Proofs Go.M
set_option linter.unusedSimpArgs false

theorem BytesAt.move {h h' : LHeap} {v : Value} {l : Bytes} (a : BytesAt h v l) (hs : h.size ≤ h'.size) (hg : ∀ b, b < h.size → blkOf v = some b → h'.get b = h.get b) : BytesAt h' v l := by
  rcases a with h1 | ⟨b, o, cs, t, r, rfl, h0, h1, h2, h3⟩
  · exact .inl h1
  · exact .inr ⟨b, o, cs, t, r, rfl, by omega, by rw [hg b h0 rfl]; exact h1, h2, h3⟩
theorem BytesAt.lt {h : LHeap} {v : Value} {l : Bytes} (a : BytesAt h v l) {b : Nat} (hb : blkOf v = some b) : b < h.size := by
  rcases a with ⟨_, c, rfl⟩ | ⟨b', o, cs, t, r, rfl, h0, _⟩
  · cases hb
  · cases hb; exact h0
theorem OutAt.ge {h : LHeap} {lo : Nat} {v : Value} {l : Bytes} (a : OutAt h lo v l) {b : Nat} (hb : blkOf v = some b) : lo ≤ b ∧ b < h.size := by
  rcases a with ⟨_, rfl⟩ | ⟨b', rfl, h1, h2, _⟩
  · cases hb
  · cases hb; exact ⟨h1, h2⟩

theorem gb_append {q : EqF} {hh : LHeap} {v w : Value} {ls : List Bytes} {l : Bytes} (g : GB hh v ls) (hw : BytesAt hh w l) (hwv : ∀ b, blkOf w = some b → blkOf v ≠ some b) (hn : ls.length < 1000000) :
    ∃ v' hh', lexec q (.append 1 24 v (.slice (some ⟨hh.size, 0, none⟩) 1 1)) (hh.push (.cells [w] true true)) = some (v', hh') ∧ GB hh' v' (ls ++ [l]) ∧ hh.size ≤ hh'.size ∧
      (∀ b, b < hh.size → blkOf v ≠ some b → hh'.get b = hh.get b) ∧ (∀ b, blkOf v' = some b → hh.size ≤ b) := by
  obtain ⟨ss, g1, g2, g3⟩ := g.ex
  obtain ⟨o, n, E, rfl⟩ := bsl hw
  obtain ⟨v', hh', ha, G, sz, gg, nn⟩ := gl_append slv_cel (q := q) (by' := 24) g1 (o, n, E) (by omega) (by omega)
  refine ⟨v', hh', ha, ⟨ss ++ [(o, n, E)], G, by simp [g2], ?_⟩, sz, gg, nn⟩
  intro i s x hs hx
  rcases Nat.lt_or_ge i ss.length with q | q
  · rw [List.getElem?_append_left q] at hs
    rw [List.getElem?_append_left (by omega)] at hx
    obtain ⟨a, b⟩ := g3 i s x hs hx
    exact ⟨a.move sz fun c hc hb => gg c hc (b c hb), fun c hc hv => by have := nn c hv; have := a.lt hc; omega⟩
  · rw [List.getElem?_append_right q] at hs
    rw [List.getElem?_append_right (by omega), ← g2] at hx
    match hi : i - ss.length, hs, hx with
    | 0, hs, hx =>
      cases hs; cases hx
      exact ⟨hw.move sz fun c hc hb => gg c hc (hwv c hb), fun c hc hv => by have := nn c hv; have := hw.lt hc; omega⟩
    | k + 1, hs, hx => cases hs
theorem GB.ext {h h' : LHeap} {v : Value} {ls : List Bytes} (g : GB h v ls) (X : Ext h h') : GB h' v ls := by
  obtain ⟨ss, g1, g2, g3⟩ := g.ex
  exact ⟨ss, g1.ext X, g2, fun i s l a b => ⟨(g3 i s l a b).1.ext X, (g3 i s l a b).2⟩⟩
theorem GB.lt {h : LHeap} {v : Value} {ls : List Bytes} (g : GB h v ls) {b : Nat} (hb : blkOf v = some b) : b < h.size := by
  obtain ⟨ss, g1, _⟩ := g.ex
  exact (g1.blk hb).1

theorem sEncode {h : LHeap} {v : Value} {l : List Ln} (S : LS0 h v l) (hl : l.length ≤ 100000) (ht : (blockEnc l).length ≤ 1000000) :
    LCalls EC 33 [v] h fun u h' => Ext h h' ∧ (((∀ x ∈ l, okLn x) ∧ ∃ w, u = .tuple #[w, .int .i64 0] ∧ OutAt h' h.size w (blockEnc l)) ∨ ((∃ x ∈ l, ¬ okLn x) ∧ u = .tuple #[.slice none 0 0, .int .i64 11])) := by
  refine LCalls.enter (lf := lf33) rfl rfl (by simp [lf33]) ?_
  have el := fun h => S.len (q := EC.q) (h := h)
  simp only [go_sem, lf33, ↓reduceIte, el]
  refine MC.cutb (fun fr hh => ∃ ov tl, fr = (4, ov) :: tl ∧ GB hh ov (l.map lineEnc) ∧ Ext h hh ∧ ∀ x ∈ l, okLn x) ?_ ?_
  · refine MC.loop (fun m fr hh => ∃ i ov, m = l.length - i ∧ i ≤ l.length ∧ fr = [(4, ov), (9, v), (10, .int .i64 (l.length : Int)), (11, .int .i64 (i : Int))] ∧ GB hh ov ((l.take i).map lineEnc) ∧ Ext h hh ∧ (∀ x ∈ l.take i, okLn x) ∧ ∀ b, blkOf ov = some b → h.size ≤ b) l.length ⟨0, _, rfl, Nat.zero_le _, rfl, ⟨[], .nil, rfl, fun i s l a => by cases a⟩, Ext.refl _, by simp, fun b hb => by cases hb⟩ ?_
    rintro m fr hh J ⟨i, ov, rfl, hi, rfl, G, X, hok, hlo⟩ hJ
    by_cases hlt : i < l.length
    · obtain ⟨b, x, t, r, rfl, h1, h2, h3, h4⟩ := S.at hlt
      have c0 : (0 : Int) ≤ (i : Int) := by omega
      have c1 : (i : Int) < (l.length : Int) := by omega
      have hle : i * 3 + 3 ≤ (lcells l).length := by rw [lcells_len]; omega
      have h2' : hh.get b = some (.cells (lcells l) t r) := by rw [X.get b h1]; exact h2
      have w3 : IntKind.i64.wrap ((i : Int) + 1) = ((i + 1 : Nat) : Int) := by rw [IntWalk.i64_in _ (by omega)]; omega
      have htk : l.take (i + 1) = l.take i ++ [x] := by rw [List.take_add_one, h3]; rfl
      have hX : ∀ {c c'}, Ext hh ((hh.push c).set hh.size c') := (Ext.push _ _).set (Nat.le_refl _) _
      simp only [go_sem, ↓reduceIte, c0, c1, h2', hle, h4]
      by_cases hx : okLn x
      · refine MCall.by (sLine (x := x) hx.1 hx.2) ?_
        rintro u h5 ⟨w, rfl, O, X5⟩
        obtain ⟨wo, wn, wE, rfl⟩ := bsl O.bytes
        have n0 : (((0 : Int)) != 0) = false := rfl
        have G5 := (G.ext hX).ext X5
        obtain ⟨ov', h6, ha, G6, sz6, g6, n6⟩ := gb_append (q := EC.q) G5 O.bytes (fun c hc hv => by have := (O.ge hc).1; have := G.lt hv; simp at *; omega) (by rw [List.length_map, List.length_take]; omega)
        simp only [go_sem, ↓reduceIte, n0, ha, w3]
        have sz5 := X5.size
        have szX := X.size
        simp only [LHeap.size_set, LHeap.size_push] at sz5
        refine hJ (l.length - (i + 1)) _ _ (by omega) ⟨i + 1, ov', rfl, by omega, rfl, by rw [htk, List.map_append]; exact G6, ⟨by omega, fun c hc => ?_⟩, ?_, fun c hc => by have := n6 c hc; omega⟩
        · rw [g6 c (by omega) (fun hv => by have := hlo c hv; omega)]
          exact ((X.trans hX).trans X5).get c hc
        · intro y hy
          rw [htk, List.mem_append] at hy
          rcases hy with hy | hy
          · exact hok y hy
          · rw [List.mem_singleton] at hy; rw [hy]; exact hx
      · refine MCall.by (sLineBad (x := x) (by unfold okLn at hx; omega)) ?_
        rintro u h5 ⟨rfl, X5⟩
        have n0 : (((11 : Int)) != 0) = true := rfl
        simp only [go_sem, ↓reduceIte, n0]
        exact ⟨(X.trans hX).trans X5, .inr ⟨x, List.mem_of_getElem? h3, hx⟩⟩
    · have c1 : ¬ (i : Int) < (l.length : Int) := by omega
      obtain rfl : i = l.length := by omega
      simp only [go_sem, ↓reduceIte, c1]
      rw [List.take_length] at G hok
      exact ⟨ov, _, rfl, G, X, hok⟩
  · rintro fr hh ⟨ov, tl, rfl, G, X, hok⟩
    simp only [go_sem, ↓reduceIte]
    refine MCall.by (sConcat G.blb (by rw [← blockEnc_flat]; exact ht) (by rw [List.length_map]; omega)) ?_
    rintro u h2 ⟨O, X2⟩
    rw [← blockEnc_flat] at O
    simp only [go_sem, ↓reduceIte]
    exact ⟨X.trans X2, .inl ⟨hok, u, rfl, O.low X.size⟩⟩

end Go.E1

/-
  Layer 8, in plain Lean: careful forms, and what is read of what is written.
-/
namespace Go.M
open Go.E1

/-! ### Careful forms -/
def textsGo : Nat → Bytes → Nat → Option Nat
  | 0, _, at' => some at'
  | k + 1, b, at' => if (litDec 4096 (b.drop at')).2.2 ≠ 0 then none else textsGo k b (at' + (litDec 4096 (b.drop at')).2.1)
def formB : Bytes → Nat
  | [] => 0
  | c :: r =>
    if 128 ≤ c.toNat then
      (if (pfx 7 (c :: r)).2.2 ≠ 0 ∨ 61 < (pfx 7 (c :: r)).1 ∨ (pfx 7 (c :: r)).1 = 0 then 0 else (pfx 7 (c :: r)).2.1)
    else if 32 ≤ c.toNat then 0 else
      if (pfx 4 (c :: r)).2.2 ≠ 0 ∨ 61 < (pfx 4 (c :: r)).1 then 0 else
      match textsGo (if (pfx 4 (c :: r)).1 = 0 then 2 else 1) ((c :: r).drop (pfx 4 (c :: r)).2.1) 0 with
      | none => 0
      | some k => (pfx 4 (c :: r)).2.1 + k
theorem formB_cons (c : UInt8) (r : Bytes) : formB (c :: r) = if 128 ≤ c.toNat then
      (if (pfx 7 (c :: r)).2.2 ≠ 0 ∨ 61 < (pfx 7 (c :: r)).1 ∨ (pfx 7 (c :: r)).1 = 0 then 0 else (pfx 7 (c :: r)).2.1)
    else if 32 ≤ c.toNat then 0 else
      if (pfx 4 (c :: r)).2.2 ≠ 0 ∨ 61 < (pfx 4 (c :: r)).1 then 0 else
      match textsGo (if (pfx 4 (c :: r)).1 = 0 then 2 else 1) ((c :: r).drop (pfx 4 (c :: r)).2.1) 0 with
      | none => 0
      | some k => (pfx 4 (c :: r)).2.1 + k := rfl
def plainGo : Nat → Bytes → Bool
  | 0, _ => true
  | _ + 1, [] => true
  | k + 1, c :: r => if formB (c :: r) = 0 then false else plainGo k ((c :: r).drop (formB (c :: r)))
def plainB (b : Bytes) : Bool := plainGo b.length b

theorem valOf_bad {nm : ByteArray} {b : Bytes} (h : (litDec 4096 b).2.2 ≠ 0) : E1.valOf nm b = ((⟨#[]⟩, ⟨#[]⟩), [], (litDec 4096 b).2.2) := if_pos h
theorem valOf_ok {nm : ByteArray} {b : Bytes} (h : ¬ (litDec 4096 b).2.2 ≠ 0) : E1.valOf nm b = ((nm, toBA (litDec 4096 b).1), b.drop (litDec 4096 b).2.1, 0) := if_neg h

theorem kbits_hi {c : UInt8} (h : 128 ≤ c.toNat) : kbits c = 7 := if_pos h
theorem kbits_lo {c : UInt8} (h : c.toNat < 32) : kbits c = 4 := by unfold kbits; rw [if_neg (by omega), if_neg (by omega), if_neg (by omega)]

theorem entry_none {s : St} (hL : s.L = []) {n : Nat} (h : n = 0 ∨ 61 < n) : entryOf s n = none := by
  unfold entryOf
  rcases h with h | h
  · rw [if_pos h]
  · rw [if_neg (by omega), if_neg (by omega), hL]; simp
theorem entry_some {s : St} {n : Nat} (h : 1 ≤ n ∧ n ≤ 61) : entryOf s n = some (ent (n - 1)) := by
  unfold entryOf
  rw [if_neg (by omega), if_pos h.2]

/-- A careful form is a line's, over a table without entries; what stands behind it is told. -/
theorem form_careful {s : St} (hL : s.L = []) {most : Nat} (first : Bool) {c : UInt8} {r : Bytes} (hc : c.toNat < 32 ∨ 128 ≤ c.toNat) :
    (formB (c :: r) ≠ 0 ∧ formB (c :: r) ≤ (c :: r).length ∧ ∃ x, form most s first c (c :: r) = (s, (c :: r).drop (formB (c :: r)), .line x)) ∨ (formB (c :: r) = 0 ∧ ∃ t q e, form most s first c (c :: r) = (t, q, .fail e)) := by
  rcases hc with hc | hc
  · have h1 : ¬ 128 ≤ c.toNat := by omega
    have h2 : ¬ 32 ≤ c.toNat := by omega
    have hf : formB (c :: r) = if (pfx 4 (c :: r)).2.2 ≠ 0 ∨ 61 < (pfx 4 (c :: r)).1 then 0 else
      match textsGo (if (pfx 4 (c :: r)).1 = 0 then 2 else 1) ((c :: r).drop (pfx 4 (c :: r)).2.1) 0 with
      | none => 0
      | some k => (pfx 4 (c :: r)).2.1 + k := by
      rw [formB_cons, if_neg h1, if_neg h2]
    have hfm : form most s first c (c :: r) = form most s first c (c :: r) := rfl
    conv at hfm => rhs; unfold form
    rw [kbits_lo hc] at hfm
    have hu := pfx_used 4 (c :: r)
    generalize hb : c :: r = b at *
    rcases hp : pfx 4 b with ⟨n, used, e⟩
    rw [hp] at hf hfm hu
    simp only at hf hfm hu
    by_cases he : e = 0
    · subst he
      obtain ⟨hu1, hu2, _⟩ := hu rfl
      rw [if_neg (by simp), if_neg (by omega), decide_eq_false h1] at hfm
      generalize hb2 : b.drop used = b2 at *
      have hl2 : b2.length = b.length - used := by rw [← hb2, List.length_drop]
      have hok : ∀ f q, fieldOf s false n b2 = (f, q, 0) → ∃ x, form most s first c b = (s, q, .line x) := by
        intro f q h
        rw [h] at hfm
        simp only at hfm
        rw [if_neg (by decide), if_neg (by omega)] at hfm
        exact ⟨_, hfm⟩
      have hbad : ∀ f q e, fieldOf s false n b2 = (f, q, e) → e ≠ 0 → ∃ t q e, form most s first c b = (t, q, .fail e) := by
        intro f q e h he
        rw [h] at hfm
        simp only at hfm
        rw [if_pos he] at hfm
        exact ⟨_, _, _, hfm⟩
      by_cases hn : 61 < n
      · rw [if_pos (.inr hn)] at hf
        refine .inr ⟨hf, hbad (⟨#[]⟩, ⟨#[]⟩) [] 23 ?_ (by decide)⟩
        unfold fieldOf
        rw [if_pos (.inl (by omega)), entry_none hL (.inr hn)]
      · rw [if_neg (by omega)] at hf
        by_cases h0 : n = 0
        · subst h0
          rw [if_pos rfl] at hf
          simp only [textsGo, List.drop_zero, Nat.zero_add] at hf
          by_cases e1 : (litDec 4096 b2).2.2 ≠ 0
          · rw [if_pos e1] at hf
            exact .inr ⟨hf, hbad _ _ _ (by rw [field_text, if_pos e1]) e1⟩
          · rw [if_neg e1] at hf
            by_cases e2 : (litDec 4096 (b2.drop (litDec 4096 b2).2.1)).2.2 ≠ 0
            · rw [if_pos e2] at hf
              exact .inr ⟨hf, hbad _ _ _ (by rw [field_text, if_neg e1, valOf_bad e2]) e2⟩
            · rw [if_neg e2] at hf
              simp only at hf
              obtain ⟨x, hx⟩ := hok _ _ (by rw [field_text, if_neg e1, valOf_ok e2])
              have g1 := litDec_used 4096 b2
              have g2 := litDec_used 4096 (b2.drop (litDec 4096 b2).2.1)
              rw [List.length_drop] at g2
              rw [hf]
              exact .inl ⟨by omega, by omega, x, by rw [hx, ← List.drop_drop, ← List.drop_drop, hb2]⟩
        · rw [if_neg h0] at hf
          simp only [textsGo, List.drop_zero, Nat.zero_add] at hf
          by_cases e1 : (litDec 4096 b2).2.2 ≠ 0
          · rw [if_pos e1] at hf
            exact .inr ⟨hf, hbad _ _ _ (by rw [field_name s (by omega), entry_some ⟨by omega, by omega⟩]; simp only; rw [valOf_bad e1]) e1⟩
          · rw [if_neg e1] at hf
            simp only at hf
            obtain ⟨x, hx⟩ := hok _ _ (by rw [field_name s (by omega), entry_some ⟨by omega, by omega⟩]; simp only; rw [valOf_ok e1])
            have g1 := litDec_used 4096 b2
            rw [hf]
            exact .inl ⟨by omega, by omega, x, by rw [hx, ← List.drop_drop, hb2]⟩
    · rw [if_pos (.inl he)] at hf
      rw [if_pos he] at hfm
      exact .inr ⟨hf, _, _, _, hfm⟩
  · have hf : formB (c :: r) = if (pfx 7 (c :: r)).2.2 ≠ 0 ∨ 61 < (pfx 7 (c :: r)).1 ∨ (pfx 7 (c :: r)).1 = 0 then 0 else (pfx 7 (c :: r)).2.1 := by
      rw [formB_cons, if_pos hc]
    have hfm : form most s first c (c :: r) = form most s first c (c :: r) := rfl
    conv at hfm => rhs; unfold form
    rw [kbits_hi hc] at hfm
    have hu := pfx_used 7 (c :: r)
    generalize hb : c :: r = b at *
    rcases hp : pfx 7 b with ⟨n, used, e⟩
    rw [hp] at hf hfm hu
    simp only at hf hfm hu
    by_cases he : e = 0
    · subst he
      obtain ⟨hu1, hu2, _⟩ := hu rfl
      rw [if_neg (by simp), if_neg (by omega), decide_eq_true hc] at hfm
      by_cases hn : n = 0 ∨ 61 < n
      · rw [if_pos (by omega)] at hf
        rw [field_ix, entry_none hL hn] at hfm
        simp only at hfm
        rw [if_pos (by decide)] at hfm
        exact .inr ⟨hf, _, _, _, hfm⟩
      · rw [if_neg (by simp; omega)] at hf
        rw [field_ix, entry_some ⟨by omega, by omega⟩] at hfm
        simp only at hfm
        rw [if_neg (by simp), if_neg (by omega)] at hfm
        rw [hf]
        exact .inl ⟨by omega, by omega, _, hfm⟩
    · rw [if_pos (.inl he)] at hf
      rw [if_pos he] at hfm
      exact .inr ⟨hf, _, _, _, hfm⟩
theorem formB_mid {c : UInt8} {r : Bytes} (hc : ¬ (c.toNat < 32 ∨ 128 ≤ c.toNat)) : formB (c :: r) = 0 := by
  rw [formB_cons, if_neg (by omega), if_pos (by omega)]

theorem plainGo_fuel : ∀ (k : Nat) (b : Bytes), b.length ≤ k → plainGo k b = plainB b := by
  have gen : ∀ (n k j : Nat) (b : Bytes), b.length ≤ n → b.length ≤ k → b.length ≤ j → plainGo k b = plainGo j b := by
    intro n
    induction n with
    | zero =>
      intro k j b h _ _
      obtain rfl : b = [] := List.length_eq_zero_iff.1 (by omega)
      cases k <;> cases j <;> rfl
    | succ n ih =>
      intro k j b hn hk hj
      cases b with
      | nil => cases k <;> cases j <;> rfl
      | cons c r =>
        simp only [List.length_cons] at hn hk hj
        obtain ⟨k, rfl⟩ : ∃ k', k = k' + 1 := ⟨k - 1, by omega⟩
        obtain ⟨j, rfl⟩ : ∃ j', j = j' + 1 := ⟨j - 1, by omega⟩
        simp only [plainGo]
        by_cases h0 : formB (c :: r) = 0
        · rw [if_pos h0, if_pos h0]
        · rw [if_neg h0, if_neg h0]
          have : ((c :: r).drop (formB (c :: r))).length ≤ r.length := by rw [List.length_drop, List.length_cons]; omega
          exact ih _ _ _ (by omega) (by omega) (by omega)
  exact fun k b h => gen b.length k b.length b (Nat.le_refl _) h (Nat.le_refl _)
theorem plainB_nil : plainB [] = true := rfl
theorem plainB_cons (c : UInt8) (r : Bytes) : plainB (c :: r) = if formB (c :: r) = 0 then false else plainB ((c :: r).drop (formB (c :: r))) := by
  have e : plainB (c :: r) = if formB (c :: r) = 0 then false else plainGo r.length ((c :: r).drop (formB (c :: r))) := rfl
  rw [e]
  by_cases h0 : formB (c :: r) = 0
  · rw [if_pos h0, if_pos h0]
  · rw [if_neg h0, if_neg h0, plainGo_fuel]
    rw [List.length_drop, List.length_cons]; omega

/-! ### What is written -/
theorem ent_at {i : Nat} (h : i < 61) : ents[i]? = some (ent i) := by
  have h' : i < ents.length := by rw [len_ents]; exact h
  simp [ent, List.getD, h']
theorem ixOf_some {p : ByteArray × ByteArray → Bool} {k : Nat} (h : ixOf p ents = (k : Int)) : k < 61 ∧ p (ent k) = true := by
  unfold ixOf at h
  split at h
  · rename_i j hj
    obtain ⟨hlt, hp, _⟩ := List.findIdx?_eq_some_iff_getElem.1 hj
    obtain rfl : j = k := by omega
    rw [len_ents] at hlt
    have := ent_at hlt
    rw [List.getElem?_eq_getElem (by rw [len_ents]; exact hlt)] at this
    rw [Option.some.inj this] at hp
    exact ⟨hlt, hp⟩
  · omega
theorem ba_ext {a b : ByteArray} (h : a.data.toList = b.data.toList) : a = b := by
  apply ByteArray.ext
  exact Array.ext' h
theorem field_entry {a b : ByteArray} {k : Nat} (h : fieldIx a b = (k : Int)) (h0 : 0 < k) : k ≤ 61 ∧ ent (k - 1) = (a, b) := by
  unfold fieldIx at h
  obtain ⟨h1, h2⟩ := ixOf_some (k := k - 1) (p := fEq a b) (by omega)
  refine ⟨by omega, ?_⟩
  simp only [fEq, Bool.and_true, Bool.and_eq_true, beq_iff_eq] at h2
  exact Prod.ext (ba_ext h2.1) (ba_ext h2.2)
theorem name_entry {a : ByteArray} {k : Nat} (h : nameIx a = (k : Int)) (h0 : 0 < k) : k ≤ 61 ∧ (ent (k - 1)).1 = a := by
  unfold nameIx at h
  obtain ⟨h1, h2⟩ := ixOf_some (k := k - 1) (p := nEq a) (by omega)
  refine ⟨by omega, ?_⟩
  simp only [nEq, beq_iff_eq] at h2
  exact ba_ext h2

theorem form_line {most : Nat} {s : St} (first : Bool) {x : Ln} (hx : x.f.1.size ≤ 4096 ∧ x.f.2.size ≤ 4096) (m : Bytes) : ∃ c r, lineEnc x = c :: r ∧ (c.toNat < 32 ∨ 128 ≤ c.toNat) ∧ form most s first c (lineEnc x ++ m) = (s, m, .line x) := by
  obtain ⟨⟨a, b⟩, nv⟩ := x
  simp only at hx
  have hfi := fieldIx_in a b
  have hni := nameIx_in a
  by_cases h : 0 < fieldIx a b ∧ nv = false
  · have e : lineEnc ⟨(a, b), nv⟩ = pfxEnc (fieldIx a b).toNat 7 1 := if_pos h
    obtain ⟨k, hk⟩ : ∃ k : Nat, fieldIx a b = k := ⟨(fieldIx a b).toNat, by omega⟩
    obtain ⟨hk1, hk2⟩ := field_entry hk (by omega)
    rw [e, hk, Int.toNat_natCast]
    obtain ⟨c, r, hc, h1, h2⟩ := pfxEnc_head (n := k) (bits := 7) (mark := 1) (by decide)
    have hp := pfx_enc (n := k) (bits := 7) (mark := 1) (by decide) (by omega) m
    refine ⟨c, r, hc, .inr (by omega), ?_⟩
    have h128 : 128 ≤ c.toNat := by omega
    unfold form
    rw [kbits_hi h128, hp]
    simp only
    rw [if_neg (by simp), if_neg (by omega), decide_eq_true h128, field_ix, entry_some ⟨by omega, hk1⟩]
    simp only
    rw [if_neg (by simp), if_neg (by omega), hk2, List.drop_left, decide_eq_false (by omega), h.2]
  · obtain ⟨k, hk⟩ : ∃ k : Nat, nameIx a = k := ⟨(nameIx a).toNat, by omega⟩
    have e : lineEnc ⟨(a, b), nv⟩ = pfxEnc k 4 (if nv = true then 1 else 0) ++ (if k = 0 then litShort a.data.toList else []) ++ litShort b.data.toList := by
      have e1 : lineEnc ⟨(a, b), nv⟩ = pfxEnc (nameIx a).toNat 4 (if nv = true then 1 else 0) ++ (if nameIx a = 0 then litShort a.data.toList else []) ++ litShort b.data.toList := if_neg h
      rw [e1, hk, Int.toNat_natCast]
      congr 2
      by_cases q : k = 0
      · subst q; rfl
      · rw [if_neg q, if_neg (by omega)]
    obtain ⟨mk, hmk0⟩ : ∃ mk : Nat, mk = (if nv = true then 1 else 0) := ⟨_, rfl⟩
    have hmk : mk ≤ 1 := by rw [hmk0]; split <;> omega
    rw [e, ← hmk0]
    obtain ⟨c, r, hc, h1, h2⟩ := pfxEnc_head (n := k) (bits := 4) (mark := mk) (by omega)
    have hc32 : c.toNat < 32 := by omega
    have hnv : decide (16 ≤ c.toNat ∧ c.toNat < 32) = nv := by
      cases nv with
      | true => rw [if_pos rfl] at hmk0; exact decide_eq_true (by omega)
      | false => rw [if_neg (by simp)] at hmk0; exact decide_eq_false (by omega)
    obtain ⟨ca, hca⟩ := litShort_is a.data.toList
    obtain ⟨cb, hcb⟩ := litShort_is b.data.toList
    have la := fun q => litDec_enc ca a.data.toList q (limit := 4096) (by rw [ba_len]; exact hx.1) (by rw [ba_len]; omega)
    have lb := fun q => litDec_enc cb b.data.toList q (limit := 4096) (by rw [ba_len]; exact hx.2) (by rw [ba_len]; omega)
    rw [← hca] at la
    rw [← hcb] at lb
    have hba : ∀ z : ByteArray, toBA z.data.toList = z := fun z => rfl
    have hk61 : k ≤ 61 := by omega
    refine ⟨c, r ++ (if k = 0 then litShort a.data.toList else []) ++ litShort b.data.toList, by rw [hc]; simp, .inl hc32, ?_⟩
    have hp := pfx_enc (n := k) (bits := 4) (mark := mk) (by omega) (by omega) ((if k = 0 then litShort a.data.toList else []) ++ litShort b.data.toList ++ m)
    rw [← List.append_assoc, ← List.append_assoc] at hp
    unfold form
    rw [kbits_lo hc32, hp]
    simp only
    rw [if_neg (by simp), if_neg (by omega), decide_eq_false (by omega : ¬ 128 ≤ c.toNat)]
    have hdr : (pfxEnc k 4 mk ++ (if k = 0 then litShort a.data.toList else []) ++ litShort b.data.toList ++ m).drop (pfxEnc k 4 mk).length = (if k = 0 then litShort a.data.toList else []) ++ (litShort b.data.toList ++ m) := by
      rw [List.append_assoc, List.append_assoc, List.drop_left]
    rw [hdr]
    by_cases h0 : k = 0
    · subst h0
      have t1 := la (litShort b.data.toList ++ m)
      have t2 := lb m
      have hfo : fieldOf s false 0 (litShort a.data.toList ++ (litShort b.data.toList ++ m)) = ((a, b), m, 0) := by
        rw [field_text, if_neg (by rw [t1]; simp), t1]
        simp only
        rw [List.drop_left, valOf_ok (by rw [t2]; simp), t2]
        simp only
        rw [List.drop_left]
        rfl
      rw [if_pos rfl, hfo]
      simp only
      rw [if_neg (by decide), if_neg (by omega), hnv]
    · rw [if_neg h0, List.nil_append, field_name s (by omega), entry_some ⟨by omega, hk61⟩]
      simp only
      rw [valOf_ok (by rw [lb m]; simp), lb m]
      simp only
      rw [List.drop_left]
      rw [if_neg (by simp), if_neg (by omega), hba, hnv, (name_entry hk (by omega)).2]

theorem plain_lines (m : Bytes) : ∀ l : List Ln, (∀ x ∈ l, x.f.1.size ≤ 4096 ∧ x.f.2.size ≤ 4096) → plainB (blockEnc l ++ m) = plainB m
  | [], _ => rfl
  | x :: l, h => by
    have e : blockEnc (x :: l) ++ m = lineEnc x ++ (blockEnc l ++ m) := by simp [blockEnc]
    obtain ⟨c, r, hc, hcc, hf⟩ := form_line (most := 0) (s := ⟨[], 0⟩) true (h x (List.mem_cons_self ..)) (blockEnc l ++ m)
    have e2 : lineEnc x ++ (blockEnc l ++ m) = c :: (r ++ (blockEnc l ++ m)) := by rw [hc]; rfl
    rw [e, e2, plainB_cons]
    rw [e2] at hf
    rcases form_careful (s := ⟨[], 0⟩) rfl (most := 0) true (r := r ++ (blockEnc l ++ m)) hcc with ⟨h1, h2, y, h3⟩ | ⟨_, t, q, e', h3⟩
    · rw [hf] at h3
      simp only [Prod.mk.injEq, true_and] at h3
      rw [if_neg h1, ← h3.1]
      exact plain_lines m l fun y hy => h y (List.mem_cons_of_mem _ hy)
    · rw [hf] at h3; cases h3

/-- What is written of lines is read as them, whatever the table; it turns not. -/
theorem dec_lines {most bound : Nat} {s : St} : ∀ (l out : List Ln) (size : Nat), (∀ x ∈ l, x.f.1.size ≤ 4096 ∧ x.f.2.size ≤ 4096) → size + lsz l ≤ bound → decAll most bound s (blockEnc l) out size = (s, .ok (out ++ l))
  | [], out, size, _, _ => by
    have : blockEnc [] = [] := rfl
    rw [this, decAll_nil, List.append_nil]
  | x :: l, out, size, h, hb => by
    have e : blockEnc (x :: l) = lineEnc x ++ blockEnc l := by simp [blockEnc]
    obtain ⟨c, r, hc, hcc, hf⟩ := form_line (most := most) (s := s) out.isEmpty (h x (List.mem_cons_self ..)) (blockEnc l)
    have e2 : lineEnc x ++ blockEnc l = c :: (r ++ blockEnc l) := by rw [hc]; rfl
    have e3 : lsz (x :: l) = fsz x.f + lsz l := by simp [lsz]
    rw [e, e2, decAll_cons]
    rw [e2] at hf
    rw [hf]
    simp only
    rw [if_neg (by omega), dec_lines l (out ++ [x]) (size + fsz x.f) (fun y hy => h y (List.mem_cons_of_mem _ hy)) (by omega), List.append_assoc]
    rfl
end Go.M

/-
  Layer 8: Plain: the walks.
-/
namespace Go.E1
open Go Go.Proofs Go.M
set_option linter.unusedSimpArgs false

theorem sLitP {h : LHeap} {v : Value} {l : Bytes} (hv : BytesAt h v l) (hl : l.length < 1000000) :
    LCalls EC 121 [v, .int .i64 4096] h fun u h' => ∃ sv, u = .tuple #[sv, .int .i64 (litDec 4096 l).2.1, .int .i64 (litDec 4096 l).2.2] ∧ OutAt h' h.size sv (litDec 4096 l).1 ∧ Ext h h' := sLit (limit := 4096) hv hl (by omega)

theorem bytes_lo {q : EqF} {hh : LHeap} {v : Value} {l : Bytes} (a : BytesAt hh v l) {i : Nat} {k : IntKind} (hi : i ≤ l.length) : ∃ v', (∀ h, lexec q (.slice 1 v (some (.int k (i : Int))) none none) h = some (v', h)) ∧ BytesAt hh v' (l.drop i) := by
  rcases a with ⟨rfl, c, rfl⟩ | ⟨b, o, cs, t, r, rfl, h0, h1, h2, h3⟩
  · obtain rfl : i = 0 := by simpa using hi
    exact ⟨_, fun h => x_slice_lo_nil, .inl ⟨rfl, c, rfl⟩⟩
  · refine ⟨_, fun h => x_slice_lo hi, .inr ⟨b, o + i * 1, cs, t, r, by rw [List.length_drop], h0, h1, by rw [List.length_drop]; omega, ?_⟩⟩
    rw [Nat.mul_one, List.length_drop]
    have := bytes_sub h3 i (l.length - i) (by omega)
    rw [this, List.take_of_length_le (by rw [List.length_drop]; omega)]
theorem bytes_hd {h : LHeap} {v : Value} {c : UInt8} {l : Bytes} (a : BytesAt h v (c :: l)) : ∃ b o cs t r, v = .slice (some ⟨b, o, none⟩) (c :: l).length 1 ∧ h.get b = some (.cells cs t r) ∧ cs[o]? = some (.int .u8 c.toNat) := by
  rcases a with ⟨h1, _⟩ | ⟨b, o, cs, t, r, rfl, h0, h1, h2, h3⟩
  · cases h1
  · exact ⟨b, o, cs, t, r, rfl, h1, by simpa using bytes_get h3 (i := 0) (c := c) rfl⟩

def textsV : Option Nat → Int
  | none => -1
  | some k => (k : Int)
theorem textsGo_le (b : Bytes) : ∀ (k at' r : Nat), at' ≤ b.length → textsGo k b at' = some r → r ≤ b.length
  | 0, at', r, h, e => by simp only [textsGo] at e; cases e; exact h
  | k + 1, at', r, h, e => by
    simp only [textsGo] at e
    split at e
    · cases e
    · have := litDec_used 4096 (b.drop at')
      rw [List.length_drop] at this
      exact textsGo_le b k _ r (by omega) e

theorem sTexts {h : LHeap} {v : Value} {b : Bytes} (a : BytesAt h v b) (hl : b.length < 100000) {n : Nat} (hn : n ≤ 2) :
    LCalls EC 95 [v, .int .i64 (n : Int)] h fun u h' => u = .int .i64 (textsV (textsGo n b 0)) ∧ Ext h h' := by
  refine LCalls.enter (lf := lf95) rfl rfl (by simp [lf95]) ?_
  generalize htg : textsGo n b 0 = tgt
  simp only [go_sem, lf95, ↓reduceIte]
  refine MC.cutb (fun fr hh => ∃ r tl, fr = (0, v) :: (5, .int .i64 ((r : Nat) : Int)) :: tl ∧ tgt = some r ∧ Ext h hh) ?_ ?_
  · refine MC.loop (fun m fr hh => ∃ i at', m = n - i ∧ i ≤ n ∧ fr = [(0, v), (5, .int .i64 ((at' : Nat) : Int)), (9, .int .i64 (n : Int)), (10, .int .i64 (i : Int))] ∧ Ext h hh ∧ textsGo (n - i) b at' = tgt ∧ at' ≤ b.length) n ⟨0, 0, rfl, Nat.zero_le _, rfl, Ext.refl _, htg, Nat.zero_le _⟩ ?_
    rintro m fr hh J ⟨i, at', rfl, hi, rfl, X, ht, hat⟩ hJ
    by_cases hlt : i < n
    · have c1 : (i : Int) < (n : Int) := by omega
      obtain ⟨v', hsl, a'⟩ := bytes_lo (q := EC.q) (a.ext X) (k := .i64) hat
      obtain ⟨k, hk⟩ : ∃ k, n - i = k + 1 := ⟨n - i - 1, by omega⟩
      rw [hk] at ht
      simp only [textsGo] at ht
      have hus := litDec_used 4096 (b.drop at')
      rw [List.length_drop] at hus
      have w3 : IntKind.i64.wrap ((i : Int) + 1) = ((i + 1 : Nat) : Int) := by rw [IntWalk.i64_in _ (by omega)]; omega
      simp only [go_sem, ↓reduceIte, c1, hsl]
      refine MCall.by (sLitP a' (by rw [List.length_drop]; omega)) ?_
      rintro u h2 ⟨sv, rfl, _, X2⟩
      rcases hld : litDec 4096 (b.drop at') with ⟨t, us, er⟩
      rw [hld] at ht hus
      simp only at ht hus
      by_cases her : er = 0
      · subst her
        rw [if_neg (by simp)] at ht
        have n0 : (((0 : Nat) : Int) != 0) = false := rfl
        have w1 : IntKind.i64.wrap ((at' : Int) + (us : Int)) = ((at' + us : Nat) : Int) := by rw [IntWalk.i64_in _ (by omega)]; omega
        simp only [go_sem, ↓reduceIte, n0, w1, w3]
        exact hJ (n - (i + 1)) _ _ (by omega) ⟨i + 1, at' + us, rfl, by omega, rfl, X.trans X2, by rw [show n - (i + 1) = k by omega]; exact ht, by omega⟩
      · rw [if_pos her] at ht
        have n0 : ((er : Int) != 0) = true := by simp; omega
        subst ht
        simp only [go_sem, ↓reduceIte, n0]
        exact ⟨rfl, X.trans X2⟩
    · have c1 : ¬ (i : Int) < (n : Int) := by omega
      rw [show n - i = 0 by omega] at ht
      simp only [textsGo] at ht
      simp only [go_sem, ↓reduceIte, c1]
      exact ⟨at', _, rfl, ht.symm, X⟩
  · rintro fr hh ⟨r, tl, rfl, rfl, X⟩
    simp only [go_sem, ↓reduceIte]
    exact ⟨rfl, X⟩

theorem sForm {h : LHeap} {v : Value} {c : UInt8} {r : Bytes} (a : BytesAt h v (c :: r)) (hl : (c :: r).length < 100000) :
    LCalls EC 63 [v] h fun u h' => u = .int .i64 (formB (c :: r) : Int) ∧ Ext h h' := by
  refine LCalls.enter (lf := lf63) rfl rfl (by simp [lf63]) ?_
  obtain ⟨b0, o, cs, t, rr, rfl, g1, g2⟩ := bytes_hd a
  have hcu := c.toNat_lt
  have c0 : (0 : Int) < ((r.length + 1 : Nat) : Int) := by omega
  have a2 := a
  simp only [List.length_cons] at a2
  have hll : (c :: r).length = r.length + 1 := rfl
  by_cases h128 : 128 ≤ c.toNat
  · have c1 : (128 : Int) ≤ (c.toNat : Int) := by omega
    have hf := formB_cons c r
    rw [if_pos h128] at hf
    simp only [go_sem, lf63, ↓reduceIte, g1, g2, c0, c1]
    refine MCall.by (sPfx a (by omega) (bits := 7) (by omega) (by omega)) ?_
    rintro u h2 ⟨rfl, rfl⟩
    have hu := pfx_used 7 (c :: r)
    generalize hF : formB (c :: r) = F at *
    generalize hb : c :: r = b at *
    rcases hp : pfx 7 b with ⟨n, used, e⟩
    rw [hp] at hf hu
    simp only at hf hu
    by_cases he : e = 0
    · subst he
      obtain ⟨hu1, hu2, _⟩ := hu rfl
      have n0 : (((0 : Nat) : Int) != 0) = false := rfl
      by_cases h61 : 61 < n
      · have c2 : (61 : Int) < (n : Int) := by omega
        rw [if_pos (.inr (.inl h61))] at hf
        rw [hf]
        simp only [go_sem, ↓reduceIte, n0, c2]
        first | exact Ext.refl _ | exact ⟨rfl, Ext.refl _⟩
      · have c2 : ¬ (61 : Int) < (n : Int) := by omega
        by_cases h0 : n = 0
        · have c3 : ((n : Int) == 0) = true := by simp [h0]
          rw [if_pos (.inr (.inr h0))] at hf
          rw [hf]
          simp only [go_sem, ↓reduceIte, n0, c2, c3]
          first | exact Ext.refl _ | exact ⟨rfl, Ext.refl _⟩
        · have c3 : ((n : Int) == 0) = false := by simp; omega
          rw [if_neg (by omega)] at hf
          rw [hf]
          obtain ⟨v', hsl, a'⟩ := bytes_lo (q := EC.q) a2 (k := .i64) hu1
          simp only [go_sem, ↓reduceIte, n0, c2, c3, hsl]
          refine MCall.by (sTexts a' (by rw [List.length_drop]; omega) (n := 0) (by omega)) ?_
          rintro u h3 ⟨rfl, X3⟩
          have c4 : ¬ textsV (textsGo 0 (b.drop used) 0) < 0 := by simp [textsGo, textsV]
          have w1 : IntKind.i64.wrap ((used : Int) + textsV (textsGo 0 (b.drop used) 0)) = (used : Int) := by simp only [textsGo, textsV]; rw [IntWalk.i64_in _ (by omega)]; omega
          simp only [go_sem, ↓reduceIte, c4, w1]
          exact X3
    · rw [if_pos (.inl he)] at hf
      have n0 : ((e : Int) != 0) = true := by simp; omega
      rw [hf]
      simp only [go_sem, ↓reduceIte, n0]
      first | exact Ext.refl _ | exact ⟨rfl, Ext.refl _⟩
  · have c1 : ¬ (128 : Int) ≤ (c.toNat : Int) := by omega
    have hf := formB_cons c r
    rw [if_neg h128] at hf
    by_cases h32 : 32 ≤ c.toNat
    · have c2 : (32 : Int) ≤ (c.toNat : Int) := by omega
      rw [if_pos h32] at hf
      rw [hf]
      simp only [go_sem, lf63, ↓reduceIte, g1, g2, c0, c1, c2]
      first | exact Ext.refl _ | exact ⟨rfl, Ext.refl _⟩
    · have c2 : ¬ (32 : Int) ≤ (c.toNat : Int) := by omega
      rw [if_neg h32] at hf
      simp only [go_sem, lf63, ↓reduceIte, g1, g2, c0, c1, c2]
      refine MCall.by (sPfx a (by omega) (bits := 4) (by omega) (by omega)) ?_
      rintro u h2 ⟨rfl, rfl⟩
      have hu := pfx_used 4 (c :: r)
      generalize hF : formB (c :: r) = F at *
      generalize hb : c :: r = b at *
      rcases hp : pfx 4 b with ⟨n, used, e⟩
      rw [hp] at hf hu
      simp only at hf hu
      by_cases he : e = 0
      · subst he
        obtain ⟨hu1, hu2, _⟩ := hu rfl
        have n0 : (((0 : Nat) : Int) != 0) = false := rfl
        by_cases h61 : 61 < n
        · have d2 : (61 : Int) < (n : Int) := by omega
          rw [if_pos (.inr h61)] at hf
          rw [hf]
          simp only [go_sem, ↓reduceIte, n0, d2]
          first | exact Ext.refl _ | exact ⟨rfl, Ext.refl _⟩
        · have d2 : ¬ (61 : Int) < (n : Int) := by omega
          rw [if_neg (by omega)] at hf
          obtain ⟨v', hsl, a'⟩ := bytes_lo (q := EC.q) a2 (k := .i64) hu1
          have key : ∀ (many : Nat), many ≤ 2 → F = (match textsGo many (b.drop used) 0 with | none => 0 | some k => used + k) → ∀ {h3 : LHeap}, Ext h2 h3 →
              (textsV (textsGo many (b.drop used) 0) < 0 ∧ F = 0) ∨ (¬ textsV (textsGo many (b.drop used) 0) < 0 ∧ IntKind.i64.wrap ((used : Int) + textsV (textsGo many (b.drop used) 0)) = (F : Int)) := by
            intro many _ hF' h3 _
            cases hg : textsGo many (b.drop used) 0 with
            | none => rw [hg] at hF'; exact .inl ⟨by simp [textsV], hF'⟩
            | some k =>
              rw [hg] at hF'
              simp only at hF'
              have := textsGo_le (b.drop used) many 0 k (Nat.zero_le _) hg
              rw [List.length_drop] at this
              refine .inr ⟨by simp [textsV], ?_⟩
              simp only [textsV]
              rw [IntWalk.i64_in _ (by omega), hF']; omega
          by_cases h0 : n = 0
          · have d3 : ((n : Int) == 0) = true := by simp [h0]
            have d4 : ((4 : Int) == 7) = false := rfl
            rw [if_pos h0] at hf
            simp only [go_sem, ↓reduceIte, n0, d2, d3, d4, hsl]
            refine MCall.by (sTexts a' (by rw [List.length_drop]; omega) (n := 2) (by omega)) ?_
            rintro u h3 ⟨rfl, X3⟩
            rcases key 2 (by omega) hf X3 with ⟨k1, k2⟩ | ⟨k1, k2⟩
            · rw [k2]
              simp only [go_sem, ↓reduceIte, k1]
              first | exact X3 | exact ⟨rfl, X3⟩
            · simp only [go_sem, ↓reduceIte, k1, k2]
              exact X3
          · have d3 : ((n : Int) == 0) = false := by simp; omega
            rw [if_neg h0] at hf
            simp only [go_sem, ↓reduceIte, n0, d2, d3, hsl]
            refine MCall.by (sTexts a' (by rw [List.length_drop]; omega) (n := 1) (by omega)) ?_
            rintro u h3 ⟨rfl, X3⟩
            rcases key 1 (by omega) hf X3 with ⟨k1, k2⟩ | ⟨k1, k2⟩
            · rw [k2]
              simp only [go_sem, ↓reduceIte, k1]
              first | exact X3 | exact ⟨rfl, X3⟩
            · simp only [go_sem, ↓reduceIte, k1, k2]
              exact X3
      · rw [if_pos (.inl he)] at hf
        have n0 : ((e : Int) != 0) = true := by simp; omega
        rw [hf]
        simp only [go_sem, ↓reduceIte, n0]
        first | exact Ext.refl _ | exact ⟨rfl, Ext.refl _⟩

theorem formB_le (c : UInt8) (r : Bytes) : formB (c :: r) ≤ (c :: r).length := by
  by_cases hc : c.toNat < 32 ∨ 128 ≤ c.toNat
  · rcases form_careful (s := ⟨[], 0⟩) rfl (most := 0) true (r := r) hc with ⟨_, h, _⟩ | ⟨h, _⟩
    · exact h
    · rw [h]; exact Nat.zero_le _
  · rw [formB_mid hc]; exact Nat.zero_le _

theorem sPlain {h : LHeap} {v : Value} {b : Bytes} (a : BytesAt h v b) (hl : b.length < 100000) :
    LCalls EC 35 [v] h fun u h' => u = .bool (plainB b) ∧ Ext h h' := by
  refine LCalls.enter (lf := lf35) rfl rfl (by simp [lf35]) ?_
  generalize htg : plainB b = tgt
  simp only [go_sem, lf35, ↓reduceIte]
  refine MC.cutb (fun fr hh => tgt = true ∧ Ext h hh) ?_ ?_
  · refine MC.loop (fun m fr hh => ∃ v b, m = b.length ∧ fr = [(0, v)] ∧ BytesAt hh v b ∧ Ext h hh ∧ plainB b = tgt ∧ b.length < 100000) b.length ⟨v, b, rfl, rfl, a, Ext.refl _, htg, hl⟩ ?_
    clear a hl htg
    rintro m fr hh J ⟨v, b, rfl, rfl, a, X, ht, hl⟩ hJ
    have el := fun h => a.len (q := EC.q) (h := h)
    cases b with
    | nil =>
      simp only [go_sem, ↓reduceIte, el, List.length_nil]
      exact ⟨ht.symm, X⟩
    | cons c r =>
      have c0 : (0 : Int) < ((r.length + 1 : Nat) : Int) := by omega
      simp only [go_sem, ↓reduceIte, el, c0]
      refine MCall.by (sForm a hl) ?_
      rintro u h2 ⟨rfl, X2⟩
      rw [plainB_cons] at ht
      have hle := formB_le c r
      generalize formB (c :: r) = F at *
      by_cases h0 : F = 0
      · have d1 : ((F : Int) == 0) = true := by simp [h0]
        rw [if_pos h0] at ht
        subst ht
        simp only [go_sem, ↓reduceIte, d1]
        exact X.trans X2
      · have d1 : ((F : Int) == 0) = false := by simp; omega
        rw [if_neg h0] at ht
        obtain ⟨v', hsl, a'⟩ := bytes_lo (q := EC.q) (a.ext X2) (k := .i64) hle
        simp only [go_sem, ↓reduceIte, d1, hsl]
        exact hJ _ _ _ (by rw [List.length_drop]; simp only [List.length_cons] at hle ⊢; omega) ⟨v', _, rfl, rfl, a', X.trans X2, ht, by rw [List.length_drop]; omega⟩
  · rintro fr hh ⟨rfl, X⟩
    simp only [go_sem, ↓reduceIte]
    exact X
end Go.E1
