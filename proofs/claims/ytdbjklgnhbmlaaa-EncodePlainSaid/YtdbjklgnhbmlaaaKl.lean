/-
  Layer 7's statements: what comes in, and whether it may be gone through.
-/
import Derived.Test.YtdbjklgnhbmlaaaKj
namespace Go.E1
open Go Go.Proofs Go.M
set_option linter.unusedSimpArgs false

/-- Bytes that came in: they stay. -/
def BA (h : LHeap) (v : Value) (l : Bytes) : Prop := (l = [] ∧ v = .slice none 0 0) ∨ ∃ b o, v = .slice (some ⟨b, o, none⟩) l.length 1 ∧ Blk h b o l
def BL (h : LHeap) (v : Value) (ls : List Bytes) : Prop := (ls = [] ∧ v = .slice none 0 0) ∨ ∃ b vs t r, v = .slice (some ⟨b, 0, none⟩) ls.length 1 ∧ b < h.size ∧ h.get b = some (.cells vs t r) ∧ vs.length = ls.length ∧ ∀ (i : Nat) (u : Value) (l : Bytes), vs[i]? = some u → ls[i]? = some l → BA h u l

theorem BA.ext {h h' : LHeap} {v : Value} {l : Bytes} (a : BA h v l) (X : Ext h h') : BA h' v l := by
  rcases a with h1 | ⟨b, o, h1, B⟩
  · exact .inl h1
  · exact .inr ⟨b, o, h1, B.same X.size (X.get b B.lt)⟩
theorem BL.ext {h h' : LHeap} {v : Value} {ls : List Bytes} (a : BL h v ls) (X : Ext h h') : BL h' v ls := by
  rcases a with h1 | ⟨b, vs, t, r, h1, h2, h3, h4, h5⟩
  · exact .inl h1
  · exact .inr ⟨b, vs, t, r, h1, Nat.lt_of_lt_of_le h2 X.size, by rw [X.get b h2]; exact h3, h4, fun i u l a b => (h5 i u l a b).ext X⟩
theorem BA.len {q : EqF} {h hh : LHeap} {v : Value} {l : Bytes} (a : BA hh v l) : lexec q (.lenS v) h = some (.int .i64 l.length, h) := by
  rcases a with ⟨rfl, rfl⟩ | ⟨b, o, rfl, _⟩ <;> rfl
theorem BL.len {q : EqF} {h hh : LHeap} {v : Value} {l : List Bytes} (a : BL hh v l) : lexec q (.lenS v) h = some (.int .i64 l.length, h) := by
  rcases a with ⟨rfl, rfl⟩ | ⟨b, _, _, _, rfl, _⟩ <;> rfl
/-- Seen later, in a heap in which some other blocks turned. -/
theorem BA.blks {h h' : LHeap} {v : Value} {l : Bytes} (a : BA h v l) (X : Ext h h') {S : Nat → Prop} (hS : ∀ b, S b → h.size ≤ b) : Blks h' v l S := by
  rcases a with h1 | ⟨b, o, h1, B⟩
  · exact ⟨.inl h1⟩
  · exact ⟨.inr ⟨b, o, h1, B.same X.size (X.get b B.lt), fun h => absurd (hS b h) (Nat.not_le.2 B.lt)⟩⟩

theorem cells_u8 : Try.prog.cellsOf 5 = 1 := by kernel_rfl
theorem cells_bs : Try.prog.cellsOf 32 = 1 := by kernel_rfl

theorem LRd_bytes {h : LHeap} {n : Nat} {cs : List Value} (hl : LRd Try.prog h n 32 cs) : ∃ v l, cs = [v] ∧ BA h v l ∧ l.length ≤ reachBytes := by
  rcases LRd_slice Try.underlying32 hl with rfl | ⟨b, len, css, m, rfl, rfl, h1, h2, h3, h4, h5⟩
  · exact ⟨_, [], rfl, .inl ⟨rfl, rfl⟩, by simp⟩
  · rw [cells_u8] at h5 ⊢
    have key : ∀ (css : List (List Value)), (∀ c ∈ css, c.length = 1 ∧ LRd Try.prog h m 5 c) → ∃ l : Bytes, css.flatten = bv l ∧ l.length = css.length := by
      intro css
      induction css with
      | nil => intro _; exact ⟨[], rfl, rfl⟩
      | cons c css ih =>
        intro hc
        obtain ⟨l, h6, h7⟩ := ih fun x hx => hc x (List.mem_cons_of_mem _ hx)
        obtain ⟨i, rfl, hw⟩ := LRd_int Try.underlying5 (hc c (List.mem_cons_self ..)).2
        have hr : 0 ≤ i ∧ i ≤ 255 := by simpa [Lit.wf, IntKind.min, IntKind.max, IntKind.signed, IntKind.bits] using hw
        refine ⟨UInt8.ofNat i.toNat :: l, ?_, by simp [h7]⟩
        simp only [List.flatten_cons, h6, bv, List.map_cons, List.singleton_append, UInt8.toNat_ofNat']
        rw [show ((i.toNat % 2 ^ 8 : Nat) : Int) = i by omega]
    obtain ⟨l, h6, h7⟩ := key css h5
    refine ⟨_, l, rfl, .inr ⟨b, 0, by rw [h7, h3], ⟨h1, _, _, _, h2, ?_, ?_⟩⟩, by omega⟩
    · rw [h6, bv_len]; omega
    · rw [h6, List.drop_zero, ← bv_len l, List.take_length]

theorem LRd_blocks {h : LHeap} {n : Nat} {cs : List Value} (hl : LRd Try.prog h n 31 cs) : ∃ v ls, cs = [v] ∧ BL h v ls ∧ ∀ l ∈ ls, l.length ≤ reachBytes := by
  rcases LRd_slice Try.underlying31 hl with rfl | ⟨b, len, css, m, rfl, rfl, h1, h2, h3, h4, h5⟩
  · exact ⟨_, [], rfl, .inl ⟨rfl, rfl⟩, by simp⟩
  · rw [cells_bs] at h5 ⊢
    have key : ∀ (css : List (List Value)), (∀ c ∈ css, c.length = 1 ∧ LRd Try.prog h m 32 c) → ∃ ls : List Bytes, css.flatten.length = ls.length ∧ ls.length = css.length ∧ (∀ l ∈ ls, l.length ≤ reachBytes) ∧ ∀ (i : Nat) (u : Value) (l : Bytes), css.flatten[i]? = some u → ls[i]? = some l → BA h u l := by
      intro css
      induction css with
      | nil => intro _; exact ⟨[], rfl, rfl, by simp, by simp⟩
      | cons c css ih =>
        intro hc
        obtain ⟨ls, h6, h7, h8, h9⟩ := ih fun x hx => hc x (List.mem_cons_of_mem _ hx)
        obtain ⟨v, l, rfl, hb, hle⟩ := LRd_bytes (hc c (List.mem_cons_self ..)).2
        refine ⟨l :: ls, by simp at h6 ⊢; omega, by simp [h7], ?_, ?_⟩
        · intro x hx
          rcases List.mem_cons.1 hx with rfl | hx
          · exact hle
          · exact h8 x hx
        · intro i u x hu hx
          cases i with
          | zero =>
            simp only [List.flatten_cons, List.singleton_append, List.getElem?_cons_zero, Option.some.injEq] at hu hx
            subst hu; subst hx
            exact hb
          | succ i => exact h9 i u x (by simpa using hu) (by simpa using hx)
    obtain ⟨ls, h6, h7, h8, h9⟩ := key css h5
    exact ⟨_, ls, rfl, .inr ⟨b, _, _, _, by rw [h7, h3], h1, h2, h6, h9⟩, h8⟩

def sumB (ls : List Bytes) : Nat := (ls.map fun l => 5 + l.length).sum
theorem sumB_cons (l : Bytes) (ls : List Bytes) : sumB (l :: ls) = 5 + l.length + sumB ls := by simp [sumB]
theorem sumB_append (a b : List Bytes) : sumB (a ++ b) = sumB a + sumB b := by simp [sumB]
theorem sumB_len (ls : List Bytes) : 5 * ls.length ≤ sumB ls := by
  induction ls with
  | nil => simp
  | cons l ls ih => rw [sumB_cons, List.length_cons]; omega
theorem sumB_take (ls : List Bytes) (i : Nat) : sumB (ls.take i) ≤ sumB ls := by
  conv => rhs; rw [← List.take_append_drop i ls]
  rw [sumB_append]; omega
theorem sumB_mem {ls : List Bytes} {l : Bytes} (h : l ∈ ls) : 5 + l.length ≤ sumB ls := by
  induction ls with
  | nil => cases h
  | cons x ls ih =>
    rw [sumB_cons]
    rcases List.mem_cons.1 h with rfl | h
    · omega
    · have := ih h; omega

def rightB (most bound : Int) (ls : List Bytes) : Bool := decide (sumB ls ≤ 600 ∧ 0 ≤ most ∧ most ≤ 65536 ∧ 0 ≤ bound ∧ bound ≤ 16384)

theorem sRight {h : LHeap} {most bound : Int} {v : Value} {ls : List Bytes} (B : BL h v ls) (hr : ∀ l ∈ ls, l.length ≤ reachBytes) :
    LCalls EC 17 [.agg #[.int .i64 most, .int .i64 bound, v]] h fun u h' => u = .bool (rightB most bound ls) ∧ Ext h h' := by
  refine LCalls.enter (lf := lf17) rfl rfl (by simp [lf17]) ?_
  have e1 := B.len (q := EC.q) (h := h.push (.cells [.int .i64 most, .int .i64 bound, v] true true))
  have hrb : reachBytes < 2 ^ 47 := reachBytes_lt
  simp only [go_sem, lf17, ↓reduceIte, e1]
  refine MC.cutb (fun fr hh => ∃ tl, fr = (1, .pointer (some ⟨h.size, 0, none⟩)) :: tl ∧ hh = h.push (.cells [.int .i64 most, .int .i64 bound, v] true true) ∧ sumB ls ≤ 600) ?_ ?_
  · refine MC.loop (fun m fr hh => ∃ i, m = ls.length - i ∧ i ≤ ls.length ∧ fr = [(1, .pointer (some ⟨h.size, 0, none⟩)), (3, .int .i64 ((sumB (ls.take i) : Nat) : Int)), (7, v), (8, .int .i64 (ls.length : Int)), (9, .int .i64 (i : Int))] ∧ hh = h.push (.cells [.int .i64 most, .int .i64 bound, v] true true) ∧ sumB (ls.take i) ≤ 600) ls.length ⟨0, by omega, Nat.zero_le _, rfl, rfl, by simp [sumB]⟩ ?_
    rintro m fr hh J ⟨i, rfl, hi, rfl, rfl, hs⟩ hJ
    by_cases hlt : i < ls.length
    · obtain ⟨l, hl⟩ : ∃ l, ls[i]? = some l := ⟨ls[i], by simp [hlt]⟩
      have c0 : (0 : Int) ≤ (i : Int) := by omega
      have c1 : (i : Int) < (ls.length : Int) := by omega
      obtain ⟨b, vs, t, r, rfl, h2, h3, h4, h5⟩ : ∃ b vs t r, v = .slice (some ⟨b, 0, none⟩) ls.length 1 ∧ b < h.size ∧ h.get b = some (.cells vs t r) ∧ vs.length = ls.length ∧ ∀ (i : Nat) (u : Value) (l : Bytes), vs[i]? = some u → ls[i]? = some l → BA h u l := by
        rcases B with ⟨rfl, _⟩ | h1
        · simp at hlt
        · exact h1
      obtain ⟨u, hu⟩ : ∃ u, vs[i]? = some u := ⟨vs[i], by simp [show i < vs.length by omega]⟩
      have hb := h5 i u l hu hl
      have e2 := hb.len (q := EC.q) (h := h.push (.cells [.int .i64 most, .int .i64 bound, .slice (some ⟨b, 0, none⟩) ls.length 1] true true))
      have hmem : l ∈ ls := List.mem_of_getElem? hl
      have hlr := hr l hmem
      have htk : sumB (ls.take (i + 1)) = sumB (ls.take i) + (5 + l.length) := by
        rw [List.take_add_one, hl, sumB_append]
        simp [sumB]
      have hlen := sumB_len (ls.take i)
      rw [List.length_take, Nat.min_eq_left hi] at hlen
      have w1 : IntKind.i64.wrap (5 + (l.length : Int)) = ((5 + l.length : Nat) : Int) := by rw [IntWalk.i64_in _ (by omega)]; omega
      have w2 : IntKind.i64.wrap (((sumB (ls.take i) : Nat) : Int) + ((5 + l.length : Nat) : Int)) = ((sumB (ls.take (i + 1)) : Nat) : Int) := by rw [IntWalk.i64_in _ (by omega), htk]; omega
      have w3 : IntKind.i64.wrap ((i : Int) + 1) = ((i + 1 : Nat) : Int) := by rw [IntWalk.i64_in _ (by omega)]; omega
      have hg : (h.push (.cells [.int .i64 most, .int .i64 bound, .slice (some ⟨b, 0, none⟩) ls.length 1] true true)).get b = some (.cells vs t r) := by simp [show b ≠ h.size by omega, h3]
      by_cases hbig : 600 < sumB (ls.take (i + 1))
      · have c3 : (600 : Int) < ((sumB (ls.take (i + 1)) : Nat) : Int) := by omega
        have hbad : rightB most bound ls = false := by
          have := sumB_take ls (i + 1)
          simp only [rightB, decide_eq_false_iff_not]
          omega
        simp only [go_sem, ↓reduceIte, c0, c1, hg, hu, e2, w1, w2, c3]
        rw [hbad]
        exact ⟨rfl, Ext.push _ _⟩
      · have c3 : ¬ (600 : Int) < ((sumB (ls.take (i + 1)) : Nat) : Int) := by omega
        simp only [go_sem, ↓reduceIte, c0, c1, hg, hu, e2, w1, w2, c3, w3]
        exact hJ (ls.length - (i + 1)) _ _ (by omega) ⟨i + 1, rfl, by omega, rfl, rfl, by omega⟩
    · have c1 : ¬ (i : Int) < (ls.length : Int) := by omega
      have hil : i = ls.length := by omega
      simp only [go_sem, ↓reduceIte, c1]
      rw [hil, List.take_length] at hs
      exact ⟨_, rfl, hs⟩
  · rintro fr hh ⟨tl, rfl, rfl, hs⟩
    have hR : rightB most bound ls = (((decide (0 ≤ most) && decide (most ≤ 65536)) && decide (0 ≤ bound)) && decide (bound ≤ 16384)) := by
      simp only [rightB, hs, true_and, ← Bool.decide_and, and_assoc]
    by_cases a1 : 0 ≤ most <;> by_cases a2 : most ≤ 65536 <;> by_cases a3 : 0 ≤ bound <;> by_cases a4 : bound ≤ 16384 <;> simp only [go_sem, ↓reduceIte, hR, a1, a2, a3, a4] <;> exact Ext.push _ _
end Go.E1
