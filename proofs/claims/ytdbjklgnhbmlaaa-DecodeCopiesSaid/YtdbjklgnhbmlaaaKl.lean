/-
  Texts joined: Lw7A, Lw7B, Lw7C, Lw7D, Lw7E.
-/
import Derived.Test.YtdbjklgnhbmlaaaKk
/-
  Layer 7's statements: what comes in, and whether it may be gone through.
-/
namespace Go.E1
open Go Go.Proofs Go.M
set_option linter.unusedSimpArgs false

/-- Bytes that came in: they stay. -/
def BA (h : LHeap) (v : Value) (l : Bytes) : Prop := (l = [] ∧ v = .slice none 0 0) ∨ ∃ b o, v = .slice (some ⟨b, o, none⟩) l.length 1 ∧ Blk h b o l
def BL (h : LHeap) (v : Value) (ls : List Bytes) : Prop := (ls = [] ∧ v = .slice none 0 0) ∨ ∃ b vs t r, v = .slice (some ⟨b, 0, none⟩) ls.length 1 ∧ b < h.size ∧ h.get b = some (.cells vs t r) ∧ vs.length = ls.length ∧ ∀ (i : Nat) (u : Value) (l : Bytes), vs[i]? = some u → ls[i]? = some l → BA h u l

theorem BA.ext {h h' : LHeap} {v : Value} {l : Bytes} (a : BA h v l) (X : Ext h h') : BA h' v l := by
  rcases a with h1 | ⟨b, o, h1, B⟩
  · exact .inl h1
  · exact .inr ⟨b, o, h1, B.same X.size (X.get b B.lt)⟩
theorem BL.ext {h h' : LHeap} {v : Value} {ls : List Bytes} (a : BL h v ls) (X : Ext h h') : BL h' v ls := by
  rcases a with h1 | ⟨b, vs, t, r, h1, h2, h3, h4, h5⟩
  · exact .inl h1
  · exact .inr ⟨b, vs, t, r, h1, Nat.lt_of_lt_of_le h2 X.size, by rw [X.get b h2]; exact h3, h4, fun i u l a b => (h5 i u l a b).ext X⟩
theorem BA.len {q : EqF} {h hh : LHeap} {v : Value} {l : Bytes} (a : BA hh v l) : lexec q (.lenS v) h = some (.int .i64 l.length, h) := by
  rcases a with ⟨rfl, rfl⟩ | ⟨b, o, rfl, _⟩ <;> rfl
theorem BL.len {q : EqF} {h hh : LHeap} {v : Value} {l : List Bytes} (a : BL hh v l) : lexec q (.lenS v) h = some (.int .i64 l.length, h) := by
  rcases a with ⟨rfl, rfl⟩ | ⟨b, _, _, _, rfl, _⟩ <;> rfl
/-- Seen later, in a heap in which some other blocks turned. -/
theorem BA.blks {h h' : LHeap} {v : Value} {l : Bytes} (a : BA h v l) (X : Ext h h') {S : Nat → Prop} (hS : ∀ b, S b → h.size ≤ b) : Blks h' v l S := by
  rcases a with h1 | ⟨b, o, h1, B⟩
  · exact ⟨.inl h1⟩
  · exact ⟨.inr ⟨b, o, h1, B.same X.size (X.get b B.lt), fun h => absurd (hS b h) (Nat.not_le.2 B.lt)⟩⟩

theorem cells_u8 : Try.prog.cellsOf 5 = 1 := by kernel_rfl
theorem cells_bs : Try.prog.cellsOf 32 = 1 := by kernel_rfl

theorem LRd_bytes {h : LHeap} {n : Nat} {cs : List Value} (hl : LRd Try.prog h n 32 cs) : ∃ v l, cs = [v] ∧ BA h v l ∧ l.length ≤ reachBytes := by
  rcases LRd_slice Try.underlying32 hl with rfl | ⟨b, len, css, m, rfl, rfl, h1, h2, h3, h4, h5⟩
  · exact ⟨_, [], rfl, .inl ⟨rfl, rfl⟩, by simp⟩
  · rw [cells_u8] at h5 ⊢
    have key : ∀ (css : List (List Value)), (∀ c ∈ css, c.length = 1 ∧ LRd Try.prog h m 5 c) → ∃ l : Bytes, css.flatten = bv l ∧ l.length = css.length := by
      intro css
      induction css with
      | nil => intro _; exact ⟨[], rfl, rfl⟩
      | cons c css ih =>
        intro hc
        obtain ⟨l, h6, h7⟩ := ih fun x hx => hc x (List.mem_cons_of_mem _ hx)
        obtain ⟨i, rfl, hw⟩ := LRd_int Try.underlying5 (hc c (List.mem_cons_self ..)).2
        have hr : 0 ≤ i ∧ i ≤ 255 := by simpa [Lit.wf, IntKind.min, IntKind.max, IntKind.signed, IntKind.bits] using hw
        refine ⟨UInt8.ofNat i.toNat :: l, ?_, by simp [h7]⟩
        simp only [List.flatten_cons, h6, bv, List.map_cons, List.singleton_append, UInt8.toNat_ofNat']
        rw [show ((i.toNat % 2 ^ 8 : Nat) : Int) = i by omega]
    obtain ⟨l, h6, h7⟩ := key css h5
    refine ⟨_, l, rfl, .inr ⟨b, 0, by rw [h7, h3], ⟨h1, _, _, _, h2, ?_, ?_⟩⟩, by omega⟩
    · rw [h6, bv_len]; omega
    · rw [h6, List.drop_zero, ← bv_len l, List.take_length]

theorem LRd_blocks {h : LHeap} {n : Nat} {cs : List Value} (hl : LRd Try.prog h n 31 cs) : ∃ v ls, cs = [v] ∧ BL h v ls ∧ ∀ l ∈ ls, l.length ≤ reachBytes := by
  rcases LRd_slice Try.underlying31 hl with rfl | ⟨b, len, css, m, rfl, rfl, h1, h2, h3, h4, h5⟩
  · exact ⟨_, [], rfl, .inl ⟨rfl, rfl⟩, by simp⟩
  · rw [cells_bs] at h5 ⊢
    have key : ∀ (css : List (List Value)), (∀ c ∈ css, c.length = 1 ∧ LRd Try.prog h m 32 c) → ∃ ls : List Bytes, css.flatten.length = ls.length ∧ ls.length = css.length ∧ (∀ l ∈ ls, l.length ≤ reachBytes) ∧ ∀ (i : Nat) (u : Value) (l : Bytes), css.flatten[i]? = some u → ls[i]? = some l → BA h u l := by
      intro css
      induction css with
      | nil => intro _; exact ⟨[], rfl, rfl, by simp, by simp⟩
      | cons c css ih =>
        intro hc
        obtain ⟨ls, h6, h7, h8, h9⟩ := ih fun x hx => hc x (List.mem_cons_of_mem _ hx)
        obtain ⟨v, l, rfl, hb, hle⟩ := LRd_bytes (hc c (List.mem_cons_self ..)).2
        refine ⟨l :: ls, by simp at h6 ⊢; omega, by simp [h7], ?_, ?_⟩
        · intro x hx
          rcases List.mem_cons.1 hx with rfl | hx
          · exact hle
          · exact h8 x hx
        · intro i u x hu hx
          cases i with
          | zero =>
            simp only [List.flatten_cons, List.singleton_append, List.getElem?_cons_zero, Option.some.injEq] at hu hx
            subst hu; subst hx
            exact hb
          | succ i => exact h9 i u x (by simpa using hu) (by simpa using hx)
    obtain ⟨ls, h6, h7, h8, h9⟩ := key css h5
    exact ⟨_, ls, rfl, .inr ⟨b, _, _, _, by rw [h7, h3], h1, h2, h6, h9⟩, h8⟩

def sumB (ls : List Bytes) : Nat := (ls.map fun l => 5 + l.length).sum
theorem sumB_cons (l : Bytes) (ls : List Bytes) : sumB (l :: ls) = 5 + l.length + sumB ls := by simp [sumB]
theorem sumB_append (a b : List Bytes) : sumB (a ++ b) = sumB a + sumB b := by simp [sumB]
theorem sumB_len (ls : List Bytes) : 5 * ls.length ≤ sumB ls := by
  induction ls with
  | nil => simp
  | cons l ls ih => rw [sumB_cons, List.length_cons]; omega
theorem sumB_take (ls : List Bytes) (i : Nat) : sumB (ls.take i) ≤ sumB ls := by
  conv => rhs; rw [← List.take_append_drop i ls]
  rw [sumB_append]; omega
theorem sumB_mem {ls : List Bytes} {l : Bytes} (h : l ∈ ls) : 5 + l.length ≤ sumB ls := by
  induction ls with
  | nil => cases h
  | cons x ls ih =>
    rw [sumB_cons]
    rcases List.mem_cons.1 h with rfl | h
    · omega
    · have := ih h; omega

def rightB (most bound : Int) (ls : List Bytes) : Bool := decide (sumB ls ≤ 600 ∧ 0 ≤ most ∧ most ≤ 65536 ∧ 0 ≤ bound ∧ bound ≤ 16384)

theorem sRight {h : LHeap} {most bound : Int} {v : Value} {ls : List Bytes} (B : BL h v ls) (hr : ∀ l ∈ ls, l.length ≤ reachBytes) :
    LCalls EC 17 [.agg #[.int .i64 most, .int .i64 bound, v]] h fun u h' => u = .bool (rightB most bound ls) ∧ Ext h h' := by
  refine LCalls.enter (lf := lf17) rfl rfl (by simp [lf17]) ?_
  have e1 := B.len (q := EC.q) (h := h.push (.cells [.int .i64 most, .int .i64 bound, v] true true))
  have hrb : reachBytes < 2 ^ 47 := reachBytes_lt
  simp only [go_sem, lf17, ↓reduceIte, e1]
  refine MC.cutb (fun fr hh => ∃ tl, fr = (1, .pointer (some ⟨h.size, 0, none⟩)) :: tl ∧ hh = h.push (.cells [.int .i64 most, .int .i64 bound, v] true true) ∧ sumB ls ≤ 600) ?_ ?_
  · refine MC.loop (fun m fr hh => ∃ i, m = ls.length - i ∧ i ≤ ls.length ∧ fr = [(1, .pointer (some ⟨h.size, 0, none⟩)), (3, .int .i64 ((sumB (ls.take i) : Nat) : Int)), (7, v), (8, .int .i64 (ls.length : Int)), (9, .int .i64 (i : Int))] ∧ hh = h.push (.cells [.int .i64 most, .int .i64 bound, v] true true) ∧ sumB (ls.take i) ≤ 600) ls.length ⟨0, by omega, Nat.zero_le _, rfl, rfl, by simp [sumB]⟩ ?_
    rintro m fr hh J ⟨i, rfl, hi, rfl, rfl, hs⟩ hJ
    by_cases hlt : i < ls.length
    · obtain ⟨l, hl⟩ : ∃ l, ls[i]? = some l := ⟨ls[i], by simp [hlt]⟩
      have c0 : (0 : Int) ≤ (i : Int) := by omega
      have c1 : (i : Int) < (ls.length : Int) := by omega
      obtain ⟨b, vs, t, r, rfl, h2, h3, h4, h5⟩ : ∃ b vs t r, v = .slice (some ⟨b, 0, none⟩) ls.length 1 ∧ b < h.size ∧ h.get b = some (.cells vs t r) ∧ vs.length = ls.length ∧ ∀ (i : Nat) (u : Value) (l : Bytes), vs[i]? = some u → ls[i]? = some l → BA h u l := by
        rcases B with ⟨rfl, _⟩ | h1
        · simp at hlt
        · exact h1
      obtain ⟨u, hu⟩ : ∃ u, vs[i]? = some u := ⟨vs[i], by simp [show i < vs.length by omega]⟩
      have hb := h5 i u l hu hl
      have e2 := hb.len (q := EC.q) (h := h.push (.cells [.int .i64 most, .int .i64 bound, .slice (some ⟨b, 0, none⟩) ls.length 1] true true))
      have hmem : l ∈ ls := List.mem_of_getElem? hl
      have hlr := hr l hmem
      have htk : sumB (ls.take (i + 1)) = sumB (ls.take i) + (5 + l.length) := by
        rw [List.take_add_one, hl, sumB_append]
        simp [sumB]
      have hlen := sumB_len (ls.take i)
      rw [List.length_take, Nat.min_eq_left hi] at hlen
      have w1 : IntKind.i64.wrap (5 + (l.length : Int)) = ((5 + l.length : Nat) : Int) := by rw [IntWalk.i64_in _ (by omega)]; omega
      have w2 : IntKind.i64.wrap (((sumB (ls.take i) : Nat) : Int) + ((5 + l.length : Nat) : Int)) = ((sumB (ls.take (i + 1)) : Nat) : Int) := by rw [IntWalk.i64_in _ (by omega), htk]; omega
      have w3 : IntKind.i64.wrap ((i : Int) + 1) = ((i + 1 : Nat) : Int) := by rw [IntWalk.i64_in _ (by omega)]; omega
      have hg : (h.push (.cells [.int .i64 most, .int .i64 bound, .slice (some ⟨b, 0, none⟩) ls.length 1] true true)).get b = some (.cells vs t r) := by simp [show b ≠ h.size by omega, h3]
      by_cases hbig : 600 < sumB (ls.take (i + 1))
      · have c3 : (600 : Int) < ((sumB (ls.take (i + 1)) : Nat) : Int) := by omega
        have hbad : rightB most bound ls = false := by
          have := sumB_take ls (i + 1)
          simp only [rightB, decide_eq_false_iff_not]
          omega
        simp only [go_sem, ↓reduceIte, c0, c1, hg, hu, e2, w1, w2, c3]
        rw [hbad]
        exact ⟨rfl, Ext.push _ _⟩
      · have c3 : ¬ (600 : Int) < ((sumB (ls.take (i + 1)) : Nat) : Int) := by omega
        simp only [go_sem, ↓reduceIte, c0, c1, hg, hu, e2, w1, w2, c3, w3]
        exact hJ (ls.length - (i + 1)) _ _ (by omega) ⟨i + 1, rfl, by omega, rfl, rfl, by omega⟩
    · have c1 : ¬ (i : Int) < (ls.length : Int) := by omega
      have hil : i = ls.length := by omega
      simp only [go_sem, ↓reduceIte, c1]
      rw [hil, List.take_length] at hs
      exact ⟨_, rfl, hs⟩
  · rintro fr hh ⟨tl, rfl, rfl, hs⟩
    have hR : rightB most bound ls = (((decide (0 ≤ most) && decide (most ≤ 65536)) && decide (0 ≤ bound)) && decide (bound ≤ 16384)) := by
      simp only [rightB, hs, true_and, ← Bool.decide_and, and_assoc]
    by_cases a1 : 0 ≤ most <;> by_cases a2 : most ≤ 65536 <;> by_cases a3 : 0 ≤ bound <;> by_cases a4 : bound ≤ 16384 <;> simp only [go_sem, ↓reduceIte, hR, a1, a2, a3, a4] <;> exact Ext.push _ _
end Go.E1

/-
  Layer 7: a decoder as the statements see it.
-/
namespace Go.M
open Go.E1

def lsz (l : List Ln) : Nat := (l.map fun x => fsz x.f).sum
theorem lsz_append (a b : List Ln) : lsz (a ++ b) = lsz a + lsz b := by simp [lsz]
theorem lsz_one (x : Ln) : lsz [x] = fsz x.f := by simp [lsz]
theorem lsz_len (l : List Ln) : 32 * l.length ≤ lsz l := by
  induction l with
  | nil => simp
  | cons x l ih => simp only [lsz, List.map_cons, List.sum_cons, List.length_cons, fsz] at ih ⊢; omega
theorem lsz_take (l : List Ln) (i : Nat) : lsz (l.take i) ≤ lsz l := by
  conv => rhs; rw [← List.take_append_drop i l]
  rw [lsz_append]; omega

theorem decGo_bound (most bound : Nat) : ∀ (k : Nat) (s : St) (b : Bytes) (out : List Ln) (size : Nat), size = lsz out → size ≤ bound → ∀ s' ls, decGo most bound k s b out size = (s', .ok ls) → lsz ls ≤ bound
  | 0, s, b, out, size, h1, h2, s', ls, h => by simp only [decGo] at h; cases h; omega
  | k + 1, s, [], out, size, h1, h2, s', ls, h => by simp only [decGo] at h; cases h; omega
  | k + 1, s, c :: b, out, size, h1, h2, s', ls, h => by
    simp only [decGo] at h
    split at h
    · cases h
    · exact decGo_bound most bound k _ _ _ _ h1 h2 _ _ h
    · split at h
      · cases h
      · exact decGo_bound most bound k _ _ _ _ (by rw [lsz_append, lsz_one]; omega) (by omega) _ _ h

theorem decode_bound {most bound : Nat} {d : Dec} {b : Bytes} {d' : Dec} {ls : List Ln} (h : M.decode most bound d b = (d', .ok ls)) : lsz ls ≤ bound := by
  unfold M.decode at h
  split at h
  · cases h
  · split at h
    · rename_i hg
      cases h
      exact decGo_bound most bound _ _ _ _ _ rfl (Nat.zero_le _) _ _ hg
    · cases h
end Go.M

namespace Go.E1
open Go Go.Proofs Go.M
set_option linter.unusedSimpArgs false

/-- A decoder, its state, and what blocks are its own. -/
structure DW (h : LHeap) (d : Nat) (s : Dec) (most bound : Nat) (F : Nat → Prop) : Prop where
  ex : ∃ t lv z, Dcr h d t lv z s.st.L s.st.limit most bound s.dead ∧ F = FootD d t lv

theorem DW.keep {h h' : LHeap} {d : Nat} {s : Dec} {most bound : Nat} {F G : Nat → Prop} (D : DW h d s most bound F) (K : Keep G h h') (hn : ∀ c, F c → ¬ G c) : DW h' d s most bound F := by
  obtain ⟨t, lv, z, D1, rfl⟩ := D.ex
  exact ⟨t, lv, z, D1.keepS K hn, rfl⟩
theorem DW.ext {h h' : LHeap} {d : Nat} {s : Dec} {most bound : Nat} {F : Nat → Prop} (D : DW h d s most bound F) (X : Ext h h') : DW h' d s most bound F :=
  D.keep (G := fun _ => False) (Keep.of_ext X) fun _ _ h => h
theorem DW.lt {h : LHeap} {d : Nat} {s : Dec} {most bound : Nat} {F : Nat → Prop} (D : DW h d s most bound F) {c : Nat} (hc : F c) : c < h.size := by
  obtain ⟨t, lv, z, D1, rfl⟩ := D.ex
  exact D1.foot_lt hc
theorem DW.sz {h : LHeap} {d : Nat} {s : Dec} {most bound : Nat} {F : Nat → Prop} (D : DW h d s most bound F) : tsz s.st.L ≤ s.st.limit ∧ s.st.limit ≤ most ∧ most ≤ 65536 := by
  obtain ⟨t, lv, z, D1, rfl⟩ := D.ex
  exact ⟨D1.sz, D1.lim, D1.mst⟩
theorem Ext.of_keep {h0 h h' : LHeap} {F : Nat → Prop} (X : Ext h0 h) (K : Keep F h h') (hF : ∀ c, F c → h0.size ≤ c) : Ext h0 h' :=
  ⟨Nat.le_trans X.size K.size, fun b hb => (K.get b (Nat.lt_of_lt_of_le hb X.size) fun hf => absurd (hF b hf) (Nat.not_le.2 hb)).trans (X.get b hb)⟩

theorem wNew {h : LHeap} {most bound : Nat} (hm : most ≤ 65536) (hb : bound ≤ 16384) :
    LCalls EC 19 [.int .i64 most, .int .i64 bound] h fun u h' => ∃ d F, u = .tuple #[.pointer (some ⟨d, 0, none⟩), .int .i64 0] ∧ DW h' d ⟨⟨[], most⟩, false⟩ most bound F ∧ Ext h h' ∧ (∀ c, F c → h.size ≤ c) :=
  (sNewD hm hb).mono fun u h' ⟨e, D, X⟩ => ⟨h.size + 1, _, e, ⟨⟨_, _, _, D, rfl⟩⟩, X, by
    rintro c (rfl | rfl | ⟨n, E, hx⟩)
    · omega
    · omega
    · cases hx⟩

/-- Lines, or an error. -/
def Out7 (lo : Nat) (h : LHeap) (F : Nat → Prop) (res : Except Nat (List Ln)) (u : Value) : Prop :=
  ∃ ov e ls, u = .tuple #[ov, .int .i64 ((e : Nat) : Int)] ∧ LS h lo ov ls ∧ (∀ x n E, ov = .slice (some ⟨x, 0, none⟩) n E → ¬ F x) ∧ ((e = 0 ∧ res = .ok ls) ∨ (e ≠ 0 ∧ ls = [] ∧ res = .error e))

theorem wDecode {h : LHeap} {d : Nat} {s : Dec} {most bound : Nat} {F : Nat → Prop} (D : DW h d s most bound F) {v : Value} {l : Bytes} (B : Blks h v l F) (hl : l.length < 100000) (hbd : bound < 1000000000) :
    LCalls EC 20 [.pointer (some ⟨d, 0, none⟩), v] h fun u h' => ∃ F', DW h' d (M.decode most bound s l).1 most bound F' ∧ (∀ c, F' c → F c ∨ h.size ≤ c) ∧ Keep F h h' ∧ Out7 h.size h' F' (M.decode most bound s l).2 u := by
  obtain ⟨t, lv, z, D1, rfl⟩ := D.ex
  refine (sDecode D1 B hl hbd).mono fun u h' ⟨K, lv', z', D', F', O⟩ => ?_
  obtain ⟨⟨L, limit⟩, dead⟩ := s
  generalize M.decode most bound ⟨⟨L, limit⟩, dead⟩ l = res at *
  refine ⟨_, ⟨⟨t, lv', z', D', rfl⟩⟩, ?_, K, ?_⟩
  · rintro c (h1 | h1)
    · exact .inl (.inl h1)
    · exact (F' c h1).imp .inr id
  · obtain ⟨r1, r2⟩ := res
    cases r2 with
    | error e =>
      obtain ⟨h1, h2⟩ := O
      exact ⟨_, e, [], h1, .inl ⟨rfl, rfl⟩, (fun x n E h => by cases h), .inr ⟨h2, rfl, rfl⟩⟩
    | ok ls =>
      obtain ⟨ov, h1, h2, h3⟩ := O
      exact ⟨ov, 0, ls, h1, h2, h3, .inl ⟨rfl, rfl⟩⟩

theorem wTable {h : LHeap} {d : Nat} {s : Dec} {most bound : Nat} {F : Nat → Prop} (D : DW h d s most bound F) :
    LCalls EC 22 [.pointer (some ⟨d, 0, none⟩)] h fun u h' => ∃ t' lv', u = .pointer (some ⟨t', 0, none⟩) ∧ Tbl h' t' lv' [] s.st.L (tsz s.st.L) s.st.limit ∧ Ext h h' := by
  obtain ⟨t, lv, z, D1, rfl⟩ := D.ex
  exact (sTable D1).mono fun u h' ⟨t', lv', h1, h2, h3, _⟩ => ⟨t', lv', h1, h2, h3⟩

theorem wDead {h : LHeap} {d : Nat} {s : Dec} {most bound : Nat} {F : Nat → Prop} (D : DW h d s most bound F) :
    LCalls EC 21 [.pointer (some ⟨d, 0, none⟩)] h fun u h' => u = .bool s.dead ∧ h' = h := by
  obtain ⟨t, lv, z, D1, rfl⟩ := D.ex
  exact sDead D1

theorem wCopy {h : LHeap} {d : Nat} {s : Dec} {most bound : Nat} {F : Nat → Prop} (D : DW h d s most bound F) :
    LCalls EC 27 [.pointer (some ⟨d, 0, none⟩)] h fun u h' => ∃ d' F', u = .pointer (some ⟨d', 0, none⟩) ∧ DW h' d' s most bound F' ∧ Ext h h' ∧ (∀ c, F' c → h.size ≤ c) := by
  obtain ⟨t, lv, z, D1, rfl⟩ := D.ex
  refine (sCopyD D1).mono fun u h' ⟨d', t', lv', h1, h2, h3, h4, h5⟩ => ⟨d', _, h1, ⟨⟨t', lv', [], h2, rfl⟩⟩, h3, ?_⟩
  rintro c (rfl | hc)
  · exact h4
  · exact h5 c hc
end Go.E1

/-
  DecodeBounds.
-/
namespace Go.E1
open Go Go.Proofs Go.M
set_option linter.unusedSimpArgs false

theorem rightB_nat {most bound : Int} {ls : List Bytes} (h : rightB most bound ls = true) : ∃ m b : Nat, most = m ∧ bound = b ∧ m ≤ 65536 ∧ b ≤ 16384 ∧ sumB ls ≤ 600 := by
  simp only [rightB, decide_eq_true_eq] at h
  exact ⟨most.toNat, bound.toNat, by omega, by omega, by omega, by omega, h.1⟩
theorem BL.at {h : LHeap} {v : Value} {ls : List Bytes} (B : BL h v ls) {i : Nat} (hi : i < ls.length) : ∃ b vs t r u l, v = .slice (some ⟨b, 0, none⟩) ls.length 1 ∧ b < h.size ∧ h.get b = some (.cells vs t r) ∧ vs[i]? = some u ∧ ls[i]? = some l ∧ BA h u l := by
  rcases B with ⟨rfl, _⟩ | ⟨b, vs, t, r, h1, h2, h3, h4, h5⟩
  · simp at hi
  · exact ⟨b, vs, t, r, vs[i]'(by omega), ls[i], h1, h2, h3, by simp, by simp, h5 i _ _ (by simp) (by simp)⟩
theorem FL.len {q : EqF} {h hh : LHeap} {v : Value} {l : List Fld} (ho : FL hh v l) : lexec q (.lenS v) h = some (.int .i64 l.length, h) := by
  rcases ho with ⟨rfl, rfl⟩ | ⟨b, rfl, _⟩ <;> rfl
theorem FL.at {h : LHeap} {v : Value} {l : List Fld} (F : FL h v l) {i : Nat} (hi : i < l.length) : ∃ b f, v = .slice (some ⟨b, 0, none⟩) l.length 2 ∧ b < h.size ∧ h.get b = some (.cells (fcells l) true true) ∧ l[i]? = some f ∧ ((fcells l).drop (i * 2)).take 2 = [.string f.1, .string f.2] := by
  rcases F with ⟨rfl, _⟩ | ⟨b, h1, h2, h3⟩
  · simp at hi
  · have : l[i]? = some l[i] := by simp
    exact ⟨b, l[i], h1, h2, h3, this, fcells_get this⟩
theorem FL.ext {h h' : LHeap} {v : Value} {l : List Fld} (F : FL h v l) (X : Ext h h') : FL h' v l := by
  rcases F with h1 | ⟨b, h1, h2, h3⟩
  · exact .inl h1
  · exact .inr ⟨b, h1, Nat.lt_of_lt_of_le h2 X.size, by rw [X.get b h2]; exact h3⟩
theorem LS.ext {h h' : LHeap} {lo : Nat} {v : Value} {l : List Ln} (S : LS h lo v l) (X : Ext h h') : LS h' lo v l :=
  S.keep (S := fun _ => False) (Keep.of_ext X) fun _ _ _ _ h => h

/-- What an answer's lines are. -/
theorem lines_sz {lo : Nat} {h : LHeap} {F : Nat → Prop} {most bound : Nat} {s : Dec} {b : Bytes} {u : Value} (O : Out7 lo h F (M.decode most bound s b).2 u) : ∃ ov e ls, u = .tuple #[ov, .int .i64 ((e : Nat) : Int)] ∧ LS h lo ov ls ∧ lsz ls ≤ bound := by
  obtain ⟨ov, e, ls, h1, h2, _, h4⟩ := O
  refine ⟨ov, e, ls, h1, h2, ?_⟩
  rcases h4 with ⟨_, h5⟩ | ⟨_, rfl, _⟩
  · exact decode_bound (d' := (M.decode most bound s b).1) (Prod.ext rfl h5)
  · exact Nat.zero_le _

theorem sBounds {h : LHeap} {most bound : Int} {v : Value} {ls : List Bytes} (B : BL h v ls) (hr : ∀ l ∈ ls, l.length ≤ reachBytes) :
    LCalls EC 8 [.agg #[.int .i64 most, .int .i64 bound, v]] h fun u _ => u = .bool true := by
  refine LCalls.enter (lf := lf8) rfl rfl (by simp [lf8]) ?_
  simp only [go_sem, lf8, ↓reduceIte]
  refine MCall.by (sRight (B.ext (Ext.push _ _)) hr) ?_
  rintro u h2 ⟨rfl, X2⟩
  have hgc : h2.get h.size = some (.cells [.int .i64 most, .int .i64 bound, v] true true) := by rw [X2.get _ (by simp)]; simp
  have hc2 : h.size < h2.size := by have := X2.size; simp at this; omega
  cases hR : rightB most bound ls with
  | false => simp only [go_sem, ↓reduceIte]
  | true =>
    obtain ⟨m, b, rfl, rfl, hm, hb, hsum⟩ := rightB_nat hR
    have B2 := (B.ext (Ext.push _ _)).ext X2
    have e1 := fun h => B2.len (q := EC.q) (h := h)
    simp only [go_sem, ↓reduceIte, hgc]
    refine MCall.by (wNew hm hb) ?_
    rintro u h3 ⟨d, F, rfl, D, X3, hF⟩
    have hgc3 : h3.get h.size = some (.cells [.int .i64 m, .int .i64 b, v] true true) := by rw [X3.get _ hc2]; exact hgc
    simp only [go_sem, ↓reduceIte, hgc3, e1]
    refine MC.cutb (fun fr hh => True) ?_ ?_
    · refine MC.loop (fun k fr hh => ∃ i s F, k = ls.length - i ∧ i ≤ ls.length ∧ fr = [(1, .pointer (some ⟨h.size, 0, none⟩)), (3, .pointer (some ⟨d, 0, none⟩)), (32, v), (33, .int .i64 (ls.length : Int)), (34, .int .i64 (i : Int))] ∧ DW hh d s m b F ∧ Ext h2 hh ∧ ∀ c, F c → h2.size ≤ c) ls.length ⟨0, _, F, rfl, Nat.zero_le _, rfl, D, X3, hF⟩ ?_
      clear D F hF
      rintro k fr hh J ⟨i, s, F, rfl, hi, rfl, D, X, hF⟩ hJ
      by_cases hlt : i < ls.length
      · obtain ⟨bb, vs, tt, rr, u, l, rfl, g1, g2, g3, g4, A⟩ := B2.at hlt
        have c0 : (0 : Int) ≤ (i : Int) := by omega
        have c1 : (i : Int) < (ls.length : Int) := by omega
        have hg : hh.get bb = some (.cells vs tt rr) := by rw [X.get _ g1]; exact g2
        have hmem : l ∈ ls := List.mem_of_getElem? g4
        have hll := sumB_mem hmem
        have hln := sumB_len ls
        simp only [go_sem, ↓reduceIte, c0, c1, hg, g3]
        refine MCall.by (wDecode D (A.blks X hF) (by omega) (by omega)) ?_
        rintro u h4 ⟨F', D4, hF4, K4, O⟩
        obtain ⟨ov, e, lns, rfl, S4, hsz⟩ := lines_sz O
        have hnl := lsz_len lns
        have X4 : Ext h2 h4 := Ext.of_keep X K4 hF
        have hF4' : ∀ c, F' c → h2.size ≤ c := fun c hc => (hF4 c hc).elim (hF c) fun h => Nat.le_trans X.size h
        simp only [go_sem, ↓reduceIte]
        refine MCall.by (sFields S4.zero (by omega)) ?_
        rintro fv h5 ⟨L5, X5⟩
        have e5 := fun h => L5.len (q := EC.q) (h := h)
        simp only [List.length_map] at e5
        simp only [go_sem, ↓reduceIte, e5]
        generalize (M.decode m b s l).1 = s4 at D4
        have w3 : IntKind.i64.wrap ((i : Int) + 1) = ((i + 1 : Nat) : Int) := by rw [IntWalk.i64_in _ (by omega)]; omega
        refine MC.cutb (fun fr hh => ∃ tl, fr = (1, .pointer (some ⟨h.size, 0, none⟩)) :: (3, .pointer (some ⟨d, 0, none⟩)) :: (7, ov) :: (9, .int .i64 ((lsz lns : Nat) : Int)) :: (32, .slice (some ⟨bb, 0, none⟩) ls.length 1) :: (33, .int .i64 (ls.length : Int)) :: (34, .int .i64 (i : Int)) :: tl ∧ Ext h5 hh) ?_ ?_
        · refine MC.loop (fun k fr hh => ∃ j, k = lns.length - j ∧ j ≤ lns.length ∧ fr = [(1, .pointer (some ⟨h.size, 0, none⟩)), (3, .pointer (some ⟨d, 0, none⟩)), (7, ov), (9, .int .i64 ((lsz (lns.take j) : Nat) : Int)), (32, .slice (some ⟨bb, 0, none⟩) ls.length 1), (33, .int .i64 (ls.length : Int)), (34, .int .i64 (i : Int)), (45, fv), (46, .int .i64 (lns.length : Int)), (47, .int .i64 (j : Int))] ∧ Ext h5 hh) lns.length ⟨0, rfl, Nat.zero_le _, rfl, Ext.refl _⟩ ?_
          rintro k fr hh2 J2 ⟨j, rfl, hj, rfl, XX⟩ hJ2
          by_cases hjl : j < lns.length
          · obtain ⟨fb, f, rfl, f1, f2, f3, f4⟩ := L5.at (i := j) (by rw [List.length_map]; exact hjl)
            rw [List.getElem?_map, Option.map_eq_some_iff] at f3
            obtain ⟨x, hx, rfl⟩ := f3
            have d0 : (0 : Int) ≤ (j : Int) := by omega
            have d1 : (j : Int) < (lns.length : Int) := by omega
            have hgf : hh2.get fb = some (.cells (fcells (lns.map (·.f))) true true) := by rw [XX.get _ f1]; exact f2
            have hle : j * 2 + 2 ≤ (fcells (lns.map (·.f))).length := by rw [fcells_len, List.length_map]; omega
            have htk : lsz (lns.take (j + 1)) = lsz (lns.take j) + fsz x.f := by
              rw [List.take_add_one, hx, lsz_append]
              simp [lsz]
            have htl := lsz_take lns (j + 1)
            have hw : szW x.f.1 x.f.2 = (fsz x.f : Int) := szW_fsz (by omega)
            have w1 : IntKind.i64.wrap (((lsz (lns.take j) : Nat) : Int) + (fsz x.f : Int)) = ((lsz (lns.take (j + 1)) : Nat) : Int) := by rw [IntWalk.i64_in _ (by omega), htk]; omega
            have w2 : IntKind.i64.wrap ((j : Int) + 1) = ((j + 1 : Nat) : Int) := by rw [IntWalk.i64_in _ (by omega)]; omega
            rw [List.length_map] at *
            simp only [go_sem, ↓reduceIte, d0, d1, hgf, hle, f4, hw, w1, w2]
            exact hJ2 (lns.length - (j + 1)) _ _ (by omega) ⟨j + 1, rfl, by omega, rfl, XX.trans ((Ext.push _ _).set (Nat.le_refl _) _)⟩
          · have d1 : ¬ (j : Int) < (lns.length : Int) := by omega
            have hjl2 : j = lns.length := by omega
            simp only [go_sem, ↓reduceIte, d1]
            rw [hjl2, List.take_length]
            exact ⟨_, rfl, XX⟩
        · rintro fr hh2 ⟨tl, rfl, XX⟩
          simp only [go_sem, ↓reduceIte]
          refine MCall.by (wTable ((D4.ext X5).ext XX)) ?_
          rintro u h6 ⟨t', lv', rfl, T, X6⟩
          have hgc6 : h6.get h.size = some (.cells [.int .i64 m, .int .i64 b, .slice (some ⟨bb, 0, none⟩) ls.length 1] true true) := by
            rw [(((X4.trans X5).trans XX).trans X6).get _ hc2]; exact hgc
          simp only [go_sem, ↓reduceIte]
          refine MC.dregion ?_
          have hsz4 := D4.sz
          have n1 : ¬ (m : Int) < (s4.st.limit : Int) := by omega
          have n2 : ¬ (s4.st.limit : Int) < (tsz s4.st.L : Int) := by omega
          have n3 : ¬ (b : Int) < ((lsz lns : Nat) : Int) := by omega
          have S6 := ((S4.ext X5).ext XX).ext X6
          have e8 := fun h => ls_len (q := EC.q) (h := h) S6
          simp only [go_sem, ↓reduceIte]
          refine MDCall.by (sLimit T) ?_
          rintro u h7 ⟨rfl, rfl⟩
          simp only [go_sem, ↓reduceIte, hgc6, n1]
          refine MDCall.by (sSizeT T) ?_
          rintro u h8 ⟨rfl, rfl⟩
          simp only [go_sem, ↓reduceIte, hgc6, n1]
          refine MDCall.by (sLimit T) ?_
          rintro u h9 ⟨rfl, rfl⟩
          simp only [go_sem, ↓reduceIte, hgc6, n1, n2, n3]
          refine MDCall.by (sFields S6.zero (by omega)) ?_
          rintro fv2 h10 ⟨L10, X10⟩
          have e10 := fun h => L10.len (q := EC.q) (h := h)
          simp only [List.length_map] at e10
          have hgc10 : h10.get h.size = some (.cells [.int .i64 m, .int .i64 b, .slice (some ⟨bb, 0, none⟩) ls.length 1] true true) := by
            rw [((((X4.trans X5).trans XX).trans X6).trans X10).get _ hc2]; exact hgc
          have nn : ((lns.length : Int) != (lns.length : Int)) = false := by simp
          simp only [go_sem, ↓reduceIte, hgc6, hgc10, e8, e10, w3, nn]
          exact hJ (ls.length - (i + 1)) _ _ (by omega) ⟨i + 1, s4, F', rfl, by omega, rfl, (((D4.ext X5).ext XX).ext X6).ext X10, (((X4.trans X5).trans XX).trans X6).trans X10, hF4'⟩
      · have c1 : ¬ (i : Int) < (ls.length : Int) := by omega
        simp only [go_sem, ↓reduceIte, c1]
    · rintro fr hh _
      simp only [go_sem, ↓reduceIte]
end Go.E1

/-
  Layer 7's statements: their arguments.
-/
namespace Go.E1
open Go Go.Proofs Go.M

theorem larg_int {h : LHeap} {n : Nat} {lv : Value} (hl : LArg Try.prog h n 3 lv) : ∃ i, lv = .int .i64 i ∧ (Lit.int .i64 i).wf = true := by
  rcases hl with ⟨g1, _⟩ | ⟨_, hl⟩
  · simp [isAggP, Try.underlying3] at g1
  · obtain ⟨i, h1, h2⟩ := LRd_int Try.underlying3 hl
    exact ⟨i, by simpa using h1, h2⟩
theorem larg_bytes {h : LHeap} {n : Nat} {lv : Value} (hl : LArg Try.prog h n 32 lv) : ∃ l, BA h lv l ∧ l.length ≤ reachBytes := by
  rcases hl with ⟨g1, _⟩ | ⟨_, hl⟩
  · simp [isAggP, Try.underlying32] at g1
  · obtain ⟨v, l, h1, h2, h3⟩ := LRd_bytes hl
    simp only [List.cons.injEq, and_true] at h1
    subst h1
    exact ⟨l, h2, h3⟩
theorem larg_blocks {h : LHeap} {n : Nat} {lv : Value} (hl : LArg Try.prog h n 31 lv) : ∃ ls, BL h lv ls ∧ ∀ l ∈ ls, l.length ≤ reachBytes := by
  rcases hl with ⟨g1, _⟩ | ⟨_, hl⟩
  · simp [isAggP, Try.underlying31] at g1
  · obtain ⟨v, l, h1, h2, h3⟩ := LRd_blocks hl
    simp only [List.cons.injEq, and_true] at h1
    subst h1
    exact ⟨l, h2, h3⟩

theorem larg_case {h : LHeap} {n : Nat} {lv : Value} (hl : LArg Try.prog h n 35 lv) : ∃ most bound v ls, lv = .agg #[.int .i64 most, .int .i64 bound, v] ∧ (Lit.int .i64 most).wf = true ∧ (Lit.int .i64 bound).wf = true ∧ BL h v ls ∧ ∀ l ∈ ls, l.length ≤ reachBytes := by
  rcases hl with ⟨_, a, rfl, hl⟩ | ⟨g1, _⟩
  · obtain ⟨m, parts, _, h1, h2, h3⟩ := LRd_struct Try.underlying35 hl
    match parts, h2 with
    | [p, q, r], _ =>
      obtain ⟨i, rfl, hi⟩ := LRd_int Try.underlying3 (h3 0 _ p rfl rfl).2
      obtain ⟨j, rfl, hj⟩ := LRd_int Try.underlying3 (h3 1 _ q rfl rfl).2
      obtain ⟨v, ls, rfl, hb, hr⟩ := LRd_blocks (h3 2 _ r rfl rfl).2
      refine ⟨i, j, v, ls, ?_, hi, hj, hb, hr⟩
      obtain ⟨l⟩ := a
      simp only at h1
      subst h1
      rfl
  · simp [isAggP, Try.underlying35] at g1

theorem lawBounds (h : LHeap) (lvs : List Value) (hl : LArgs Try.prog h 6 [35] lvs) : LCalls EC 8 lvs h fun v _ => v = .bool true := by
  obtain ⟨lv, r, rfl, hl1, hr⟩ := LArgs_cons hl
  obtain rfl := LArgs_nil hr
  obtain ⟨most, bound, v, ls, rfl, _, _, hb, hr⟩ := larg_case hl1
  exact sBounds hb hr
end Go.E1

/-
  DecodeEmpty.
-/
namespace Go.E1
open Go Go.Proofs Go.M
set_option linter.unusedSimpArgs false

theorem tsz_nil {L : List Fld} (h : tsz L ≤ 0) : L = [] := by
  cases L with
  | nil => rfl
  | cons e l => rw [tsz_cons] at h; unfold fsz at h; omega

theorem DW.empty {h : LHeap} {d : Nat} {s : Dec} {bound : Nat} {F : Nat → Prop} (D : DW h d s 0 bound F) : s.st = ⟨[], 0⟩ := by
  obtain ⟨h1, h2, _⟩ := D.sz
  obtain ⟨⟨L, limit⟩, dead⟩ := s
  simp only at h1 h2
  obtain rfl : limit = 0 := by omega
  rw [tsz_nil h1]

/-- The same answer twice. -/
theorem Out7.same {lo lo' : Nat} {h h' : LHeap} {F F' : Nat → Prop} {res : Except Nat (List Ln)} {u u' : Value} (a : Out7 lo h F res u) (b : Out7 lo' h' F' res u') : ∃ ov ov' e ls, u = .tuple #[ov, .int .i64 ((e : Nat) : Int)] ∧ u' = .tuple #[ov', .int .i64 ((e : Nat) : Int)] ∧ LS h lo ov ls ∧ LS h' lo' ov' ls ∧ ((e = 0 ∧ res = .ok ls) ∨ (e ≠ 0 ∧ ls = [] ∧ res = .error e)) := by
  obtain ⟨ov, e, ls, h1, h2, _, h4⟩ := a
  obtain ⟨ov', e', ls', h1', h2', _, h4'⟩ := b
  rcases h4 with ⟨rfl, h5⟩ | ⟨h5, rfl, h6⟩
  · rcases h4' with ⟨rfl, h5'⟩ | ⟨h5', rfl, h6'⟩
    · rw [h5] at h5'
      cases h5'
      exact ⟨ov, ov', 0, ls, h1, h1', h2, h2', .inl ⟨rfl, h5⟩⟩
    · rw [h5] at h6'; cases h6'
  · rcases h4' with ⟨rfl, h5'⟩ | ⟨h5', rfl, h6'⟩
    · rw [h6] at h5'; cases h5'
    · rw [h6] at h6'
      cases h6'
      exact ⟨ov, ov', e, [], h1, h1', h2, h2', .inr ⟨h5, rfl, h6⟩⟩

theorem LS0.at {h : LHeap} {v : Value} {l : List Ln} (S : LS0 h v l) {i : Nat} (hi : i < l.length) : ∃ b x t r, v = .slice (some ⟨b, 0, none⟩) l.length 3 ∧ b < h.size ∧ h.get b = some (.cells (lcells l) t r) ∧ l[i]? = some x ∧ ((lcells l).drop (i * 3)).take 3 = [.string x.f.1, .string x.f.2, .bool x.never] := by
  rcases S with ⟨rfl, _⟩ | ⟨b, cs, t, r, h1, h2, h3, rfl⟩
  · simp at hi
  · have : l[i]? = some l[i] := by simp
    exact ⟨b, l[i], t, r, h1, h2, h3, this, lcells_get this⟩

theorem EC_q : EC.q = qOf qAll := by kernel_rfl
theorem q_line (a b : ByteArray) (n : Bool) : EC.q 47 (.agg #[.string a, .string b, .bool n]) (.agg #[.string a, .string b, .bool n]) = some true := by
  have e : qAll.lookup 47 = some [.str, .str, .bool] := rfl
  rw [EC_q]
  simp only [qOf, e, cellsEq, leafEq, decide_true, beq_self_eq_true, Bool.and_self]

theorem sEmpty {h : LHeap} {bound : Int} {v vb : Value} {ls : List Bytes} {l : Bytes} (B : BL h v ls) (hr : ∀ l ∈ ls, l.length ≤ reachBytes) (A : BA h vb l) :
    LCalls EC 4 [.int .i64 bound, v, vb] h fun u _ => u = .bool true := by
  refine LCalls.enter (lf := lf4) rfl rfl (by simp [lf4]) ?_
  obtain ⟨bo, bn, bc, rfl⟩ : ∃ o n c, v = .slice o n c := by
    rcases B with ⟨_, rfl⟩ | ⟨b, _, _, _, rfl, _⟩ <;> exact ⟨_, _, _, rfl⟩
  simp only [go_sem, lf4, ↓reduceIte]
  refine MCall.by (sRight B hr) ?_
  rintro u h2 ⟨rfl, X2⟩
  have eA := fun h => A.len (q := EC.q) (h := h)
  have eB := fun h => B.len (q := EC.q) (h := h)
  cases hR : rightB 0 bound ls with
  | false => simp only [go_sem, ↓reduceIte]
  | true =>
    by_cases h300 : 300 < l.length
    · have c1 : (300 : Int) < (l.length : Int) := by omega
      simp only [go_sem, ↓reduceIte, eA, c1]
    · have c1 : ¬ (300 : Int) < (l.length : Int) := by omega
      obtain ⟨m, b, hm0, rfl, hm, hb, hsum⟩ := rightB_nat hR
      obtain rfl : m = 0 := by omega
      simp only [go_sem, ↓reduceIte, eA, c1]
      refine MCall.by (wNew (most := 0) (bound := b) (by omega) hb) ?_
      rintro u h3 ⟨d, Fd, rfl, D, X3, hFd⟩
      simp only [go_sem, ↓reduceIte]
      refine MCall.by (wNew (most := 0) (bound := b) (by omega) hb) ?_
      rintro u h4 ⟨f, Ff, rfl, DF, X4, hFf⟩
      simp only [go_sem, ↓reduceIte, eB]
      have X23 := X2.trans X3
      have B2 := B.ext X2
      have A2 := A.ext X2
      have sz3 := X3.size
      refine MC.cutb (fun fr hh => ∃ s Fd tl, fr = (2, vb) :: (7, .pointer (some ⟨d, 0, none⟩)) :: (9, .pointer (some ⟨f, 0, none⟩)) :: tl ∧ DW hh d s 0 b Fd ∧ DW hh f ⟨⟨[], 0⟩, false⟩ 0 b Ff ∧ Ext h2 hh ∧ (∀ c, Fd c → h2.size ≤ c) ∧ (∀ c, Fd c → ¬ Ff c)) ?_ ?_
      · refine MC.loop (fun k fr hh => ∃ i s Fd, k = ls.length - i ∧ i ≤ ls.length ∧ fr = [(2, vb), (7, .pointer (some ⟨d, 0, none⟩)), (9, .pointer (some ⟨f, 0, none⟩)), (53, .slice bo bn bc), (54, .int .i64 (ls.length : Int)), (55, .int .i64 (i : Int))] ∧ DW hh d s 0 b Fd ∧ DW hh f ⟨⟨[], 0⟩, false⟩ 0 b Ff ∧ Ext h2 hh ∧ (∀ c, Fd c → h2.size ≤ c) ∧ (∀ c, Fd c → ¬ Ff c)) ls.length ⟨0, _, Fd, rfl, Nat.zero_le _, rfl, D.ext X4, DF, X3.trans X4, hFd, fun c hc hf => absurd (D.lt hc) (Nat.not_lt.2 (hFf c hf))⟩ ?_
        clear D Fd hFd
        rintro k fr hh J ⟨i, s, Fd, rfl, hi, rfl, D, DF, X, hFd, hdis⟩ hJ
        by_cases hlt : i < ls.length
        · obtain ⟨bb, vs, tt, rr, u, x, hv, g1, g2, g3, g4, AA⟩ := B2.at hlt
          simp only [Value.slice.injEq] at hv
          obtain ⟨rfl, rfl, rfl⟩ := hv
          have c0 : (0 : Int) ≤ (i : Int) := by omega
          have c1 : (i : Int) < (ls.length : Int) := by omega
          have hg : hh.get bb = some (.cells vs tt rr) := by rw [X.get _ g1]; exact g2
          have hll := sumB_mem (List.mem_of_getElem? g4)
          have hln := sumB_len ls
          have w3 : IntKind.i64.wrap ((i : Int) + 1) = ((i + 1 : Nat) : Int) := by rw [IntWalk.i64_in _ (by omega)]; omega
          simp only [go_sem, ↓reduceIte, c0, c1, hg, g3]
          refine MCall.by (wDecode D (AA.blks X hFd) (by omega) (by omega)) ?_
          rintro u h5 ⟨F', D5, hF5, K5, O⟩
          simp only [go_sem, ↓reduceIte, w3]
          refine hJ (ls.length - (i + 1)) _ _ (by omega) ⟨i + 1, _, F', rfl, by omega, rfl, D5, DF.keep K5 fun c hc hd => hdis c hd hc, Ext.of_keep X K5 hFd, fun c hc => (hF5 c hc).elim (hFd c) fun h => Nat.le_trans X.size h, fun c hc hf => (hF5 c hc).elim (fun h => hdis c h hf) fun h => absurd (DF.lt hf) (Nat.not_lt.2 h)⟩
        · have c1 : ¬ (i : Int) < (ls.length : Int) := by omega
          simp only [go_sem, ↓reduceIte, c1]
          exact ⟨s, Fd, _, rfl, D, DF, X, hFd, hdis⟩
      · clear D Fd hFd DF
        rintro fr hh ⟨s, Fd, tl, rfl, D, DF, X, hFd, hdis⟩
        have hs := D.empty
        obtain ⟨st, dead⟩ := s
        simp only at hs
        subst hs
        simp only [go_sem, ↓reduceIte]
        refine MCall.by (wDead D) ?_
        rintro u h5 ⟨rfl, rfl⟩
        cases dead with
        | true => simp only [go_sem, ↓reduceIte]
        | false =>
          simp only [go_sem, ↓reduceIte]
          refine MCall.by (wDecode D (A2.blks X hFd) (by omega) (by omega)) ?_
          rintro u h6 ⟨Fd6, D6, hF6, K6, O6⟩
          have DF6 := DF.keep K6 fun c hc hd => hdis c hd hc
          have X6 := Ext.of_keep X K6 hFd
          have hFf2 : ∀ c, Ff c → h2.size ≤ c := fun c hc => Nat.le_trans sz3 (hFf c hc)
          generalize hres : M.decode 0 b ⟨⟨[], 0⟩, false⟩ l = res at *
          obtain ⟨ov6, e6, ls6, rfl, S6, _, _⟩ := id O6
          simp only [go_sem, ↓reduceIte]
          refine MCall.by (wDecode DF6 (A2.blks X6 hFf2) (by omega) (by omega)) ?_
          rintro u h7 ⟨Ff7, DF7, hF7, K7, O7⟩
          rw [hres] at O7
          obtain ⟨ov, ov', e, lns, hu, rfl, S6', S7', hlast⟩ := O6.same O7
          simp only [Value.tuple.injEq, Array.mk.injEq, List.cons.injEq, Value.int.injEq, true_and, and_true] at hu
          obtain ⟨rfl, he⟩ := hu
          obtain rfl : e6 = e := by omega
          have hnl : lns.length ≤ 1000 := by
            rcases hlast with ⟨_, h5⟩ | ⟨_, rfl, _⟩
            · have h8 := decode_bound (most := 0) (bound := b) (d := ⟨⟨[], 0⟩, false⟩) (b := l) (d' := res.1) (ls := lns) (by rw [hres]; exact Prod.ext rfl h5)
              have := lsz_len lns
              omega
            · simp
          have D7 := D6.keep K7 fun c hc hf => (hF6 c hc).elim (fun h => hdis c h hf) fun h => absurd (DF.lt hf) (Nat.not_lt.2 h)
          have S67 := S6'.keep K7 fun x n E hx hf => absurd (DF.lt hf) (Nat.not_lt.2 (S6'.lt hx).1)
          have e1 := fun h => ls_len (q := EC.q) (h := h) S67
          have e2 := fun h => ls_len (q := EC.q) (h := h) S7'
          have n1 : ((e6 : Int) != (e6 : Int)) = false := by simp
          have n2 : ((lns.length : Int) != (lns.length : Int)) = false := by simp
          have hst := D7.empty
          simp only [go_sem, ↓reduceIte, n1, n2, e1, e2]
          refine MCall.by (wTable D7) ?_
          rintro u h8 ⟨t8, lv8, rfl, T8, X8⟩
          simp only [go_sem, ↓reduceIte]
          refine MCall.by (wTable (D7.ext X8)) ?_
          rintro u h9 ⟨t9, lv9, rfl, T9, X9⟩
          rw [hst] at T9
          simp only [go_sem, ↓reduceIte]
          refine MCall.by (sLen T9 (by simp)) ?_
          rintro u h10 ⟨rfl, rfl⟩
          have Sa := ((S67.ext X8).ext X9).zero
          have Sb := ((S7'.ext X8).ext X9).zero
          simp only [go_sem, ↓reduceIte, List.length_nil, e1]
          refine MC.cutb (fun fr hh => True) ?_ ?_
          · refine MC.loop (fun k fr hh => ∃ i, k = lns.length - i ∧ i ≤ lns.length ∧ fr = [(13, ov6), (15, ov'), (100, .int .i64 (lns.length : Int)), (101, .int .i64 (i : Int))] ∧ hh = h10) lns.length ⟨0, rfl, Nat.zero_le _, rfl, rfl⟩ ?_
            rintro k fr hh J ⟨i, rfl, hi, rfl, rfl⟩ hJ
            by_cases hlt : i < lns.length
            · obtain ⟨b1, x, t1, r1, rfl, a1, a2, a3, a4⟩ := Sa.at hlt
              obtain ⟨b2, x2, t2, r2, rfl, c1, c2, c3, c4⟩ := Sb.at hlt
              rw [a3] at c3
              cases c3
              have d0 : (0 : Int) ≤ (i : Int) := by omega
              have d1 : (i : Int) < (lns.length : Int) := by omega
              have hle : i * 3 + 3 ≤ (lcells lns).length := by rw [lcells_len]; omega
              have w3 : IntKind.i64.wrap ((i : Int) + 1) = ((i + 1 : Nat) : Int) := by rw [IntWalk.i64_in _ (by omega)]; omega
              simp only [go_sem, ↓reduceIte, d0, d1]
              refine MC.dregion ?_
              simp only [go_sem, ↓reduceIte, d0, d1, a2, a4, c2, hle, w3, q_line]
              exact hJ (lns.length - (i + 1)) _ _ (by omega) ⟨i + 1, rfl, by omega, rfl, rfl⟩
            · have d1 : ¬ (i : Int) < (lns.length : Int) := by omega
              simp only [go_sem, ↓reduceIte, d1]
          · rintro fr hh _
            simp only [go_sem, ↓reduceIte]

theorem lawEmpty (h : LHeap) (lvs : List Value) (hl : LArgs Try.prog h 6 [3, 31, 32] lvs) : LCalls EC 4 lvs h fun v _ => v = .bool true := by
  obtain ⟨v0, r0, rfl, h0, hr0⟩ := LArgs_cons hl
  obtain ⟨v1, r1, rfl, h1, hr1⟩ := LArgs_cons hr0
  obtain ⟨v2, r2, rfl, h2, hr2⟩ := LArgs_cons hr1
  obtain rfl := LArgs_nil hr2
  obtain ⟨i, rfl, _⟩ := larg_int h0
  obtain ⟨ls, hb, hr⟩ := larg_blocks h1
  obtain ⟨l, ha, _⟩ := larg_bytes h2
  exact sEmpty hb hr ha
end Go.E1
