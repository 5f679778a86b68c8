/-
  Texts joined: SpE, SpF, SpG, SpH, SpI, SpJ, SpK, SpL.
-/
import Derived.Test.YtdbjklgnhbmlaaaKi
/-
  Layer 6: the table that moves.
-/
namespace Go.E1
open Go Go.Proofs Go.M
set_option linter.unusedSimpArgs false

def fcells (l : List Fld) : List Value := l.flatMap fun p => [.string p.1, .string p.2]
theorem fcells_len (l : List Fld) : (fcells l).length = l.length * 2 := by
  induction l with
  | nil => rfl
  | cons p l ih => simp only [fcells, List.flatMap_cons, List.length_append, List.length_cons, List.length_nil] at ih ⊢; omega
theorem fcells_append (a b : List Fld) : fcells (a ++ b) = fcells a ++ fcells b := by simp [fcells, List.flatMap_append]
theorem fcells_cons (p : Fld) (l : List Fld) : fcells (p :: l) = .string p.1 :: .string p.2 :: fcells l := rfl
theorem fcells_one (l : List Fld) : oneCells (fcells l) = true := by
  induction l with
  | nil => rfl
  | cons p l ih => rw [fcells_cons]; simp only [oneCells, List.all_cons, Value.oneCell'] at ih ⊢; simpa using ih
theorem fcells_at {z L : List Fld} {e : Fld} : ((fcells (z ++ e :: L)).drop (z.length * 2)).take 2 = [.string e.1, .string e.2] := by
  rw [fcells_append, ← fcells_len, List.drop_left]
  rfl
theorem fcells_get {l : List Fld} {i : Nat} {e : Fld} (hi : l[i]? = some e) : ((fcells l).drop (i * 2)).take 2 = [.string e.1, .string e.2] := by
  have hlt : i < l.length := by
    rcases Nat.lt_or_ge i l.length with q | q
    · exact q
    · simp [List.getElem?_eq_none q] at hi
  have h1 : l = l.take i ++ e :: l.drop (i + 1) := by
    rw [List.getElem?_eq_getElem hlt] at hi
    rw [← Option.some.inj hi, List.getElem_cons_drop, List.take_append_drop]
  have h2 := fcells_at (z := l.take i) (L := l.drop (i + 1)) (e := e)
  rw [← h1, List.length_take, Nat.min_eq_left (by omega)] at h2
  exact h2
def noF : Fld := (⟨#[]⟩, ⟨#[]⟩)
theorem fcells_wipe {z L : List Fld} {e : Fld} : splice (fcells (z ++ e :: L)) (z.length * 2) [.string ⟨#[]⟩, .string ⟨#[]⟩] = fcells ((z ++ [noF]) ++ L) := by
  have h1 : (fcells (z ++ e :: L)).take (z.length * 2) = fcells z := by rw [fcells_append, ← fcells_len, List.take_left]
  have h2 : (fcells (z ++ e :: L)).drop (z.length * 2 + 2) = fcells L := by
    rw [fcells_append, ← List.drop_drop, ← fcells_len, List.drop_left]
    rfl
  simp only [splice, List.length_cons, List.length_nil, Nat.zero_add]
  rw [h1, h2, fcells_append, fcells_append]
  simp [fcells, noF]

/-- A slice of fields in a block of its own, that is not 't'. -/
def FS (h : LHeap) (t : Nat) (lv : Value) (l : List Fld) : Prop :=
  (l = [] ∧ lv = .slice none 0 0) ∨ ∃ b, lv = .slice (some ⟨b, 0, none⟩) l.length 2 ∧ b < h.size ∧ b ≠ t ∧ h.get b = some (.cells (fcells l) true true)

structure Tbl (h : LHeap) (t : Nat) (lv : Value) (z L : List Fld) (sz limit : Int) : Prop where
  lt : t < h.size
  get : h.get t = some (.cells [lv, .int .i64 z.length, .int .i64 sz, .int .i64 limit] true true)
  fs : FS h t lv (z ++ L)

/-- The table's blocks. -/
def Foot (t : Nat) (lv : Value) (b : Nat) : Prop := b = t ∨ ∃ n E, lv = .slice (some ⟨b, 0, none⟩) n E

/-- All else is as it was. -/
structure Keep (S : Nat → Prop) (h h' : LHeap) : Prop where
  size : h.size ≤ h'.size
  get : ∀ b, b < h.size → ¬ S b → h'.get b = h.get b
theorem Keep.refl (S : Nat → Prop) (h : LHeap) : Keep S h h := ⟨Nat.le_refl _, fun _ _ _ => rfl⟩
theorem Keep.of_ext {S : Nat → Prop} {h h' : LHeap} (x : Ext h h') : Keep S h h' := ⟨x.size, fun b hb _ => x.get b hb⟩
theorem Keep.trans {S T : Nat → Prop} {a b c : LHeap} (x : Keep S a b) (y : Keep T b c) (ht : ∀ i, T i → S i ∨ a.size ≤ i) : Keep S a c :=
  ⟨Nat.le_trans x.size y.size, fun i hi hs => (y.get i (Nat.lt_of_lt_of_le hi x.size) fun h => (ht i h).elim hs fun h => absurd hi (Nat.not_lt.2 h)).trans (x.get i hi hs)⟩

theorem fs_len {q : EqF} {h hh : LHeap} {t : Nat} {lv : Value} {l : List Fld} (ho : FS hh t lv l) : lexec q (.lenS lv) h = some (.int .i64 l.length, h) := by
  rcases ho with ⟨rfl, rfl⟩ | ⟨b, rfl, _⟩ <;> rfl

theorem sLen {h : LHeap} {t : Nat} {lv : Value} {z L : List Fld} {sz limit : Int} (ht : Tbl h t lv z L sz limit) (hs : (z ++ L).length < 1000000) :
    LCalls EC 23 [.pointer (some ⟨t, 0, none⟩)] h fun u h' => u = .int .i64 L.length ∧ h' = h := by
  refine LCalls.enter (lf := lf23) rfl rfl (by simp [lf23]) ?_
  have e1 := fs_len (q := EC.q) (h := h) ht.fs
  have hsl : (z ++ L).length = z.length + L.length := List.length_append
  have w1 : IntKind.i64.wrap (((z ++ L).length : Int) - (z.length : Int)) = (L.length : Int) := by rw [IntWalk.i64_in _ (by omega)]; omega
  simp only [go_sem, lf23, ↓reduceIte]
  refine MC.dregion ?_
  simp only [go_sem, ↓reduceIte, ht.get, e1, w1]

theorem sSizeT {h : LHeap} {t : Nat} {lv : Value} {z L : List Fld} {sz limit : Int} (ht : Tbl h t lv z L sz limit) :
    LCalls EC 30 [.pointer (some ⟨t, 0, none⟩)] h fun u h' => u = .int .i64 sz ∧ h' = h := by
  refine LCalls.enter (lf := lf30) rfl rfl (by simp [lf30]) ?_
  simp only [go_sem, lf30, ↓reduceIte, ht.get]
theorem sLimit {h : LHeap} {t : Nat} {lv : Value} {z L : List Fld} {sz limit : Int} (ht : Tbl h t lv z L sz limit) :
    LCalls EC 31 [.pointer (some ⟨t, 0, none⟩)] h fun u h' => u = .int .i64 limit ∧ h' = h := by
  refine LCalls.enter (lf := lf31) rfl rfl (by simp [lf31]) ?_
  simp only [go_sem, lf31, ↓reduceIte, ht.get]

theorem sCloneF {h : LHeap} {b o : Nat} {l : List Fld} {cs : List Value} {t r : Bool} (hb : b < h.size) (hg : h.get b = some (.cells cs t r)) (hle : o + l.length * 2 ≤ cs.length) (hcs : (cs.drop o).take (l.length * 2) = fcells l) (hl : l.length < 1000000) :
    LCalls EC 74 [.slice (some ⟨b, o, none⟩) l.length 2] h fun u h' => ∃ nb, u = .slice (some ⟨nb, 0, none⟩) l.length 2 ∧ h.size ≤ nb ∧ nb < h'.size ∧ h'.get nb = some (.cells (fcells l) true true) ∧ Ext h h' := by
  refine LCalls.enter (lf := lf74) rfl rfl (by simp [lf74]) ?_
  by_cases h0 : l.length = 0
  · obtain rfl : l = [] := List.length_eq_zero_iff.1 h0
    have ha : lexec EC.q (.append 2 32 (.slice (some ⟨h.size, 0, none⟩) 0 2) (.slice (some ⟨b, o, none⟩) 0 2)) (h.push (.cells [] true true)) = some (.slice (some ⟨h.size, 0, none⟩) 0 2, h.push (.cells [] true true)) := by
      simp [lexec, LHeap.firstCells, roomOk, oneCells]
    simp only [go_sem, lf74, ↓reduceIte, List.length_nil, ha]
    exact ⟨h.size, rfl, Nat.le_refl _, by simp, by simp [fcells], Ext.push h _⟩
  · have hne : b ≠ h.size := by omega
    have hf : (h.push (.cells [] true true)).firstCells 2 (.slice (some ⟨b, o, none⟩) l.length 2) = some (l.length, fcells l) := by
      rw [first_some (cs := cs) (t := t) (r := r) (by simp [hne, hg]) hle h0, hcs]
    have ha := x_append_some (q := EC.q) (by' := 32) (b := h.size) (o := 0) (n := 0) (e := 2) (cs := []) (r := true) hf h0 (by simp) rfl (fcells_one l) (by simp [roomOk]; omega)
    simp only [go_sem, lf74, ↓reduceIte, ha]
    refine ⟨h.size + 1, by simp, by omega, by simp, by simp, by simp; omega, fun i hi => ?_⟩
    simp [show i ≠ h.size + 1 by omega, show i ≠ h.size by omega]
theorem sCloneN {h : LHeap} {c : Nat} :
    LCalls EC 74 [.slice none 0 c] h fun u h' => u = .slice none 0 0 ∧ h' = h := by
  refine LCalls.enter (lf := lf74) rfl rfl (by simp [lf74]) ?_
  simp only [go_sem, lf74, ↓reduceIte]

theorem szW_fsz {f : Fld} (h : fsz f < 4294967296) : szW f.1 f.2 = (fsz f : Int) := by
  unfold fsz at *
  unfold szW
  rw [IntWalk.i64_in ((f.1.size : Int) + f.2.size) (by omega), IntWalk.i64_in _ (by omega)]
  omega



theorem shrink_done {most : Int} {L : List Fld} (h : ¬ most < (tsz L : Int)) : shrinkL most L = L := by
  cases L with
  | nil => rfl
  | cons e l => simp only [shrinkL]; rw [if_neg h]
theorem shrink_step {most : Int} {e : Fld} {L : List Fld} (h : most < (tsz (e :: L) : Int)) : shrinkL most (e :: L) = shrinkL most L := by
  simp only [shrinkL]; rw [if_pos h]

theorem sShrinkN {h : LHeap} {t : Nat} {limit most : Int} (ht : Tbl h t (.slice none 0 0) [] [] (tsz []) limit) :
    LCalls EC 91 [.pointer (some ⟨t, 0, none⟩), .int .i64 most] h fun _ h' => h' = h := by
  have hg := ht.get
  simp only [List.length_nil] at hg
  refine LCalls.enter (lf := lf91) rfl rfl (by simp [lf91]) ?_
  simp only [go_sem, lf91, ↓reduceIte]
  refine MC.cutb (fun fr hh => fr = [(0, .pointer (some ⟨t, 0, none⟩)), (1, .int .i64 most), (5, .int .i64 0), (16, .bool false)] ∧ hh = h) ?_ ?_
  · refine MC.loop (fun m fr hh => fr = [(0, .pointer (some ⟨t, 0, none⟩)), (1, .int .i64 most), (5, .int .i64 0)] ∧ hh = h) 0 ⟨rfl, rfl⟩ ?_
    rintro m fr hh J ⟨rfl, rfl⟩ hJ
    by_cases hc : most < ((tsz [] : Nat) : Int)
    · simp only [go_sem, ↓reduceIte, hg, hc]
      refine MCall.by (sLen ht (by simp)) ?_
      rintro u h2 ⟨rfl, rfl⟩
      simp only [go_sem, ↓reduceIte, List.length_nil]
    · simp only [go_sem, ↓reduceIte, hg, hc]
  · rintro fr hh ⟨rfl, rfl⟩
    simp only [go_sem, ↓reduceIte]
    refine MC.dregion ?_
    simp only [go_sem, ↓reduceIte, hg]
    refine MDCall.by (sLen ht (by simp)) ?_
    rintro u h2 ⟨rfl, rfl⟩
    simp only [go_sem, ↓reduceIte, List.length_nil, hg]

theorem sShrink {h : LHeap} {t b : Nat} {z L : List Fld} {limit most : Int} {n0 : Nat} (hn0 : n0 = (z ++ L).length) (ht : Tbl h t (.slice (some ⟨b, 0, none⟩) n0 2) z L (tsz L) limit) (hs : tsz L < 4294967296) (hz : z.length + L.length < 400000) :
    LCalls EC 91 [.pointer (some ⟨t, 0, none⟩), .int .i64 most] h fun _ h' => ∃ lv' z', Tbl h' t lv' z' (shrinkL most L) (tsz (shrinkL most L)) limit ∧ z'.length ≤ (shrinkL most L).length ∧ Keep (Foot t (.slice (some ⟨b, 0, none⟩) n0 2)) h h' ∧ (∀ c, Foot t lv' c → Foot t (.slice (some ⟨b, 0, none⟩) n0 2) c ∨ h.size ≤ c) := by
  refine LCalls.enter (lf := lf91) rfl rfl (by simp [lf91]) ?_
  simp only [go_sem, lf91, ↓reduceIte]
  have hn1 : n0 = z.length + L.length := by rw [hn0, List.length_append]
  have hbt : b ≠ t := by
    rcases ht.fs with ⟨_, h1⟩ | ⟨b', h1, _, h2, _⟩
    · cases h1
    · cases h1; exact h2
  refine MC.cutb (fun fr hh => ∃ (n : Nat) (z1 L1 : List Fld), fr = [(0, .pointer (some ⟨t, 0, none⟩)), (1, .int .i64 most), (5, .int .i64 n), (16, .bool false)] ∧ Tbl hh t (.slice (some ⟨b, 0, none⟩) n0 2) z1 L1 (tsz L1) limit ∧ z1.length + L1.length = n0 ∧ L1 = shrinkL most L ∧
      Keep (Foot t (.slice (some ⟨b, 0, none⟩) n0 2)) h hh ∧ hh.size = h.size) ?_ ?_
  · refine MC.loop (fun m fr hh => ∃ (n : Nat) (z1 L1 : List Fld), fr = [(0, .pointer (some ⟨t, 0, none⟩)), (1, .int .i64 most), (5, .int .i64 n)] ∧ Tbl hh t (.slice (some ⟨b, 0, none⟩) n0 2) z1 L1 (tsz L1) limit ∧ z1.length + L1.length = n0 ∧ n + L1.length = L.length ∧
      tsz L1 ≤ tsz L ∧ shrinkL most L1 = shrinkL most L ∧ Keep (Foot t (.slice (some ⟨b, 0, none⟩) n0 2)) h hh ∧ hh.size = h.size ∧ m = L1.length) L.length ⟨0, z, L, rfl, ht, by rw [hn0, List.length_append], by omega, Nat.le_refl _, rfl, Keep.refl _ _, rfl, rfl⟩ ?_
    rintro m fr hh J ⟨n, z1, L1, rfl, ht1, hlen, hnl, hsz, hsh, hk, hhs, rfl⟩ hJ
    have hl1 : (z1 ++ L1).length < 1000000 := by
      have : n0 = z.length + L.length := by rw [hn0, List.length_append]
      rw [List.length_append]; omega
    by_cases hc : most < (tsz L1 : Int)
    · simp only [go_sem, ↓reduceIte, ht1.get, hc]
      refine MCall.by (sLen ht1 hl1) ?_
      rintro u h2 ⟨rfl, rfl⟩
      cases L1 with
      | nil =>
        simp only [go_sem, ↓reduceIte, List.length_nil]
        exact ⟨n, z1, [], rfl, ht1, hlen, by rw [← hsh]; rfl, hk, hhs⟩
      | cons e L2 =>
        rw [List.length_cons] at hnl hlen
        have c1 : (0 : Int) < ((L2.length + 1 : Nat) : Int) := by omega
        obtain ⟨hbs, hbg⟩ : b < h2.size ∧ h2.get b = some (.cells (fcells (z1 ++ e :: L2)) true true) := by
          rcases ht1.fs with ⟨_, h1⟩ | ⟨b', h1, h3, _, h4⟩
          · cases h1
          · cases h1; exact ⟨h3, h4⟩
        have c2 : (0 : Int) ≤ (z1.length : Int) := by omega
        have c3 : (z1.length : Int) < (n0 : Int) := by omega
        have hlc : z1.length * 2 + 2 ≤ (fcells (z1 ++ e :: L2)).length := by rw [fcells_len, List.length_append, List.length_cons]; omega
        have hat := fcells_at (z := z1) (L := L2) (e := e)
        have hts := tsz_cons e L2
        have w1 := szW_fsz (f := e) (by omega)
        have w2 : IntKind.i64.wrap ((tsz (e :: L2) : Int) - (fsz e : Int)) = (tsz L2 : Int) := by rw [IntWalk.i64_in _ (by omega)]; omega
        have w3 : IntKind.i64.wrap ((z1.length : Int) + 1) = ((z1 ++ [noF]).length : Int) := by rw [IntWalk.i64_in _ (by omega)]; simp
        have w4 : IntKind.i64.wrap ((n : Int) + 1) = ((n + 1 : Nat) : Int) := by rw [IntWalk.i64_in _ (by omega)]; rfl
        have hwipe : (fcells (z1 ++ e :: L2)).take (z1.length * 2) ++ [.string ⟨#[]⟩, .string ⟨#[]⟩] ++ (fcells (z1 ++ e :: L2)).drop (z1.length * 2 + 2) = fcells ((z1 ++ [noF]) ++ L2) := by have := fcells_wipe (z := z1) (L := L2) (e := e); simpa only [splice, List.length_cons, List.length_nil, Nat.zero_add] using this
        have htb : ¬ t = b := fun h => hbt h.symm
        simp only [go_sem, ↓reduceIte, List.length_cons, c1]
        refine MC.dregion ?_
        simp only [go_sem, ↓reduceIte, ht1.get, c2, c3, hbg, hlc, hat, w1, w2]
        refine MC.dregion ?_
        simp only [go_sem, ↓reduceIte, ht1.get, c2, c3, hbt, htb, hbg, hlc]
        rw [w3, w4, hwipe]
        refine hJ L2.length _ _ (by simp) ⟨n + 1, z1 ++ [noF], L2, rfl, ⟨by simpa using ht1.lt, by simp, .inr ⟨b, ?_, by simpa using hbs, hbt, by simp [hbt]⟩⟩, by simp; omega, by omega, by omega, by rw [← hsh, shrink_step hc], ?_, by simpa using hhs, rfl⟩
        · have : ((z1 ++ [noF]) ++ L2).length = n0 := by simp; omega
          rw [this]
        · refine ⟨by simpa using hk.size, fun c hcs hcf => ?_⟩
          have h1 : c ≠ t := fun h => hcf (.inl h)
          have h2' : c ≠ b := fun h => hcf (.inr ⟨n0, 2, by rw [h]⟩)
          simp only [LHeap.get_set, h1, h2', if_false]
          exact hk.get c hcs hcf
    · simp only [go_sem, ↓reduceIte, ht1.get, hc]
      exact ⟨n, z1, L1, rfl, ht1, hlen, by rw [← hsh, shrink_done hc], hk, hhs⟩
  · rintro fr hh ⟨n, z1, L1, rfl, ht1, hlen, hL1, hk, hhs⟩
    have hl1 : (z1 ++ L1).length < 1000000 := by rw [List.length_append]; omega
    obtain ⟨hbs, hbg⟩ : b < hh.size ∧ hh.get b = some (.cells (fcells (z1 ++ L1)) true true) := by
      rcases ht1.fs with ⟨_, h1⟩ | ⟨b', h1, h3, _, h4⟩
      · cases h1
      · cases h1; exact ⟨h3, h4⟩
    simp only [go_sem, ↓reduceIte]
    refine MC.dregion ?_
    simp only [go_sem, ↓reduceIte, ht1.get]
    refine MDCall.by (sLen ht1 hl1) ?_
    rintro u h2 ⟨rfl, rfl⟩
    by_cases hgt : L1.length < z1.length
    · have c1 : (L1.length : Int) < (z1.length : Int) := by omega
      simp only [go_sem, ↓reduceIte, ht1.get, c1]
      refine MC.dregion ?_
      have hsl := x_slice_lo (h := h2) (q := EC.q) (e := 2) (b := b) (o := 0) (n := n0) (i := z1.length) (k := .i64) (by omega)
      rw [Nat.zero_add, show n0 - z1.length = L1.length by omega] at hsl
      simp only [go_sem, ↓reduceIte, ht1.get, hsl]
      refine MDCall.by (sCloneF (l := L1) hbs hbg (by rw [fcells_len, List.length_append]; omega) ?_ (by omega)) ?_
      · rw [fcells_append, ← fcells_len z1, List.drop_left, ← fcells_len L1, List.take_length]
      · rintro u h3 ⟨nb, rfl, hn1', hn2, hn3, hx⟩
        have ht3 : h3.get t = some (.cells [.slice (some ⟨b, 0, none⟩) n0 2, .int .i64 z1.length, .int .i64 (tsz L1), .int .i64 limit] true true) := by rw [hx.get t ht1.lt]; exact ht1.get
        have hnt : nb ≠ t := by have := ht1.lt; omega
        have htn : ¬ t = nb := fun h => hnt h.symm
        simp only [go_sem, ↓reduceIte, ht3]
        rw [← hL1]
        have hlt3 : t < h3.size := Nat.lt_of_lt_of_le ht1.lt hx.size
        refine ⟨_, [], ⟨by simpa using hlt3, by simp, .inr ⟨nb, rfl, by simpa using hn2, hnt, by simp [hnt, hn3]⟩⟩, by simp, ?_, ?_⟩
        · refine ⟨by have := hx.size; have := hk.size; simp; omega, fun c hcs hcf => ?_⟩
          have h1 : c ≠ t := fun h => hcf (.inl h)
          simp only [LHeap.get_set, h1, if_false]
          rw [hx.get c (by have := hk.size; omega)]
          exact hk.get c hcs hcf
        · rintro c (rfl | ⟨n', E', he⟩)
          · exact .inl (.inl rfl)
          · cases he
            exact .inr (by omega)
    · have c1 : ¬ (L1.length : Int) < (z1.length : Int) := by omega
      simp only [go_sem, ↓reduceIte, ht1.get, c1]
      rw [← hL1]
      exact ⟨_, z1, ht1, by omega, hk, fun c hc => .inl hc⟩
/-- Shrinking, whatever the slice is. -/
theorem sShrink' {h : LHeap} {t : Nat} {lv : Value} {z L : List Fld} {limit most : Int} (ht : Tbl h t lv z L (tsz L) limit) (hs : tsz L < 4294967296) (hz : z.length + L.length < 400000) (hzl : z.length ≤ L.length) :
    LCalls EC 91 [.pointer (some ⟨t, 0, none⟩), .int .i64 most] h fun _ h' => ∃ lv' z', Tbl h' t lv' z' (shrinkL most L) (tsz (shrinkL most L)) limit ∧ z'.length ≤ (shrinkL most L).length ∧ Keep (Foot t lv) h h' ∧ (∀ c, Foot t lv' c → Foot t lv c ∨ h.size ≤ c) := by
  rcases ht.fs with ⟨h1, rfl⟩ | ⟨b, rfl, h2, h3, h4⟩
  · obtain ⟨rfl, rfl⟩ := List.append_eq_nil_iff.1 h1
    refine (sShrinkN ht).mono ?_
    rintro u h' rfl
    exact ⟨_, [], ht, Nat.le_refl _, Keep.refl _ _, fun c hc => .inl hc⟩
  · exact sShrink rfl ht hs hz

theorem tsz_shrink_le (most : Int) : ∀ L : List Fld, tsz (shrinkL most L) ≤ tsz L
  | [] => Nat.le_refl _
  | e :: l => by
    simp only [shrinkL]
    split
    · have := tsz_shrink_le most l; rw [tsz_cons]; omega
    · exact Nat.le_refl _
theorem len_shrink_le (most : Int) : ∀ L : List Fld, (shrinkL most L).length ≤ L.length
  | [] => Nat.le_refl _
  | e :: l => by
    simp only [shrinkL]
    split
    · have := len_shrink_le most l; simp only [List.length_cons]; omega
    · exact Nat.le_refl _
theorem len_tsz (L : List Fld) : L.length * 32 ≤ tsz L := by
  induction L with
  | nil => simp [tsz]
  | cons e l ih => rw [tsz_cons, List.length_cons]; unfold fsz; omega

theorem sResize {h : LHeap} {t : Nat} {lv : Value} {z L : List Fld} {limit : Int} {n : Nat} (ht : Tbl h t lv z L (tsz L) limit) (hs : tsz L < 4294967296) (hz : z.length + L.length < 400000) (hzl : z.length ≤ L.length) (hn : n ≤ 65536) :
    LCalls EC 88 [.pointer (some ⟨t, 0, none⟩), .int .i64 n] h fun u h' => (∃ k, u = .tuple #[k, .int .i64 0]) ∧ ∃ lv' z', Tbl h' t lv' z' (shrinkL n L) (tsz (shrinkL n L)) n ∧ z'.length ≤ (shrinkL n L).length ∧ Keep (Foot t lv) h h' ∧ (∀ c, Foot t lv' c → Foot t lv c ∨ h.size ≤ c) := by
  refine LCalls.enter (lf := lf88) rfl rfl (by simp [lf88]) ?_
  have c1 : (0 : Int) ≤ (n : Int) := by omega
  have c2 : (n : Int) ≤ 65536 := by omega
  simp only [go_sem, lf88, ↓reduceIte, c1, c2, ht.get]
  have ht' : Tbl (h.set t (.cells [lv, .int .i64 z.length, .int .i64 (tsz L), .int .i64 n] true true)) t lv z L (tsz L) n := by
    refine ⟨by simpa using ht.lt, by simp, ?_⟩
    rcases ht.fs with h1 | ⟨b, h1, h2, h3, h4⟩
    · exact .inl h1
    · exact .inr ⟨b, h1, by simpa using h2, h3, by simp [h3, h4]⟩
  refine MCall.by (sShrink' ht' hs hz hzl) ?_
  rintro u h' ⟨lv', z', k1, k2, k3, k4⟩
  simp only [go_sem, ↓reduceIte]
  refine ⟨⟨_, rfl⟩, lv', z', k1, k2, ⟨by have := k3.size; simpa using this, fun b hb hf => ?_⟩, fun c hc => ?_⟩
  · rw [k3.get b (by simpa using hb) hf]
    have : b ≠ t := fun h => hf (.inl h)
    simp [this]
  · rcases k4 c hc with h1 | h1
    · exact .inl h1
    · exact .inr (by simpa using h1)

theorem fs_append {q : EqF} {hh : LHeap} {t : Nat} {lv : Value} {l : List Fld} (h : FS hh t lv l) (ht : t < hh.size) (f : Fld) (hn : l.length < 1000000) :
    ∃ lv' hh', lexec q (.append 2 32 lv (.slice (some ⟨hh.size, 0, none⟩) 1 2)) (hh.push (.cells [.string f.1, .string f.2] true true)) = some (lv', hh') ∧ FS hh' t lv' (l ++ [f]) ∧ hh.size ≤ hh'.size ∧
      (∀ b, b < hh.size → ¬ (∃ n E, lv = .slice (some ⟨b, 0, none⟩) n E) → hh'.get b = hh.get b) ∧ (∀ b n E, lv' = .slice (some ⟨b, 0, none⟩) n E → hh.size ≤ b) ∧ hh'.get hh.size = some (.cells [.string f.1, .string f.2] true true) := by
  have hf : (hh.push (.cells [.string f.1, .string f.2] true true)).firstCells 2 (.slice (some ⟨hh.size, 0, none⟩) 1 2) = some (1, [.string f.1, .string f.2]) := first_some (cs := [.string f.1, .string f.2]) (t := true) (r := true) (by simp) (by simp) (by simp)
  rcases h with ⟨rfl, rfl⟩ | ⟨b, rfl, h2, h3, h4⟩
  · refine ⟨_, _, x_append_none hf (by simp) (by simp [oneCells, Value.oneCell']) (by simp [roomOk]), .inr ⟨hh.size + 1, by simp, by simp, by omega, by simp [fcells]⟩, by simp; omega, ?_, ?_, by simp⟩
    · intro i hi _
      simp [show i ≠ hh.size + 1 by omega, show i ≠ hh.size by omega]
    · intro b n E he
      cases he
      simp
  · have hb : b ≠ hh.size := by omega
    refine ⟨_, _, x_append_some (cs := fcells l) (r := true) hf (by simp) (by simp [hb, h4]) (by simp [fcells_len]) (by simp [oneCells, Value.oneCell']) (by simp only [roomOk]; simp; omega), .inr ⟨hh.size + 1, by simp, by simp, by omega, by simp [fcells_append, fcells]⟩, by simp; omega, ?_, ?_, by simp [Ne.symm hb]⟩
    · intro i hi hno
      have : i ≠ b := fun h => hno ⟨_, _, by rw [h]⟩
      simp [show i ≠ hh.size + 1 by omega, show i ≠ hh.size by omega, this]
    · intro b n E he
      cases he
      simp

theorem tsz_add {limit : Nat} {L : List Fld} {f : Fld} (h : tsz L ≤ limit) : tsz (addL limit L f) ≤ limit := by
  unfold addL
  have h1 := tsz_shrink ((limit : Int) - fsz f) L
  split
  · rename_i hf
    rw [tsz_append]
    have : tsz [f] = fsz f := by simp [tsz]
    rcases h1 with h1 | h1
    · omega
    · rw [h1]; simp [tsz] at this ⊢; omega
  · have := tsz_shrink_le ((limit : Int) - fsz f) L; omega

theorem sAdd {h : LHeap} {t : Nat} {lv : Value} {z L : List Fld} {limit : Nat} {f : Fld} (ht : Tbl h t lv z L (tsz L) limit) (hs : tsz L ≤ limit) (hlim : limit ≤ 65536) (hzl : z.length ≤ L.length) (hf : fsz f < 1000000000) :
    LCalls EC 73 [.pointer (some ⟨t, 0, none⟩), .agg #[.string f.1, .string f.2]] h fun _ h' => ∃ lv' z', Tbl h' t lv' z' (addL limit L f) (tsz (addL limit L f)) limit ∧ z'.length ≤ (addL limit L f).length ∧ Keep (Foot t lv) h h' ∧ (∀ c, Foot t lv' c → Foot t lv c ∨ h.size ≤ c) := by
  refine LCalls.enter (lf := lf73) rfl rfl (by simp [lf73]) ?_
  have hll := len_tsz L
  have e1 := szW_fsz (f := f) (by omega)
  have w1 : IntKind.i64.wrap ((limit : Int) - (fsz f : Int)) = (limit : Int) - fsz f := IntWalk.i64_in _ (by omega)
  have htn : ¬ t = h.size := by have := ht.lt; omega
  have ht1 : Tbl (h.push (.cells [.string f.1, .string f.2] true true)) t lv z L (tsz L) limit := by
    refine ⟨by have := ht.lt; simp; omega, by simp [htn, ht.get], ?_⟩
    rcases ht.fs with h1 | ⟨b, h1, h2, h3, h4⟩
    · exact .inl h1
    · exact .inr ⟨b, h1, by simp; omega, h3, by simp [show b ≠ h.size by omega, h4]⟩
  simp only [go_sem, lf73, ↓reduceIte]
  refine MC.dregion ?_
  simp only [go_sem, ↓reduceIte, htn, ht.get, e1, w1]
  refine MDCall.by (sShrink' (most := (limit : Int) - fsz f) ht1 (by omega) (by omega) hzl) ?_
  rintro u h2 ⟨lv', z', k1, k2, k3, k4⟩
  have hbx : h2.get h.size = some (.cells [.string f.1, .string f.2] true true) := by
    rw [k3.get h.size (by simp)]
    · simp
    · rintro (h1 | ⟨n, E, h1⟩)
      · exact htn h1.symm
      · rcases ht.fs with ⟨_, h2⟩ | ⟨b, h2, h3, _⟩
        · rw [h2] at h1; cases h1
        · rw [h2] at h1; cases h1; omega
  have hb2 : h.size < h2.size := by have := k3.size; simp at this; omega
  have hk0 : Keep (Foot t lv) h h2 := ⟨by omega, fun b hb hfb => by rw [k3.get b (by simp; omega) hfb]; simp [Nat.ne_of_lt hb]⟩
  have hll' := len_tsz (shrinkL ((limit : Int) - fsz f) L)
  have htl' := tsz_shrink_le ((limit : Int) - fsz f) L
  by_cases hfl : fsz f ≤ limit
  · have c1 : (fsz f : Int) ≤ (limit : Int) := by omega
    have hadd : addL limit L f = shrinkL ((limit : Int) - fsz f) L ++ [f] := by unfold addL; rw [if_pos hfl]
    have hts : tsz (addL limit L f) = tsz (shrinkL ((limit : Int) - fsz f) L) + fsz f := by rw [hadd, tsz_append]; simp [tsz]
    simp only [go_sem, ↓reduceIte]
    refine MC.dregion ?_
    simp only [go_sem, ↓reduceIte, k1.get, hbx, e1, c1]
    obtain ⟨lv3, h3, ha, hfs, hsz, hget, hnew, hold⟩ := fs_append (q := EC.q) k1.fs k1.lt f (by rw [List.length_append]; omega)
    obtain ⟨b3, rfl, hfb1, hfb2, hfb3⟩ : ∃ b, lv3 = .slice (some ⟨b, 0, none⟩) ((z' ++ shrinkL ((limit : Int) - fsz f) L) ++ [f]).length 2 ∧ b < h3.size ∧ b ≠ t ∧ h3.get b = some (.cells (fcells ((z' ++ shrinkL ((limit : Int) - fsz f) L) ++ [f])) true true) := by
      rcases hfs with ⟨h1, _⟩ | h1
      · simp at h1
      · exact h1
    have htn2 : ¬ t = h2.size := by have := k1.lt; omega
    have hlvt : ¬ ∃ n E, lv' = .slice (some ⟨t, 0, none⟩) n E := by
      rintro ⟨n, E, h1⟩
      rcases k1.fs with ⟨_, h2⟩ | ⟨b, h2, _, h3, _⟩
      · rw [h2] at h1; cases h1
      · rw [h2] at h1; cases h1; exact h3 rfl
    have ht3 := (hget t k1.lt hlvt).trans k1.get
    have hveq : veq lv' lv' = true := by
      rcases k1.fs with ⟨_, h1⟩ | ⟨b, h1, _⟩ <;> (rw [h1]; simp [veq])
    have hbx3 : h3.get h.size = some (.cells [.string f.1, .string f.2] true true) := by
      rw [hget h.size hb2]
      · exact hbx
      · rintro ⟨n, E, h1⟩
        rcases k4 h.size (.inr ⟨n, E, h1⟩) with (h2 | ⟨n', E', h2⟩) | h2
        · exact htn h2.symm
        · rcases ht.fs with ⟨_, h3⟩ | ⟨b, h3, h4, _⟩
          · rw [h3] at h2; cases h2
          · rw [h3] at h2; cases h2; omega
        · exact absurd h2 (by simp)
    have hbt : ¬ h.size = t := fun h => htn h.symm
    have w2 : IntKind.i64.wrap ((tsz (shrinkL ((limit : Int) - fsz f) L) : Int) + (fsz f : Int)) = ((tsz (addL limit L f) : Nat) : Int) := by rw [hts, IntWalk.i64_in _ (by omega)]; omega
    refine MC.dregion ?_
    simp only [go_sem, ↓reduceIte, k1.get, hbx, htn2, hveq, ha, ht3]
    refine MC.dregion ?_
    simp only [go_sem, ↓reduceIte, hbt, hbx3, e1, w2]
    refine ⟨.slice (some ⟨b3, 0, none⟩) ((z' ++ shrinkL ((limit : Int) - fsz f) L) ++ [f]).length 2, z', ⟨by have := k1.lt; simp; omega, by simp, ?_⟩, ?_, ⟨by simp; omega, ?_⟩, ?_⟩
    · rw [hadd, ← List.append_assoc]
      exact .inr ⟨b3, rfl, by simpa using hfb1, hfb2, by simp [hfb2, hfb3]⟩
    · rw [hadd, List.length_append]; omega
    · intro b hb hfb
      have h1 : b ≠ t := fun h => hfb (.inl h)
      simp only [LHeap.get_set, h1, if_false]
      rw [hget b (by omega)]
      · exact hk0.get b hb hfb
      · rintro ⟨n, E, h2⟩
        rcases k4 b (.inr ⟨n, E, h2⟩) with h3 | h3
        · exact hfb h3
        · exact absurd h3 (by simp; omega)
    · rintro c (rfl | ⟨n, E, h1⟩)
      · exact .inl (.inl rfl)
      · have := hnew c n E h1
        exact .inr (by omega)
  · have c1 : ¬ (fsz f : Int) ≤ (limit : Int) := by omega
    have hadd : addL limit L f = shrinkL ((limit : Int) - fsz f) L := by unfold addL; rw [if_neg hfl]
    simp only [go_sem, ↓reduceIte]
    refine MC.dregion ?_
    simp only [go_sem, ↓reduceIte, k1.get, hbx, e1, c1]
    rw [hadd]
    refine ⟨lv', z', k1, k2, hk0, fun c hc => ?_⟩
    rcases k4 c hc with h1 | h1
    · exact .inl h1
    · exact .inr (by simp at h1; omega)
end Go.E1

/-
  Layers 6 and 7: an entry, a number, a text.
-/
namespace Go.E1
open Go Go.Proofs Go.M
set_option linter.unusedSimpArgs false

def oF (o : Option Fld) : Fld := o.getD noF
def oE (o : Option Fld) : Int := match o with | some _ => 0 | none => 23

theorem sGetT {h : LHeap} {t : Nat} {lv : Value} {z L : List Fld} {sz limit : Int} (ht : Tbl h t lv z L sz limit) (hs : z.length + L.length < 1000000) {i : Nat} (hi : 1 ≤ i) (hi2 : i < 4294967296) :
    LCalls EC 55 [.pointer (some ⟨t, 0, none⟩), .int .i64 i] h fun u h' => u = .tuple #[pairV (oF L.reverse[i - 1]?), .int .i64 (oE L.reverse[i - 1]?)] ∧ Ext h h' := by
  refine LCalls.enter (lf := lf55) rfl rfl (by simp [lf55]) ?_
  have c1 : ¬ (i : Int) < 1 := by omega
  have htn : t ≠ h.size := by have := ht.lt; omega
  have ht1 : Tbl (h.push (.cells [.string ⟨#[]⟩, .string ⟨#[]⟩] true true)) t lv z L sz limit := by
    refine ⟨by have := ht.lt; simp; omega, by simp [htn, ht.get], ?_⟩
    rcases ht.fs with h1 | ⟨b, h1, h2, h3, h4⟩
    · exact .inl h1
    · exact .inr ⟨b, h1, by simp; omega, h3, by simp [show b ≠ h.size by omega, h4]⟩
  simp only [go_sem, lf55, ↓reduceIte, c1]
  refine MCall.by (sLen ht1 (by rw [List.length_append]; omega)) ?_
  rintro u h2 ⟨rfl, rfl⟩
  by_cases hgt : L.length < i
  · have c2 : (L.length : Int) < (i : Int) := by omega
    have hn : L.reverse[i - 1]? = none := List.getElem?_eq_none (by simp; omega)
    simp only [go_sem, ↓reduceIte, c2]
    rw [hn]
    exact ⟨rfl, (Ext.push h _).set (Nat.le_refl _) _⟩
  · have c2 : ¬ (L.length : Int) < (i : Int) := by omega
    obtain ⟨b, rfl, hb1, hb2, hb3⟩ : ∃ b, lv = .slice (some ⟨b, 0, none⟩) (z ++ L).length 2 ∧ b < h.size ∧ b ≠ t ∧ h.get b = some (.cells (fcells (z ++ L)) true true) := by
      rcases ht.fs with ⟨h1, _⟩ | h1
      · obtain ⟨rfl, rfl⟩ := List.append_eq_nil_iff.1 h1
        simp at hgt; omega
      · exact h1
    have hll : (z ++ L).length = z.length + L.length := List.length_append
    obtain ⟨f, hf⟩ : ∃ f, L[L.length - i]? = some f := ⟨L[L.length - i], by simp [show L.length - i < L.length by omega]⟩
    have hrev : L.reverse[i - 1]? = some f := by
      rw [List.getElem?_reverse (by omega), show L.length - 1 - (i - 1) = L.length - i by omega]; exact hf
    have hf2 : (z ++ L)[z.length + L.length - i]? = some f := by
      rw [List.getElem?_append_right (by omega), show z.length + L.length - i - z.length = L.length - i by omega]; exact hf
    have hat := fcells_get hf2
    have hbn : b ≠ h.size := by omega
    have w1 : IntKind.i64.wrap (((z ++ L).length : Int) - (i : Int)) = ((z.length + L.length - i : Nat) : Int) := by rw [IntWalk.i64_in _ (by omega)]; omega
    have c3 : (0 : Int) ≤ ((z.length + L.length - i : Nat) : Int) := by omega
    have c4 : ((z.length + L.length - i : Nat) : Int) < ((z ++ L).length : Int) := by omega
    have hlc : (z.length + L.length - i) * 2 + 2 ≤ (fcells (z ++ L)).length := by rw [fcells_len, hll]; omega
    simp only [go_sem, ↓reduceIte, c2]
    refine MC.dregion ?_
    simp only [go_sem, ↓reduceIte, htn, ht.get, w1, c3, c4, hbn, hb3, hlc, hat]
    rw [hrev]
    exact ⟨rfl, (Ext.push h _).set (Nat.le_refl _) _⟩

/-- A decoder: its table, its numbers. -/
structure Dcr (h : LHeap) (d t : Nat) (lv : Value) (z L : List Fld) (limit most bound : Nat) (dead : Bool) : Prop where
  lt : d < h.size
  get : h.get d = some (.cells [.pointer (some ⟨t, 0, none⟩), .int .i64 most, .int .i64 bound, .bool dead] true true)
  tbl : Tbl h t lv z L (tsz L) limit
  ne : d ≠ t
  nel : ¬ ∃ n E, lv = .slice (some ⟨d, 0, none⟩) n E
  zl : z.length ≤ L.length
  sz : tsz L ≤ limit
  lim : limit ≤ most
  mst : most ≤ 65536

theorem Dcr.len {h : LHeap} {d t : Nat} {lv : Value} {z L : List Fld} {limit most bound : Nat} {dead : Bool} (D : Dcr h d t lv z L limit most bound dead) : z.length + L.length < 10000 := by
  have := len_tsz L; have := D.zl; have := D.sz; have := D.lim; have := D.mst; omega

theorem sEntry {h : LHeap} {d t : Nat} {lv : Value} {z L : List Fld} {limit most bound : Nat} {dead : Bool} (D : Dcr h d t lv z L limit most bound dead) {i : Nat} (hi : i ≤ 2147483647) :
    LCalls EC 89 [.pointer (some ⟨d, 0, none⟩), .int .i64 i] h fun u h' => u = .tuple #[pairV (oF (entryOf ⟨L, limit⟩ i)), .int .i64 (oE (entryOf ⟨L, limit⟩ i))] ∧ Ext h h' := by
  refine LCalls.enter (lf := lf89) rfl rfl (by simp [lf89]) ?_
  by_cases h61 : i ≤ 61
  · have c1 : (i : Int) ≤ 61 := by omega
    by_cases h0 : i = 0
    · subst h0
      have he : entryOf ⟨L, limit⟩ 0 = none := rfl
      simp only [go_sem, lf89, ↓reduceIte, c1, pairV]
      rw [he]
      exact ⟨rfl, (Ext.push h _).set (Nat.le_refl _) _⟩
    · have c2 : (1 : Int) ≤ (i : Int) := by omega
      have he : entryOf ⟨L, limit⟩ i = some (ent (i - 1)) := by unfold entryOf; rw [if_neg h0, if_pos h61]
      have e1 : ((i : Int) - 1).toNat = i - 1 := by omega
      simp only [go_sem, lf89, ↓reduceIte, c1, c2, e1, pairV]
      rw [he]
      exact ⟨rfl, (Ext.push h _).set (Nat.le_refl _) _⟩
  · have c1 : ¬ (i : Int) ≤ 61 := by omega
    have he : entryOf ⟨L, limit⟩ i = L.reverse[i - 62]? := by unfold entryOf; rw [if_neg (by omega), if_neg h61]
    have hdn : d ≠ h.size := by have := D.lt; omega
    have w1 : IntKind.i64.wrap ((i : Int) - 61) = ((i - 61 : Nat) : Int) := by rw [IntWalk.i64_in _ (by omega)]; omega
    have htn : t ≠ h.size := by have := D.tbl.lt; omega
    have ht1 : Tbl (h.push (.cells [.string ⟨#[]⟩, .string ⟨#[]⟩] true true)) t lv z L (tsz L) limit := by
      refine ⟨by have := D.tbl.lt; simp; omega, by simp [htn, D.tbl.get], ?_⟩
      rcases D.tbl.fs with h1 | ⟨b, h1, h2, h3, h4⟩
      · exact .inl h1
      · exact .inr ⟨b, h1, by simp; omega, h3, by simp [show b ≠ h.size by omega, h4]⟩
    simp only [go_sem, lf89, ↓reduceIte, c1, hdn, D.get, w1]
    refine MCall.by (sGetT ht1 (by have := D.len; omega) (i := i - 61) (by omega) (by omega)) ?_
    rintro u h2 ⟨rfl, hx⟩
    have hh : h2.get h.size = some (.cells [.string ⟨#[]⟩, .string ⟨#[]⟩] true true) := by rw [hx.get h.size (by simp)]; simp
    simp only [go_sem, ↓reduceIte, pairV, hh]
    rw [he, show i - 61 - 1 = i - 62 by omega]
    exact ⟨rfl, ((Ext.push h _).trans hx).set (Nat.le_refl _) _⟩
end Go.E1

/-
  Layer 7: reading a block: a number, a text.
-/
namespace Go.E1
open Go Go.Proofs Go.M
set_option linter.unusedSimpArgs false

/-- A block's bytes, not empty, in a place of their own. -/
structure Blk (h : LHeap) (b o : Nat) (l : Bytes) : Prop where
  lt : b < h.size
  cells : ∃ cs t r, h.get b = some (.cells cs t r) ∧ o + l.length ≤ cs.length ∧ (cs.drop o).take l.length = bv l

theorem Blk.bytes {h : LHeap} {b o : Nat} {l : Bytes} (B : Blk h b o l) : BytesAt h (.slice (some ⟨b, o, none⟩) l.length 1) l := by
  obtain ⟨cs, t, r, h1, h2, h3⟩ := B.cells
  exact .inr ⟨b, o, cs, t, r, rfl, B.lt, h1, h2, h3⟩
theorem Blk.drop {h : LHeap} {b o : Nat} {l : Bytes} (B : Blk h b o l) {a : Nat} (ha : a ≤ l.length) : BytesAt h (.slice (some ⟨b, o + a, none⟩) (l.length - a) 1) (l.drop a) := by
  obtain ⟨cs, t, r, h1, h2, h3⟩ := B.cells
  refine .inr ⟨b, o + a, cs, t, r, by rw [List.length_drop], B.lt, h1, by rw [List.length_drop]; omega, ?_⟩
  have := bytes_sub h3 a (l.length - a) (by omega)
  rw [List.length_drop, this, List.take_of_length_le (by rw [List.length_drop]; omega)]
theorem Blk.same {h h' : LHeap} {b o : Nat} {l : Bytes} (B : Blk h b o l) (hs : h.size ≤ h'.size) (hg : h'.get b = h.get b) : Blk h' b o l := by
  obtain ⟨cs, t, r, h1, h2, h3⟩ := B.cells
  exact ⟨Nat.lt_of_lt_of_le B.lt hs, cs, t, r, by rw [hg]; exact h1, h2, h3⟩

/-- Where the reading stands. -/
structure Rdg (h : LHeap) (r b o : Nat) (l : Bytes) (at' : Nat) (e : Nat) : Prop where
  lt : r < h.size
  get : h.get r = some (.cells [.slice (some ⟨b, o, none⟩) l.length 1, .int .i64 at', .int .i64 e] true true)
  blk : Blk h b o l
  ne : b ≠ r
  le : at' ≤ l.length
  small : l.length < 100000

/-- One block alone turns; there may be new ones. -/
structure One (r : Nat) (h h' : LHeap) : Prop where
  size : h.size ≤ h'.size
  get : ∀ b, b < h.size → b ≠ r → h'.get b = h.get b
theorem One.of_ext {r : Nat} {h h' : LHeap} (x : Ext h h') : One r h h' := ⟨x.size, fun b hb _ => x.get b hb⟩
theorem One.refl (r : Nat) (h : LHeap) : One r h h := ⟨Nat.le_refl _, fun _ _ _ => rfl⟩
theorem One.trans {r : Nat} {a b c : LHeap} (x : One r a b) (y : One r b c) : One r a c := ⟨Nat.le_trans x.size y.size, fun i hi hn => (y.get i (Nat.lt_of_lt_of_le hi x.size) hn).trans (x.get i hi hn)⟩
theorem One.set {r : Nat} {h h' : LHeap} (x : One r h h') (o : LObj) : One r h (h'.set r o) := ⟨by simpa using x.size, fun b hb hn => by simp [hn, x.get b hb hn]⟩
theorem One.keep {r : Nat} {h h' : LHeap} (x : One r h h') : Keep (fun b => b = r) h h' := ⟨x.size, fun b hb hn => x.get b hb hn⟩

theorem sNumber {h : LHeap} {r b o : Nat} {l : Bytes} {a e : Nat} (R : Rdg h r b o l a e) {bits : Nat} (hb1 : 1 ≤ bits) (hb2 : bits ≤ 8) :
    LCalls EC 70 [.pointer (some ⟨r, 0, none⟩), .int .i64 bits] h fun u h' => u = .int .i64 (pfx bits (l.drop a)).1 ∧ Rdg h' r b o l (a + (pfx bits (l.drop a)).2.1) (pfx bits (l.drop a)).2.2 ∧ One r h h' := by
  refine LCalls.enter (lf := lf70) rfl rfl (by simp [lf70]) ?_
  have hsl := x_slice_lo (h := h) (q := EC.q) (e := 1) (b := b) (o := o) (n := l.length) (i := a) (k := .i64) R.le
  have hle : (pfx bits (l.drop a)).2.1 ≤ l.length - a := by
    rcases pfx_err bits (l.drop a) with h1 | h1
    · have := pfx_used bits (l.drop a) h1
      rw [List.length_drop] at this; exact this.1
    · rw [h1.2]; omega
  have hR := R.le
  have hsm := R.small
  have w1 : IntKind.i64.wrap ((a : Int) + ((pfx bits (l.drop a)).2.1 : Int)) = ((a + (pfx bits (l.drop a)).2.1 : Nat) : Int) := by rw [IntWalk.i64_in _ (by omega)]; omega
  simp only [go_sem, lf70, ↓reduceIte]
  refine MC.dregion ?_
  simp only [go_sem, ↓reduceIte, R.get, hsl]
  refine MDCall.by (sPfx (R.blk.drop R.le) (by rw [List.length_drop]; omega) hb1 hb2) ?_
  rintro u h1 ⟨rfl, rfl⟩
  simp only [go_sem, ↓reduceIte, R.get, w1]
  refine ⟨⟨by simpa using R.lt, by simp, R.blk.same (by simp) (by simp [R.ne]), R.ne, by omega, R.small⟩, ((One.refl r _).set _).set _⟩

theorem sLit4 {h : LHeap} {v : Value} {l : Bytes} (hv : BytesAt h v l) (hl : l.length < 1000000) :
    LCalls EC 93 [v, .int .i64 4096] h fun u h' => ∃ sv, u = .tuple #[sv, .int .i64 (litDec 4096 l).2.1, .int .i64 (litDec 4096 l).2.2] ∧ OutAt h' h.size sv (litDec 4096 l).1 ∧ Ext h h' := sLit (limit := 4096) hv hl (by omega)

theorem sText {h : LHeap} {r b o : Nat} {l : Bytes} {a : Nat} (R : Rdg h r b o l a 0) :
    LCalls EC 90 [.pointer (some ⟨r, 0, none⟩)] h fun u h' => u = .string (toBA (litDec 4096 (l.drop a)).1) ∧ Rdg h' r b o l (a + (litDec 4096 (l.drop a)).2.1) (litDec 4096 (l.drop a)).2.2 ∧ One r h h' := by
  refine LCalls.enter (lf := lf90) rfl rfl (by simp [lf90]) ?_
  have hsl := x_slice_lo (h := h) (q := EC.q) (e := 1) (b := b) (o := o) (n := l.length) (i := a) (k := .i64) R.le
  have hle := litDec_used 4096 (l.drop a)
  rw [List.length_drop] at hle
  have hR := R.le
  have hsm := R.small
  have hg := R.get
  have w1 : IntKind.i64.wrap ((a : Int) + ((litDec 4096 (l.drop a)).2.1 : Int)) = ((a + (litDec 4096 (l.drop a)).2.1 : Nat) : Int) := by rw [IntWalk.i64_in _ (by omega)]; omega
  have e0 : (((0 : Nat) : Int) != 0) = false := rfl
  simp only [go_sem, lf90, ↓reduceIte, hg, e0]
  refine MC.dregion ?_
  simp only [go_sem, ↓reduceIte, hg, hsl]
  refine MDCall.by (sLit4 (R.blk.drop R.le) (by rw [List.length_drop]; omega)) ?_
  rintro u h1 ⟨sv, rfl, ho, hx⟩
  have hg1 : h1.get r = some (.cells [.slice (some ⟨b, o, none⟩) l.length 1, .int .i64 a, .int .i64 (0 : Nat)] true true) := by rw [hx.get r R.lt]; exact hg
  have hstr : ∀ c1 c2, lexec EC.q (.bytesStr sv) ((h1.set r c1).set r c2) = some (.string (toBA (litDec 4096 (l.drop a)).1), (h1.set r c1).set r c2) := by
    intro c1 c2
    refine out_str (lo := h.size) ?_
    rcases ho with h1 | ⟨bb, h1, h2, h3, h4⟩
    · exact .inl h1
    · exact .inr ⟨bb, h1, h2, by simpa using h3, by have := R.lt; simp [show bb ≠ r by omega, h4]⟩
  simp only [go_sem, ↓reduceIte, hg1, w1, hstr]
  have hlt1 : r < h1.size := Nat.lt_of_lt_of_le R.lt hx.size
  exact ⟨⟨by simpa using hlt1, by simp, R.blk.same (by simpa using hx.size) (by simp [R.ne, hx.get b R.blk.lt]), R.ne, by omega, R.small⟩, ((One.of_ext hx).set _).set _⟩

theorem sTextE {h : LHeap} {r b o : Nat} {l : Bytes} {a e : Nat} (R : Rdg h r b o l a e) (he : e ≠ 0) :
    LCalls EC 90 [.pointer (some ⟨r, 0, none⟩)] h fun u h' => u = .string ⟨#[]⟩ ∧ h' = h := by
  refine LCalls.enter (lf := lf90) rfl rfl (by simp [lf90]) ?_
  have e0 : ((e : Int) != 0) = true := by simp; omega
  simp only [go_sem, lf90, ↓reduceIte, R.get, e0]
end Go.E1

/-
  Layer 7: a field, a form.
-/
namespace Go.E1
open Go Go.Proofs Go.M
set_option linter.unusedSimpArgs false

/-- A decoder's blocks. -/
def FootD (d t : Nat) (lv : Value) (b : Nat) : Prop := b = d ∨ Foot t lv b

theorem Dcr.same {h h' : LHeap} {d t : Nat} {lv : Value} {z L : List Fld} {limit most bound : Nat} {dead : Bool} (D : Dcr h d t lv z L limit most bound dead) (hs : h.size ≤ h'.size) (hg : ∀ b, b < h.size → FootD d t lv b → h'.get b = h.get b) : Dcr h' d t lv z L limit most bound dead := by
  refine ⟨Nat.lt_of_lt_of_le D.lt hs, by rw [hg d D.lt (.inl rfl)]; exact D.get, ⟨Nat.lt_of_lt_of_le D.tbl.lt hs, by rw [hg t D.tbl.lt (.inr (.inl rfl))]; exact D.tbl.get, ?_⟩, D.ne, D.nel, D.zl, D.sz, D.lim, D.mst⟩
  rcases D.tbl.fs with h1 | ⟨b, h1, h2, h3, h4⟩
  · exact .inl h1
  · exact .inr ⟨b, h1, Nat.lt_of_lt_of_le h2 hs, h3, by rw [hg b h2 (.inr (.inr ⟨_, _, h1⟩))]; exact h4⟩
theorem Dcr.ext {h h' : LHeap} {d t : Nat} {lv : Value} {z L : List Fld} {limit most bound : Nat} {dead : Bool} (D : Dcr h d t lv z L limit most bound dead) (hx : Ext h h') : Dcr h' d t lv z L limit most bound dead := D.same hx.size fun b hb _ => hx.get b hb
theorem Dcr.one {h h' : LHeap} {d t r : Nat} {lv : Value} {z L : List Fld} {limit most bound : Nat} {dead : Bool} (D : Dcr h d t lv z L limit most bound dead) (hx : One r h h') (hr : ¬ FootD d t lv r) : Dcr h' d t lv z L limit most bound dead := D.same hx.size fun b hb hf => hx.get b hb fun h => hr (h ▸ hf)
theorem Rdg.ext {h h' : LHeap} {r b o : Nat} {l : Bytes} {a e : Nat} (R : Rdg h r b o l a e) (hx : Ext h h') : Rdg h' r b o l a e :=
  ⟨Nat.lt_of_lt_of_le R.lt hx.size, by rw [hx.get r R.lt]; exact R.get, R.blk.same hx.size (hx.get b R.blk.lt), R.ne, R.le, R.small⟩

def kV (bits : Int) (i a z n : Bool) : Value := .agg #[.int .i64 bits, .bool i, .bool a, .bool z, .bool n]

theorem Rdg.setO {h : LHeap} {r b o : Nat} {l : Bytes} {a e : Nat} (R : Rdg h r b o l a e) {x : Nat} (hx : x ≠ r) (hb : x ≠ b) (c : LObj) : Rdg (h.set x c) r b o l a e :=
  ⟨by simpa using R.lt, by simp [Ne.symm hx, R.get], R.blk.same (by simp) (by simp [Ne.symm hb]), R.ne, R.le, R.small⟩

/-- What holds behind a field's name. -/
def FieldJ (h : LHeap) (r b o : Nat) (l : Bytes) (a : Nat) (L : List Fld) (limit : Nat) (bits : Int) (ix ad rz nv : Bool) (n : Nat) (fr : Fr) (hh : LHeap) : Prop :=
  ∃ nm vl a1 e1, fr = [(1, .pointer (some ⟨r, 0, none⟩)), (6, .pointer (some ⟨h.size, 0, none⟩)), (8, .pointer (some ⟨h.size + 1, 0, none⟩)), (9, .pointer (some ⟨h.size + 2, 0, none⟩))] ∧
    hh.get h.size = some (.cells [.int .i64 bits, .bool ix, .bool ad, .bool rz, .bool nv] true true) ∧ hh.get (h.size + 1) = some (.cells [.string ⟨#[]⟩, .string ⟨#[]⟩, .bool false] true true) ∧
    hh.get (h.size + 2) = some (.cells [.string nm, .string vl, .bool false] true true) ∧ h.size + 3 ≤ hh.size ∧ Rdg hh r b o l a1 e1 ∧ One r h hh ∧
    ((e1 ≠ 0 ∧ (fieldOf ⟨L, limit⟩ ix n (l.drop a)).2.2 = e1) ∨ (e1 = 0 ∧ ix = true ∧ fieldOf ⟨L, limit⟩ ix n (l.drop a) = ((nm, vl), l.drop a1, 0)) ∨ (e1 = 0 ∧ ix = false ∧ fieldOf ⟨L, limit⟩ ix n (l.drop a) = valOf nm (l.drop a1)))

theorem sField {h : LHeap} {d t r b o : Nat} {lv : Value} {z L : List Fld} {limit most bound : Nat} {dead : Bool} {l : Bytes} {a : Nat} (D : Dcr h d t lv z L limit most bound dead) (R : Rdg h r b o l a 0) (_hr : ¬ FootD d t lv r) {bits : Int} {ix ad rz nv : Bool} {n : Nat} (hn : n ≤ 2147483647) :
    LCalls EC 72 [.pointer (some ⟨d, 0, none⟩), .pointer (some ⟨r, 0, none⟩), kV bits ix ad rz nv, .int .i64 n] h fun u h' => ∃ f a', u = lineV f nv ∧ Rdg h' r b o l a' (fieldOf ⟨L, limit⟩ ix n (l.drop a)).2.2 ∧ One r h h' ∧
      ((fieldOf ⟨L, limit⟩ ix n (l.drop a)).2.2 = 0 → f = (fieldOf ⟨L, limit⟩ ix n (l.drop a)).1 ∧ l.drop a' = (fieldOf ⟨L, limit⟩ ix n (l.drop a)).2.1) := by
  refine LCalls.enter (lf := lf72) rfl rfl (by simp [lf72]) ?_
  have hrs : r < h.size := R.lt
  have hbs : b < h.size := R.blk.lt
  generalize hH : (((h.push (.cells [.int .i64 bits, .bool ix, .bool ad, .bool rz, .bool nv] true true)).push (.cells [.string ⟨#[]⟩, .string ⟨#[]⟩, .bool false] true true)).push (.cells [.string ⟨#[]⟩, .string ⟨#[]⟩, .bool false] true true)) = H
  have hx3 : Ext h H := by rw [← hH]; exact ((Ext.push _ _).trans (Ext.push _ _)).trans (Ext.push _ _)
  have hs3 : H.size = h.size + 3 := by rw [← hH]; simp
  have g0 : H.get h.size = some (.cells [.int .i64 bits, .bool ix, .bool ad, .bool rz, .bool nv] true true) := by rw [← hH]; simp [show ¬ h.size = h.size + 1 + 1 by omega]
  have g1 : H.get (h.size + 1) = some (.cells [.string ⟨#[]⟩, .string ⟨#[]⟩, .bool false] true true) := by rw [← hH]; simp
  have g2 : H.get (h.size + 2) = some (.cells [.string ⟨#[]⟩, .string ⟨#[]⟩, .bool false] true true) := by rw [← hH]; simp
  simp only [go_sem, lf72, ↓reduceIte, kV]
  rw [hH]
  refine MG.cut (FieldJ h r b o l a L limit bits ix ad rz nv n) ?_ ?_
  · -- by the entry
    have viaEntry : ∀ (hh : LHeap) (f : Option Fld), entryOf ⟨L, limit⟩ n = f → (0 < n ∨ ix = true) → Ext H hh → ∃ e1 : Nat, oE f = (e1 : Int) ∧
        (∃ nm vl a1 e1', hh.get h.size = some (.cells [.int .i64 bits, .bool ix, .bool ad, .bool rz, .bool nv] true true) ∧ hh.get (h.size + 1) = some (.cells [.string ⟨#[]⟩, .string ⟨#[]⟩, .bool false] true true) ∧
          nm = (oF f).1 ∧ vl = (oF f).2 ∧ a1 = a ∧ e1' = e1 ∧ h.size + 3 ≤ hh.size ∧ Rdg hh r b o l a 0 ∧ One r h hh ∧
          ((e1 ≠ 0 ∧ (fieldOf ⟨L, limit⟩ ix n (l.drop a)).2.2 = e1) ∨ (e1 = 0 ∧ ix = true ∧ fieldOf ⟨L, limit⟩ ix n (l.drop a) = ((nm, vl), l.drop a1, 0)) ∨ (e1 = 0 ∧ ix = false ∧ fieldOf ⟨L, limit⟩ ix n (l.drop a) = valOf nm (l.drop a1)))) := by
      intro hh f hf hor hx
      have hst : h.size + 3 ≤ hh.size := by have := hx.size; omega
      have hg0 : hh.get h.size = some (.cells [.int .i64 bits, .bool ix, .bool ad, .bool rz, .bool nv] true true) := by rw [hx.get h.size (by omega)]; exact g0
      have hg1 : hh.get (h.size + 1) = some (.cells [.string ⟨#[]⟩, .string ⟨#[]⟩, .bool false] true true) := by rw [hx.get _ (by omega)]; exact g1
      have hR := (R.ext hx3).ext hx
      have hO : One r h hh := One.of_ext (hx3.trans hx)
      cases f with
      | none =>
        refine ⟨23, rfl, _, _, _, _, hg0, hg1, rfl, rfl, rfl, rfl, hst, hR, hO, .inl ⟨by decide, ?_⟩⟩
        cases ix with
        | true => rw [field_ix, hf]
        | false => rw [field_name _ (hor.resolve_right (by simp)), hf]
      | some f =>
        refine ⟨0, rfl, _, _, _, _, hg0, hg1, rfl, rfl, rfl, rfl, hst, hR, hO, .inr ?_⟩
        cases ix with
        | true => exact .inl ⟨rfl, rfl, by rw [field_ix, hf]; rfl⟩
        | false => exact .inr ⟨rfl, rfl, by rw [field_name _ (hor.resolve_right (by simp)), hf]; rfl⟩
    have n0 : ¬ h.size + 2 = r := by omega
    have n1 : ¬ r = h.size + 2 := by omega
    have n2 : ¬ h.size = r := by omega
    have n3 : ¬ h.size + 1 = r := by omega
    have byE : (0 < n ∨ ix = true) → ∀ (hh : LHeap), Ext H hh → FieldJ h r b o l a L limit bits ix ad rz nv n [(1, .pointer (some ⟨r, 0, none⟩)), (6, .pointer (some ⟨h.size, 0, none⟩)), (8, .pointer (some ⟨h.size + 1, 0, none⟩)), (9, .pointer (some ⟨h.size + 2, 0, none⟩))]
        ((hh.set (h.size + 2) (.cells [.string (oF (entryOf ⟨L, limit⟩ n)).1, .string (oF (entryOf ⟨L, limit⟩ n)).2, .bool false] true true)).set r (.cells [.slice (some ⟨b, o, none⟩) l.length 1, .int .i64 a, .int .i64 (oE (entryOf ⟨L, limit⟩ n))] true true)) := by
      intro hor hh hx
      obtain ⟨e1, he, nm, vl, a1, e1', q0, q1, rfl, rfl, rfl, rfl, q2, q3, q4, q5⟩ := viaEntry hh _ rfl hor hx
      refine ⟨_, _, _, _, rfl, by simp [n2, q0], by simp [n3, q1], by simp [n0], by simpa using q2, ?_, ?_, q5⟩
      · rw [he]
        exact ⟨by simpa using q3.lt, by simp, q3.blk.same (by simp) (by simp [q3.ne, show b ≠ h.size + 2 by omega]), q3.ne, q3.le, q3.small⟩
      · refine ⟨by simpa using q4.size, fun c hc hn => ?_⟩
        simp [hn, show c ≠ h.size + 2 by omega, q4.get c hc hn]
    by_cases h0 : 0 < n
    · have c1 : (0 : Int) < (n : Int) := by omega
      simp only [go_sem, ↓reduceIte, c1]
      refine MCall.by (sEntry (D.ext hx3) (i := n) hn) ?_
      rintro u h1 ⟨rfl, hx⟩
      have k2 : h1.get (h.size + 2) = some (.cells [.string ⟨#[]⟩, .string ⟨#[]⟩, .bool false] true true) := by rw [hx.get _ (by omega)]; exact g2
      have kr : h1.get r = some (.cells [.slice (some ⟨b, o, none⟩) l.length 1, .int .i64 a, .int .i64 (0 : Nat)] true true) := ((R.ext hx3).ext hx).get
      simp only [go_sem, ↓reduceIte, pairV, k2, kr, n1]
      exact byE (.inl h0) h1 hx
    · obtain rfl : n = 0 := by omega
      cases ix with
      | true =>
        simp only [go_sem, ↓reduceIte, Int.lt_irrefl, g0]
        refine MCall.by (sEntry (D.ext hx3) (i := 0) hn) ?_
        rintro u h1 ⟨rfl, hx⟩
        have k2 : h1.get (h.size + 2) = some (.cells [.string ⟨#[]⟩, .string ⟨#[]⟩, .bool false] true true) := by rw [hx.get _ (by omega)]; exact g2
        have kr : h1.get r = some (.cells [.slice (some ⟨b, o, none⟩) l.length 1, .int .i64 a, .int .i64 (0 : Nat)] true true) := ((R.ext hx3).ext hx).get
        simp only [go_sem, ↓reduceIte, pairV, k2, kr, n1]
        exact byE (.inr rfl) h1 hx
      | false =>
        simp only [go_sem, ↓reduceIte, Int.lt_irrefl, g0]
        refine MCall.by (sText (R.ext hx3)) ?_
        rintro u h1 ⟨rfl, q1, q2⟩
        have k0 : h1.get h.size = some (.cells [.int .i64 bits, .bool false, .bool ad, .bool rz, .bool nv] true true) := by rw [q2.get _ (by omega) (by omega)]; exact g0
        have k1 : h1.get (h.size + 1) = some (.cells [.string ⟨#[]⟩, .string ⟨#[]⟩, .bool false] true true) := by rw [q2.get _ (by omega) (by omega)]; exact g1
        have k2 : h1.get (h.size + 2) = some (.cells [.string ⟨#[]⟩, .string ⟨#[]⟩, .bool false] true true) := by rw [q2.get _ (by omega) (by omega)]; exact g2
        simp only [go_sem, ↓reduceIte, k2]
        refine ⟨toBA (litDec 4096 (l.drop a)).1, ⟨#[]⟩, _, _, rfl, by simp [k0, show ¬ h.size = h.size + 1 + 1 by omega], by simp [k1], by simp, by have := q2.size; simp; omega, q1.setO (by omega) (by omega) _, ?_, ?_⟩
        · refine ⟨by have := q2.size; simp; omega, fun c hc hn' => ?_⟩
          simp only [LHeap.get_set, show c ≠ h.size + 2 by omega, if_false]
          rw [q2.get c (by omega) hn', hx3.get c hc]
        · rw [field_text]
          by_cases he : (litDec 4096 (l.drop a)).2.2 = 0
          · exact .inr (.inr ⟨he, rfl, by rw [if_neg (by simpa using he), List.drop_drop]⟩)
          · exact .inl ⟨he, by rw [if_pos he]⟩
  · rintro fr hh ⟨nm, vl, a1, e1, rfl, k0, k1, k2, k3, k4, k5, k6⟩
    have m0 : ¬ h.size + 1 = h.size + 2 := by omega
    have m1 : ¬ h.size + 2 = h.size + 1 := by omega
    have m2 : ¬ h.size = h.size + 2 := by omega
    cases ix with
    | true =>
      simp only [go_sem, ↓reduceIte, k0, k2, k1, m0, m1]
      refine ⟨(nm, vl), a1, rfl, ?_, ?_, ?_⟩
      · have he : (fieldOf ⟨L, limit⟩ true n (l.drop a)).2.2 = e1 := by
          rcases k6 with ⟨_, h2⟩ | ⟨h1, _, h2⟩ | ⟨_, h2, _⟩
          · exact h2
          · rw [h2, h1]
          · cases h2
        rw [he]
        exact (k4.setO (by omega) (by omega) _).setO (by omega) (by omega) _
      · refine ⟨by have := k5.size; simpa using this, fun c hc hn' => ?_⟩
        simp only [LHeap.get_set, show c ≠ h.size + 2 by omega, show c ≠ h.size + 1 by omega, if_false]
        exact k5.get c hc hn'
      · intro h0
        rcases k6 with ⟨h1, h2⟩ | ⟨_, _, h2⟩ | ⟨_, h2, _⟩
        · exact absurd (h2.symm.trans h0) h1
        · rw [h2]; exact ⟨rfl, rfl⟩
        · cases h2
    | false =>
      have key : ∀ (vl2 : ByteArray) (a2 e2 : Nat) (h1 : LHeap), Rdg h1 r b o l a2 e2 → One r hh h1 → (fieldOf ⟨L, limit⟩ false n (l.drop a)).2.2 = e2 → (e2 = 0 → fieldOf ⟨L, limit⟩ false n (l.drop a) = ((nm, vl2), l.drop a2, 0)) →
          ∃ f a', Value.agg #[.string nm, .string vl2, .bool nv] = lineV f nv ∧ Rdg ((((h1.set (h.size + 2) (.cells [.string nm, .string vl2, .bool false] true true)).set (h.size + 2) (.cells [.string nm, .string vl2, .bool nv] true true))).set (h.size + 1) (.cells [.string nm, .string vl2, .bool nv] true true)) r b o l a' (fieldOf ⟨L, limit⟩ false n (l.drop a)).2.2 ∧
            One r h ((((h1.set (h.size + 2) (.cells [.string nm, .string vl2, .bool false] true true)).set (h.size + 2) (.cells [.string nm, .string vl2, .bool nv] true true))).set (h.size + 1) (.cells [.string nm, .string vl2, .bool nv] true true)) ∧
            ((fieldOf ⟨L, limit⟩ false n (l.drop a)).2.2 = 0 → f = (fieldOf ⟨L, limit⟩ false n (l.drop a)).1 ∧ l.drop a' = (fieldOf ⟨L, limit⟩ false n (l.drop a)).2.1) := by
        intro vl2 a2 e2 h1 q1 q2 q3 q4
        refine ⟨(nm, vl2), a2, rfl, ?_, ?_, ?_⟩
        · rw [q3]
          exact ((q1.setO (by omega) (by omega) _).setO (by omega) (by omega) _).setO (by omega) (by omega) _
        · refine ⟨by have := k5.size; have := q2.size; simp; omega, fun c hc hn' => ?_⟩
          simp only [LHeap.get_set, show c ≠ h.size + 2 by omega, show c ≠ h.size + 1 by omega, if_false]
          rw [q2.get c (by have := k5.size; omega) hn']
          exact k5.get c hc hn'
        · intro h0
          rw [q4 (q3.symm.trans h0)]
          exact ⟨rfl, rfl⟩
      simp only [go_sem, ↓reduceIte, k0]
      by_cases he : e1 = 0
      · subst he
        refine MCall.by (sText k4) ?_
        rintro u h1 ⟨rfl, q1, q2⟩
        have z0 : h1.get h.size = some (.cells [.int .i64 bits, .bool false, .bool ad, .bool rz, .bool nv] true true) := by rw [q2.get _ (by omega) (by omega)]; exact k0
        have z1 : h1.get (h.size + 1) = some (.cells [.string ⟨#[]⟩, .string ⟨#[]⟩, .bool false] true true) := by rw [q2.get _ (by omega) (by omega)]; exact k1
        have z2 : h1.get (h.size + 2) = some (.cells [.string nm, .string vl, .bool false] true true) := by rw [q2.get _ (by omega) (by omega)]; exact k2
        have hfo : fieldOf ⟨L, limit⟩ false n (l.drop a) = valOf nm (l.drop a1) := by
          rcases k6 with ⟨h1, _⟩ | ⟨_, h2, _⟩ | ⟨_, _, h2⟩
          · exact absurd rfl h1
          · cases h2
          · exact h2
        simp only [go_sem, ↓reduceIte, z0, z1, z2, m0, m1, m2]
        refine key _ _ _ _ q1 q2 ?_ ?_
        · rw [hfo]; unfold valOf
          by_cases hz : (litDec 4096 (l.drop a1)).2.2 = 0
          · rw [if_neg (by simpa using hz)]; exact hz.symm
          · rw [if_pos hz]
        · intro hz
          rw [hfo]; unfold valOf
          rw [if_neg (by simpa using hz), List.drop_drop]
      · refine MCall.by (sTextE k4 he) ?_
        rintro u h1 ⟨rfl, rfl⟩
        simp only [go_sem, ↓reduceIte, k0, k1, k2, m0, m1, m2]
        refine key _ _ _ _ k4 (One.refl _ _) ?_ ?_
        · rcases k6 with ⟨_, h2⟩ | ⟨h1, _⟩ | ⟨h1, _⟩
          · exact h2
          · exact absurd h1 he
          · exact absurd h1 he
        · intro hz; exact absurd hz he
end Go.E1

/-
  Layer 7: a form.
-/
namespace Go.E1
open Go Go.Proofs Go.M
set_option linter.unusedSimpArgs false

theorem kind_at (c : UInt8) : kindV (c.toNat : Int) = kV (kbits c) (decide (128 ≤ c.toNat)) (decide (64 ≤ c.toNat ∧ c.toNat < 128)) (decide (32 ≤ c.toNat ∧ c.toNat < 64)) (decide (16 ≤ c.toNat ∧ c.toNat < 32)) := by
  unfold kindV kV kbits
  by_cases h1 : 128 ≤ c.toNat
  · have : (128 : Int) ≤ (c.toNat : Int) := by omega
    simp [h1, this, show ¬ c.toNat < 128 by omega, show ¬ c.toNat < 64 by omega, show ¬ c.toNat < 32 by omega]
  · have e1 : ¬ (128 : Int) ≤ (c.toNat : Int) := by omega
    by_cases h2 : 64 ≤ c.toNat
    · have : (64 : Int) ≤ (c.toNat : Int) := by omega
      simp [h1, h2, e1, this, show c.toNat < 128 by omega, show ¬ c.toNat < 64 by omega, show ¬ c.toNat < 32 by omega]
    · have e2 : ¬ (64 : Int) ≤ (c.toNat : Int) := by omega
      by_cases h3 : 32 ≤ c.toNat
      · have : (32 : Int) ≤ (c.toNat : Int) := by omega
        simp [h1, h2, h3, e1, e2, this, show c.toNat < 64 by omega, show ¬ c.toNat < 32 by omega]
      · have e3 : ¬ (32 : Int) ≤ (c.toNat : Int) := by omega
        by_cases h4 : 16 ≤ c.toNat
        · have : (16 : Int) ≤ (c.toNat : Int) := by omega
          simp [h1, h2, h3, h4, e1, e2, e3, this, show c.toNat < 32 by omega]
        · have e4 : ¬ (16 : Int) ≤ (c.toNat : Int) := by omega
          simp [h1, h2, h3, h4, e1, e2, e3, e4]

theorem kbits_in (c : UInt8) : 1 ≤ kbits c ∧ kbits c ≤ 8 := by unfold kbits; repeat' split
                                                               all_goals omega

theorem sResizeBad {h : LHeap} {d t : Nat} {lv : Value} {z L : List Fld} {limit most bound : Nat} {dead : Bool} (D : Dcr h d t lv z L limit most bound dead) {n : Nat} {first : Bool} (hn : first = false ∨ most < n) :
    LCalls EC 71 [.pointer (some ⟨d, 0, none⟩), .int .i64 n, .bool first] h fun u h' => u = .int .i64 24 ∧ h' = h := by
  refine LCalls.enter (lf := lf71) rfl rfl (by simp [lf71]) ?_
  cases first with
  | false => simp only [go_sem, lf71, ↓reduceIte]
  | true =>
    have c1 : (most : Int) < (n : Int) := by have := hn.resolve_left (by simp); omega
    simp only [go_sem, lf71, ↓reduceIte, D.get, c1]

theorem sResizeOk {h : LHeap} {d t : Nat} {lv : Value} {z L : List Fld} {limit most bound : Nat} {dead : Bool} (D : Dcr h d t lv z L limit most bound dead) {n : Nat} (hm : n ≤ most) :
    LCalls EC 71 [.pointer (some ⟨d, 0, none⟩), .int .i64 n, .bool true] h fun u h' => u = .int .i64 0 ∧ ∃ lv' z', Dcr h' d t lv' z' (shrinkL n L) n most bound dead ∧ Keep (Foot t lv) h h' ∧ (∀ c, Foot t lv' c → Foot t lv c ∨ h.size ≤ c) := by
  refine LCalls.enter (lf := lf71) rfl rfl (by simp [lf71]) ?_
  have c1 : ¬ (most : Int) < (n : Int) := by omega
  have h1 := D.len
  have h2 := D.sz
  have h3 := D.lim
  have h4 := D.mst
  simp only [go_sem, lf71, ↓reduceIte, D.get, c1]
  refine MCall.by (sResize D.tbl (by omega) (by omega) D.zl (n := n) (by omega)) ?_
  rintro u h' ⟨⟨k, rfl⟩, lv', z', k1, k2, k3, k4⟩
  simp only [go_sem, ↓reduceIte]
  have hdn : ¬ Foot t lv d := by
    rintro (h | h)
    · exact D.ne h
    · exact D.nel h
  refine ⟨lv', z', ⟨Nat.lt_of_lt_of_le D.lt k3.size, by rw [k3.get d D.lt hdn]; exact D.get, k1, D.ne, ?_, k2, ?_, by omega, h4⟩, k3, k4⟩
  · intro hh
    rcases k4 d (.inr hh) with h5 | h5
    · exact hdn h5
    · have := D.lt; omega
  · rcases tsz_shrink (n : Int) L with h5 | h5
    · omega
    · rw [h5]; simp [tsz]

theorem Dcr.foot_lt {h : LHeap} {d t : Nat} {lv : Value} {z L : List Fld} {limit most bound : Nat} {dead : Bool} (D : Dcr h d t lv z L limit most bound dead) {x : Nat} (hx : FootD d t lv x) : x < h.size := by
  rcases hx with rfl | rfl | ⟨n, E, hx⟩
  · exact D.lt
  · exact D.tbl.lt
  · rcases D.tbl.fs with ⟨_, h1⟩ | ⟨b, h1, h2, _⟩
    · rw [h1] at hx; cases hx
    · rw [h1] at hx; cases hx; exact h2
theorem Dcr.setO {h : LHeap} {d t : Nat} {lv : Value} {z L : List Fld} {limit most bound : Nat} {dead : Bool} (D : Dcr h d t lv z L limit most bound dead) {x : Nat} (hx : ¬ FootD d t lv x) (c : LObj) : Dcr (h.set x c) d t lv z L limit most bound dead :=
  D.same (by simp) fun b _ hf => by simp [show b ≠ x from fun h => hx (h ▸ hf)]
theorem Rdg.setE {h : LHeap} {r b o : Nat} {l : Bytes} {a e : Nat} (R : Rdg h r b o l a e) (e' : Nat) : Rdg (h.set r (.cells [.slice (some ⟨b, o, none⟩) l.length 1, .int .i64 a, .int .i64 e'] true true)) r b o l a e' :=
  ⟨by simpa using R.lt, by simp, R.blk.same (by simp) (by simp [R.ne]), R.ne, R.le, R.small⟩
theorem Rdg.keep {h h' : LHeap} {r b o : Nat} {l : Bytes} {a e : Nat} {S : Nat → Prop} (R : Rdg h r b o l a e) (K : Keep S h h') (h1 : ¬ S r) (h2 : ¬ S b) : Rdg h' r b o l a e :=
  ⟨Nat.lt_of_lt_of_le R.lt K.size, by rw [K.get r R.lt h1]; exact R.get, R.blk.same K.size (K.get b R.blk.lt h2), R.ne, R.le, R.small⟩
theorem Keep.set {S : Nat → Prop} {h h' : LHeap} (K : Keep S h h') {x : Nat} (hx : S x ∨ h.size ≤ x) (c : LObj) : Keep S h (h'.set x c) :=
  ⟨by simpa using K.size, fun b hb hn => by
    have : b ≠ x := fun e => hx.elim (fun h => hn (e ▸ h)) fun h => by omega
    simp [this, K.get b hb hn]⟩
theorem Keep.push {S : Nat → Prop} {h h' : LHeap} (K : Keep S h h') (c : LObj) : Keep S h (h'.push c) :=
  ⟨by have := K.size; simp; omega, fun b hb hn => by
    have : b ≠ h'.size := by have := K.size; omega
    simp [this, K.get b hb hn]⟩

/-- What is left of a form. -/
structure FormR (h : LHeap) (d t r b o : Nat) (lv : Value) (l : Bytes) (most bound : Nat) (dead : Bool) (res : St × Bytes × Out) (u : Value) (h' : LHeap) : Prop where
  dec : ∃ lv' z', Dcr h' d t lv' z' res.1.L res.1.limit most bound dead ∧ (∀ c, Foot t lv' c → Foot t lv c ∨ h.size ≤ c)
  keep : Keep (fun c => FootD d t lv c ∨ c = r) h h'
  out : match res.2.2 with
    | .fail e => ∃ f nv a', u = .tuple #[lineV f nv, .bool false] ∧ Rdg h' r b o l a' e ∧ e ≠ 0
    | .none => ∃ f nv a', u = .tuple #[lineV f nv, .bool false] ∧ Rdg h' r b o l a' 0 ∧ l.drop a' = res.2.1
    | .line x => ∃ a', u = .tuple #[lineV x.f x.never, .bool true] ∧ Rdg h' r b o l a' 0 ∧ l.drop a' = res.2.1

theorem sNext {h : LHeap} {d t r b o : Nat} {lv : Value} {z L : List Fld} {limit most bound : Nat} {dead : Bool} {l : Bytes} {a : Nat} {c : UInt8} {first : Bool} (D : Dcr h d t lv z L limit most bound dead) (R : Rdg h r b o l a 0) (hr : ¬ FootD d t lv r) (hb : ¬ FootD d t lv b) (hc : l[a]? = some c) :
    LCalls EC 47 [.pointer (some ⟨d, 0, none⟩), .pointer (some ⟨r, 0, none⟩), .bool first] h fun u h' => FormR h d t r b o lv l most bound dead (form most ⟨L, limit⟩ first c (l.drop a)) u h' := by
  refine LCalls.enter (lf := lf47) rfl rfl (by simp [lf47]) ?_
  obtain ⟨cs, tt, rr, hg, hle, hcs⟩ := R.blk.cells
  have hcell := bytes_get hcs hc
  have hal : a < l.length := by
    rcases Nat.lt_or_ge a l.length with q | q
    · exact q
    · simp [List.getElem?_eq_none q] at hc
  have c1 : (0 : Int) ≤ (a : Int) := by omega
  have c2 : (a : Int) < (l.length : Int) := by omega
  have hcl := c.toNat_lt
  have c3 : (0 : Int) ≤ (c.toNat : Int) := by omega
  have c4 : (c.toNat : Int) < 256 := by omega
  have n1 : ¬ r = h.size := by have := R.lt; omega
  have n2 : ¬ b = h.size := by have := R.blk.lt; omega
  have n3 : ¬ r = h.size + 1 := by have := R.lt; omega
  have n4 : ¬ b = h.size + 1 := by have := R.blk.lt; omega
  have hk := kind_at c
  simp only [go_sem, lf47, ↓reduceIte]
  refine MC.dregion ?_
  simp only [go_sem, ↓reduceIte, R.get, n1, n2, n3, n4, c1, c2, c3, c4, hg, hcell, hk, kV]
  generalize hH : ((h.push (.cells [.string ⟨#[]⟩, .string ⟨#[]⟩, .bool false] true true)).push (.cells [.int .i64 0, .bool false, .bool false, .bool false, .bool false] true true)).set (h.size + 1) (.cells [.int .i64 (kbits c), .bool (decide (128 ≤ c.toNat)), .bool (decide (64 ≤ c.toNat ∧ c.toNat < 128)), .bool (decide (32 ≤ c.toNat ∧ c.toNat < 64)), .bool (decide (16 ≤ c.toNat ∧ c.toNat < 32))] true true) = H
  have hs2 : H.size = h.size + 2 := by rw [← hH]; simp
  have hx2 : Ext h H := by rw [← hH]; exact ((Ext.push _ _).trans (Ext.push _ _)).set (by omega) _
  have g6 : H.get h.size = some (.cells [.string ⟨#[]⟩, .string ⟨#[]⟩, .bool false] true true) := by rw [← hH]; simp
  have g8 : H.get (h.size + 1) = some (.cells [.int .i64 (kbits c), .bool (decide (128 ≤ c.toNat)), .bool (decide (64 ≤ c.toNat ∧ c.toNat < 128)), .bool (decide (32 ≤ c.toNat ∧ c.toNat < 64)), .bool (decide (16 ≤ c.toNat ∧ c.toNat < 32))] true true) := by rw [← hH]; simp
  have hrs := R.lt
  have hbs := R.blk.lt
  have dlt := D.lt
  have tlt := D.tbl.lt
  clear hH
  refine MCall.by (sNumber (R.ext hx2) (bits := kbits c) (kbits_in c).1 (kbits_in c).2) ?_
  rintro u h1 ⟨rfl, R1, O1⟩
  have D1 := (D.ext hx2).one O1 hr
  have z6 : h1.get h.size = some (.cells [.string ⟨#[]⟩, .string ⟨#[]⟩, .bool false] true true) := by rw [O1.get _ (by omega) (by omega)]; exact g6
  have z8 := (O1.get (h.size + 1) (by omega) (by omega)).trans g8
  have sz1 := O1.size
  have K1 : Keep (fun x => FootD d t lv x ∨ x = r) h h1 := ⟨by omega, fun x hx hn => by rw [O1.get x (by omega) (fun h => hn (.inr h))]; exact hx2.get x hx⟩
  by_cases he : (pfx (kbits c) (l.drop a)).2.2 = 0
  · have e1 : (((pfx (kbits c) (l.drop a)).2.2 : Int) != 0) = false := by simp [he]
    have hpu := pfx_used _ _ he
    have n5 : ¬ h.size = r := fun h => n1 h.symm
    have n6 : ¬ h.size + 1 = r := fun h => n3 h.symm
    by_cases hz : 32 ≤ c.toNat ∧ c.toNat < 64
    · -- a limit
      have hform : form most ⟨L, limit⟩ first c (l.drop a) = if first = false ∨ most < (pfx (kbits c) (l.drop a)).1 then (⟨L, limit⟩, [], .fail 24) else (⟨shrinkL (pfx (kbits c) (l.drop a)).1 L, (pfx (kbits c) (l.drop a)).1⟩, (l.drop a).drop (pfx (kbits c) (l.drop a)).2.1, .none) := by
        unfold form
        rw [if_neg (by simpa using he), if_pos hz]
      simp only [go_sem, ↓reduceIte, R1.get, e1, z8, hz]
      by_cases hbad : first = false ∨ most < (pfx (kbits c) (l.drop a)).1
      · rw [if_pos hbad] at hform
        refine MCall.by (sResizeBad D1 hbad) ?_
        rintro u h2 ⟨rfl, rfl⟩
        simp only [go_sem, ↓reduceIte, R1.get, z6, n5]
        rw [hform]
        have q1 : ¬ FootD d t lv h.size := fun h => absurd (D.foot_lt h) (Nat.lt_irrefl _)
        refine ⟨⟨lv, z, (D1.setO hr _).setO q1 _, fun c hc => .inl hc⟩, (K1.set (.inl (.inr rfl)) _).set (.inr (Nat.le_refl _)) _, ?_⟩
        exact ⟨noF, false, _, rfl, (R1.setE 24).setO (by omega) (by omega) _, by decide⟩
      · rw [if_neg hbad] at hform
        have hf1 : first = true := by cases first with
          | true => rfl
          | false => exact absurd (.inl rfl) hbad
        subst hf1
        refine MCall.by (sResizeOk D1 (by have := fun h => hbad (.inr h); omega)) ?_
        rintro u h2 ⟨rfl, lv', z', D2, K2, F2⟩
        have q1 : ∀ x, h.size ≤ x → ¬ Foot t lv x := fun x hx hf => by have := D.foot_lt (.inr hf); omega
        have R2 := R1.keep K2 (fun h => hr (.inr h)) (fun h => hb (.inr h))
        have y6 := (K2.get h.size (by omega) (q1 _ (Nat.le_refl _))).trans z6
        have sz2 := K2.size
        have q2 : ∀ x, x < h1.size → ¬ FootD d t lv x → ¬ FootD d t lv' x := by
          rintro x hx hn (h | h)
          · exact hn (.inl h)
          · rcases F2 x h with h | h
            · exact hn (.inr h)
            · omega
        have q3 : ¬ FootD d t lv h.size := fun h => absurd (D.foot_lt h) (Nat.lt_irrefl _)
        simp only [go_sem, ↓reduceIte, R2.get, y6, n5]
        rw [hform]
        refine ⟨⟨lv', z', (D2.setO (q2 r (by omega) hr) _).setO (q2 _ (by omega) q3) _, fun c hc => ?_⟩, ?_, ?_⟩
        · rcases F2 c hc with h | h
          · exact .inl h
          · exact .inr (by omega)
        · refine ((K1.trans K2 fun i hi => .inl (.inl (.inr hi))).set (.inl (.inr rfl)) _).set (.inr (Nat.le_refl _)) _
        · exact ⟨noF, false, _, rfl, (R2.setE 0).setO (by omega) (by omega) _, by rw [List.drop_drop]⟩
    · simp only [go_sem, ↓reduceIte, R1.get, e1, z8, hz]
      have R1' : Rdg h1 r b o l (a + (pfx (kbits c) (l.drop a)).2.1) 0 := by rw [he] at R1; exact R1
      have hform : form most ⟨L, limit⟩ first c (l.drop a) = (if (fieldOf ⟨L, limit⟩ (decide (128 ≤ c.toNat)) (pfx (kbits c) (l.drop a)).1 ((l.drop a).drop (pfx (kbits c) (l.drop a)).2.1)).2.2 ≠ 0 then
          (⟨L, limit⟩, [], .fail (fieldOf ⟨L, limit⟩ (decide (128 ≤ c.toNat)) (pfx (kbits c) (l.drop a)).1 ((l.drop a).drop (pfx (kbits c) (l.drop a)).2.1)).2.2)
        else
          (if 64 ≤ c.toNat ∧ c.toNat < 128 then ⟨addL limit L (fieldOf ⟨L, limit⟩ (decide (128 ≤ c.toNat)) (pfx (kbits c) (l.drop a)).1 ((l.drop a).drop (pfx (kbits c) (l.drop a)).2.1)).1, limit⟩ else ⟨L, limit⟩,
            (fieldOf ⟨L, limit⟩ (decide (128 ≤ c.toNat)) (pfx (kbits c) (l.drop a)).1 ((l.drop a).drop (pfx (kbits c) (l.drop a)).2.1)).2.1,
            .line ⟨(fieldOf ⟨L, limit⟩ (decide (128 ≤ c.toNat)) (pfx (kbits c) (l.drop a)).1 ((l.drop a).drop (pfx (kbits c) (l.drop a)).2.1)).1, decide (16 ≤ c.toNat ∧ c.toNat < 32)⟩)) := by
        unfold form
        rw [if_neg (by simpa using he), if_neg hz]
      rw [List.drop_drop] at hform
      refine MCall.by (sField (bits := kbits c) (ix := decide (128 ≤ c.toNat)) (ad := decide (64 ≤ c.toNat ∧ c.toNat < 128)) (rz := false) (nv := decide (16 ≤ c.toNat ∧ c.toNat < 32)) D1 R1' hr hpu.2.2) ?_
      generalize hfo : fieldOf ⟨L, limit⟩ (decide (128 ≤ c.toNat)) (pfx (kbits c) (l.drop a)).1 (l.drop (a + (pfx (kbits c) (l.drop a)).2.1)) = fo at hform
      rintro u h2 ⟨f, a2, rfl, R2, O2, hok⟩
      have D2 := D1.one O2 hr
      have sz2 := O2.size
      have y6 := (O2.get h.size (by omega) n5).trans z6
      have y8 := (O2.get (h.size + 1) (by omega) n6).trans z8
      have n7 : ¬ r = h2.size := by omega
      have n8 : ¬ h.size = h2.size := by omega
      have n9 : ¬ h.size + 1 = h2.size := by omega
      have n10 : ¬ d = h2.size := by omega
      simp only [go_sem, ↓reduceIte, lineV, R2.get, n7]
      generalize hH : (h2.push (.cells [.string ⟨#[]⟩, .string ⟨#[]⟩, .bool false] true true)).set h2.size (.cells [.string f.1, .string f.2, .bool (decide (16 ≤ c.toNat ∧ c.toNat < 32))] true true) = H3
      have hx3 : Ext h2 H3 := by rw [← hH]; exact (Ext.push _ _).set (Nat.le_refl _) _
      have sz3 : H3.size = h2.size + 1 := by rw [← hH]; simp
      have g10 : H3.get h2.size = some (.cells [.string f.1, .string f.2, .bool (decide (16 ≤ c.toNat ∧ c.toNat < 32))] true true) := by rw [← hH]; simp
      clear hH
      have D3 := D2.ext hx3
      have R3 := R2.ext hx3
      have x6 := (hx3.get h.size (by omega)).trans y6
      have x8 := (hx3.get (h.size + 1) (by omega)).trans y8
      have q3 : ∀ x, h.size ≤ x → ¬ FootD d t lv x := fun x hx hf => by have := D.foot_lt hf; omega
      have K3 : Keep (fun x => FootD d t lv x ∨ x = r) h H3 := ⟨by omega, fun x hx hn => by rw [hx3.get x (by omega), O2.get x (by omega) (fun h => hn (.inr h))]; exact K1.get x hx hn⟩
      by_cases he2 : fo.2.2 = 0
      · have e2 : ((fo.2.2 : Int) == 0) = true := by simp [he2]
        rw [if_neg (by simpa using he2)] at hform
        obtain ⟨rfl, hdr⟩ := hok he2
        have R3' : Rdg H3 r b o l a2 0 := by rw [he2] at R3; exact R3
        by_cases had : 64 ≤ c.toNat ∧ c.toNat < 128
        · rw [if_pos had] at hform
          have hfs : fsz fo.1 ≤ 200000 := by rw [← hfo]; exact fieldOf_sz (by have := D.sz; have := D.lim; have := D.mst; simp only; omega)
          simp only [go_sem, ↓reduceIte, e2, x8, had]
          refine MC.dregion ?_
          simp only [go_sem, ↓reduceIte, D3.get, g10]
          refine MDCall.by (sAdd (f := fo.1) D3.tbl D3.sz (by have := D3.lim; have := D3.mst; omega) D3.zl (by omega)) ?_
          rintro u h4 ⟨lv', z', T4, Z4, K4, F4⟩
          have nf : ∀ x, ¬ FootD d t lv x → ¬ Foot t lv x := fun x hx hf => hx (.inr hf)
          have hdn : ¬ Foot t lv d := by
            rintro (h | h)
            · exact D.ne h
            · exact D.nel h
          have R4 := R3'.keep K4 (nf r hr) (nf b hb)
          have y6 := (K4.get h.size (by omega) (nf _ (q3 _ (Nat.le_refl _)))).trans x6
          have y10 := (K4.get h2.size (by omega) (nf _ (q3 _ (by omega)))).trans g10
          have sz4 := K4.size
          have D4 : Dcr h4 d t lv' z' (addL limit L fo.1) limit most bound dead := by
            refine ⟨by omega, by rw [K4.get d (by omega) hdn]; exact D3.get, T4, D.ne, ?_, Z4, tsz_add D.sz, D.lim, D.mst⟩
            intro hh
            rcases F4 d (.inr hh) with h5 | h5
            · exact hdn h5
            · omega
          have q4 : ¬ FootD d t lv' h.size := by
            rintro (h5 | h5)
            · omega
            · rcases F4 _ h5 with h6 | h6
              · exact nf _ (q3 _ (Nat.le_refl _)) h6
              · omega
          have e3 : ((((0 : Nat) : Int)) == 0) = true := rfl
          simp only [go_sem, ↓reduceIte]
          refine MC.dregion ?_
          simp only [go_sem, ↓reduceIte, y10, R4.get, y6, n1, e3]
          rw [hform]
          refine ⟨⟨lv', z', D4.setO q4 _, fun c hc => ?_⟩, (K3.trans K4 fun i hi => .inl (.inl (.inr hi))).set (.inr (Nat.le_refl _)) _, ?_⟩
          · rcases F4 c hc with h5 | h5
            · exact .inl h5
            · exact .inr (by omega)
          · exact ⟨a2, rfl, R4.setO (by omega) (by omega) _, hdr⟩
        · rw [if_neg had] at hform
          simp only [go_sem, ↓reduceIte, e2, x8, had]
          refine MC.dregion ?_
          simp only [go_sem, ↓reduceIte, g10, R3.get, e2, x6, n1]
          rw [hform]
          refine ⟨⟨lv, z, D3.setO (q3 _ (Nat.le_refl _)) _, fun c hc => .inl hc⟩, K3.set (.inr (Nat.le_refl _)) _, ?_⟩
          exact ⟨a2, rfl, R3'.setO (by omega) (by omega) _, hdr⟩
      · have e2 : ((fo.2.2 : Int) == 0) = false := by simp; omega
        rw [if_pos he2] at hform
        simp only [go_sem, ↓reduceIte, e2]
        refine MC.dregion ?_
        simp only [go_sem, ↓reduceIte, g10, R3.get, e2, x6, n1]
        rw [hform]
        refine ⟨⟨lv, z, D3.setO (q3 _ (Nat.le_refl _)) _, fun c hc => .inl hc⟩, K3.set (.inr (Nat.le_refl _)) _, ?_⟩
        exact ⟨f, _, a2, rfl, R3.setO (by omega) (by omega) _, he2⟩
  · have e1 : (((pfx (kbits c) (l.drop a)).2.2 : Int) != 0) = true := by simp; omega
    have hform : form most ⟨L, limit⟩ first c (l.drop a) = (⟨L, limit⟩, [], .fail (pfx (kbits c) (l.drop a)).2.2) := by
      unfold form
      rw [if_pos he]
    simp only [go_sem, ↓reduceIte, R1.get, e1, z6]
    rw [hform]
    have q1 : ¬ FootD d t lv h.size := fun h => absurd (D.foot_lt h) (Nat.lt_irrefl _)
    refine ⟨⟨lv, z, D1.setO q1 _, fun c hc => .inl hc⟩, K1.set (.inr (Nat.le_refl _)) _, ?_⟩
    exact ⟨noF, false, _, rfl, R1.setO (by omega) (by omega) _, he⟩
end Go.E1

/-
  Layer 7: a block.
-/
namespace Go.E1
open Go Go.Proofs Go.M
set_option linter.unusedSimpArgs false

/-- Lines that were gathered. -/
def LS (h : LHeap) (lo : Nat) (v : Value) (l : List Ln) : Prop :=
  (l = [] ∧ v = .slice none 0 0) ∨ ∃ b, v = .slice (some ⟨b, 0, none⟩) l.length 3 ∧ lo ≤ b ∧ b < h.size ∧ h.get b = some (.cells (lcells l) true true)

theorem ls_len {q : EqF} {h hh : LHeap} {lo : Nat} {v : Value} {l : List Ln} (ho : LS hh lo v l) : lexec q (.lenS v) h = some (.int .i64 l.length, h) := by
  rcases ho with ⟨rfl, rfl⟩ | ⟨b, rfl, _⟩ <;> rfl

theorem ls_append {q : EqF} {hh : LHeap} {lo : Nat} {v : Value} {l : List Ln} (h : LS hh lo v l) (hlo : lo ≤ hh.size) (x : Ln) (hn : l.length < 1000000) :
    ∃ v' hh', lexec q (.append 3 40 v (.slice (some ⟨hh.size, 0, none⟩) 1 3)) (hh.push (.cells [.string x.f.1, .string x.f.2, .bool x.never] true true)) = some (v', hh') ∧ LS hh' lo v' (l ++ [x]) ∧ hh.size ≤ hh'.size ∧
      (∀ b, b < hh.size → ¬ (∃ n E, v = .slice (some ⟨b, 0, none⟩) n E) → hh'.get b = hh.get b) ∧ (∀ b n E, v' = .slice (some ⟨b, 0, none⟩) n E → hh.size ≤ b) := by
  have hf : (hh.push (.cells [.string x.f.1, .string x.f.2, .bool x.never] true true)).firstCells 3 (.slice (some ⟨hh.size, 0, none⟩) 1 3) = some (1, [.string x.f.1, .string x.f.2, .bool x.never]) := first_some (cs := [.string x.f.1, .string x.f.2, .bool x.never]) (t := true) (r := true) (by simp) (by simp) (by simp)
  rcases h with ⟨rfl, rfl⟩ | ⟨b, rfl, h2, h3, h4⟩
  · refine ⟨_, _, x_append_none hf (by simp) (by simp [oneCells, Value.oneCell']) (by simp [roomOk]), .inr ⟨hh.size + 1, by simp, by omega, by simp, by simp [lcells]⟩, by simp; omega, ?_, ?_⟩
    · intro i hi _
      simp [show i ≠ hh.size + 1 by omega, show i ≠ hh.size by omega]
    · intro b n E he
      cases he
      simp
  · have hb : b ≠ hh.size := by omega
    refine ⟨_, _, x_append_some (cs := lcells l) (r := true) hf (by simp) (by simp [hb, h4]) (by simp [lcells_len]) (by simp [oneCells, Value.oneCell']) (by simp only [roomOk]; simp; omega), .inr ⟨hh.size + 1, by simp, by omega, by simp, by simp [lcells_append, lcells]⟩, by simp; omega, ?_, ?_⟩
    · intro i hi hno
      have : i ≠ b := fun h => hno ⟨_, _, by rw [h]⟩
      simp [show i ≠ hh.size + 1 by omega, show i ≠ hh.size by omega, this]
    · intro b n E he
      cases he
      simp

/-! ### Each form has a byte at least -/
end Go.E1

/-
  Layer 7: Decode.
-/
namespace Go.E1
open Go Go.Proofs Go.M
set_option linter.unusedSimpArgs false

/-- What a block's reading leaves. -/
structure DecR (h : LHeap) (d t : Nat) (lv : Value) (most bound : Nat) (res : Dec × Except Nat (List Ln)) (u : Value) (h' : LHeap) : Prop where
  keep : Keep (FootD d t lv) h h'
  dec : ∃ lv' z', Dcr h' d t lv' z' res.1.st.L res.1.st.limit most bound res.1.dead ∧ (∀ c, Foot t lv' c → Foot t lv c ∨ h.size ≤ c) ∧
    match res.2 with
    | .error e => u = .tuple #[.slice none 0 0, .int .i64 e] ∧ e ≠ 0
    | .ok ls => ∃ ov, u = .tuple #[ov, .int .i64 0] ∧ LS h' h.size ov ls ∧ ∀ x n E, ov = .slice (some ⟨x, 0, none⟩) n E → ¬ FootD d t lv' x

theorem sDecodeDead {h : LHeap} {d t : Nat} {lv : Value} {z L : List Fld} {limit most bound : Nat} (D : Dcr h d t lv z L limit most bound true) (v : Value) (l : Bytes) :
    LCalls EC 20 [.pointer (some ⟨d, 0, none⟩), v] h fun u h' => DecR h d t lv most bound (M.decode most bound ⟨⟨L, limit⟩, true⟩ l) u h' := by
  refine LCalls.enter (lf := lf20) rfl rfl (by simp [lf20]) ?_
  have e : M.decode most bound ⟨⟨L, limit⟩, true⟩ l = (⟨⟨L, limit⟩, true⟩, .error 25) := rfl
  simp only [go_sem, lf20, ↓reduceIte, D.get]
  rw [e]
  exact ⟨Keep.refl _ _, lv, z, D, fun c hc => .inl hc, rfl, by omega⟩

/-- The loop's frame: where the reading stands. -/
def DecJ (h : LHeap) (d t r b o : Nat) (lv0 : Value) (l : Bytes) (most bound : Nat) (tgt : St × Except Nat (List Ln)) (m : Nat) (fr : Fr) (hh : LHeap) : Prop :=
  ∃ lv z L limit a e ls size ov tl, fr = (0, .pointer (some ⟨d, 0, none⟩)) :: (1, .slice (some ⟨b, o, none⟩) l.length 1) :: (6, .pointer (some ⟨r, 0, none⟩)) :: (7, ov) :: (8, .int .i64 ((size : Nat) : Int)) :: tl ∧
    Dcr hh d t lv z L limit most bound false ∧ Rdg hh r b o l a e ∧ LS hh (r + 1) ov ls ∧ (∀ x n E, ov = .slice (some ⟨x, 0, none⟩) n E → ¬ FootD d t lv x) ∧ ls.length ≤ l.length ∧ (e = 0 → ls.length ≤ a) ∧
    Keep (FootD d t lv0) h hh ∧ (∀ c, Foot t lv c → Foot t lv0 c ∨ r < c) ∧
    ((e = 0 ∧ size ≤ bound ∧ m = l.length - a + 1 ∧ decAll most bound ⟨L, limit⟩ (l.drop a) ls size = tgt) ∨ (e ≠ 0 ∧ m = 0 ∧ tgt = (⟨L, limit⟩, .error e)))

theorem LS.keep {S : Nat → Prop} {h h' : LHeap} {lo : Nat} {v : Value} {l : List Ln} (s : LS h lo v l) (K : Keep S h h') (hs : ∀ x n E, v = .slice (some ⟨x, 0, none⟩) n E → ¬ S x) : LS h' lo v l := by
  rcases s with h1 | ⟨b, h1, h2, h3, h4⟩
  · exact .inl h1
  · exact .inr ⟨b, h1, h2, Nat.lt_of_lt_of_le h3 K.size, by rw [K.get b h3 (hs _ _ _ h1)]; exact h4⟩
theorem Dcr.keepS {S : Nat → Prop} {h h' : LHeap} {d t : Nat} {lv : Value} {z L : List Fld} {limit most bound : Nat} {dead : Bool} (D : Dcr h d t lv z L limit most bound dead) (K : Keep S h h') (hn : ∀ i, FootD d t lv i → ¬ S i) : Dcr h' d t lv z L limit most bound dead := by
  refine ⟨Nat.lt_of_lt_of_le D.lt K.size, by rw [K.get d D.lt (hn d (.inl rfl))]; exact D.get, ⟨Nat.lt_of_lt_of_le D.tbl.lt K.size, by rw [K.get t D.tbl.lt (hn t (.inr (.inl rfl)))]; exact D.tbl.get, ?_⟩, D.ne, D.nel, D.zl, D.sz, D.lim, D.mst⟩
  rcases D.tbl.fs with h1 | ⟨b, h1, h2, h3, h4⟩
  · exact .inl h1
  · exact .inr ⟨b, h1, Nat.lt_of_lt_of_le h2 K.size, h3, by rw [K.get b h2 (hn b (.inr (.inr ⟨_, _, h1⟩)))]; exact h4⟩
theorem Dcr.die {h : LHeap} {d t : Nat} {lv : Value} {z L : List Fld} {limit most bound : Nat} {dead dd : Bool} (D : Dcr h d t lv z L limit most bound dead) : Dcr (h.set d (.cells [.pointer (some ⟨t, 0, none⟩), .int .i64 most, .int .i64 bound, .bool dd] true true)) d t lv z L limit most bound dd := by
  refine ⟨by simpa using D.lt, by simp [D.lt], ⟨by simpa using D.tbl.lt, by simp [D.ne.symm, D.tbl.get], ?_⟩, D.ne, D.nel, D.zl, D.sz, D.lim, D.mst⟩
  rcases D.tbl.fs with h1 | ⟨b, h1, h2, h3, h4⟩
  · exact .inl h1
  · exact .inr ⟨b, h1, by simpa using h2, h3, by simp [show b ≠ d from fun hx => D.nel ⟨_, _, hx ▸ h1⟩, h4]⟩
theorem Rdg.keepS {S : Nat → Prop} {h h' : LHeap} {r b o : Nat} {l : Bytes} {a e : Nat} (R : Rdg h r b o l a e) (K : Keep S h h') (h1 : ¬ S r) (h2 : ¬ S b) : Rdg h' r b o l a e :=
  ⟨Nat.lt_of_lt_of_le R.lt K.size, by rw [K.get r R.lt h1]; exact R.get, R.blk.same K.size (K.get b R.blk.lt h2), R.ne, R.le, R.small⟩
theorem Rdg.put {h : LHeap} {r b o : Nat} {l : Bytes} {a e : Nat} (R : Rdg h r b o l a e) (e' : Nat) : Rdg (h.set r (.cells [.slice (some ⟨b, o, none⟩) l.length 1, .int .i64 (a : Int), .int .i64 (e' : Int)] true true)) r b o l a e' :=
  ⟨by simpa using R.lt, by simp, R.blk.same (by simp) (by simp [R.ne]), R.ne, R.le, R.small⟩
theorem LS.lo_le {h : LHeap} {lo lo' : Nat} {v : Value} {l : List Ln} (s : LS h lo v l) (hl : lo' ≤ lo) : LS h lo' v l := by
  rcases s with h1 | ⟨b, h1, h2, h3, h4⟩
  · exact .inl h1
  · exact .inr ⟨b, h1, by omega, h3, h4⟩
theorem LS.lt {h : LHeap} {lo : Nat} {v : Value} {l : List Ln} (s : LS h lo v l) {x n E : Nat} (hv : v = .slice (some ⟨x, 0, none⟩) n E) : lo ≤ x ∧ x < h.size := by
  rcases s with ⟨_, h1⟩ | ⟨b, h1, h2, h3, _⟩
  · rw [h1] at hv; cases hv
  · rw [h1] at hv; cases hv; exact ⟨h2, h3⟩
theorem len_isEmpty (ls : List Ln) : ((ls.length : Int) == 0) = ls.isEmpty := by
  cases ls with
  | nil => rfl
  | cons x l => simp only [List.length_cons, List.isEmpty_cons]; exact beq_eq_false_iff_ne.2 (by omega)

theorem sDecodeLive {h : LHeap} {d t b o : Nat} {lv : Value} {z L : List Fld} {limit most bound : Nat} {l : Bytes} (D : Dcr h d t lv z L limit most bound false) (B : Blk h b o l) (hb : ¬ FootD d t lv b) (hl : l.length < 100000) (hbd : bound < 1000000000) :
    LCalls EC 20 [.pointer (some ⟨d, 0, none⟩), .slice (some ⟨b, o, none⟩) l.length 1] h fun u h' => DecR h d t lv most bound (M.decode most bound ⟨⟨L, limit⟩, false⟩ l) u h' := by
  refine LCalls.enter (lf := lf20) rfl rfl (by simp [lf20]) ?_
  have dlt := D.lt
  have tlt := D.tbl.lt
  have blt := B.lt
  have hdec : M.decode most bound ⟨⟨L, limit⟩, false⟩ l = match decAll most bound ⟨L, limit⟩ l [] 0 with
    | (s, .ok l) => (⟨s, false⟩, .ok l)
    | (s, .error e) => (⟨s, true⟩, .error e) := rfl
  generalize htg : decAll most bound ⟨L, limit⟩ l [] 0 = tgt at hdec
  simp only [go_sem, lf20, ↓reduceIte, D.get]
  refine MC.cutb (fun fr hh => ∃ lv' z' e ls size ov, fr = [(0, .pointer (some ⟨d, 0, none⟩)), (1, .slice (some ⟨b, o, none⟩) l.length 1), (6, .pointer (some ⟨h.size, 0, none⟩)), (7, ov), (8, .int .i64 ((size : Nat) : Int)), (31, .bool false)] ∧
      Dcr hh d t lv' z' tgt.1.L tgt.1.limit most bound false ∧ hh.get h.size = some (.cells [.slice (some ⟨b, o, none⟩) l.length 1, .int .i64 ((ls : Nat) : Int), .int .i64 ((e : Nat) : Int)] true true) ∧ h.size < hh.size ∧
      Keep (FootD d t lv) h hh ∧ (∀ c, Foot t lv' c → Foot t lv c ∨ h.size < c) ∧ (match tgt.2 with | .error e' => e = e' ∧ e ≠ 0 | .ok l' => e = 0 ∧ LS hh (h.size + 1) ov l' ∧ ∀ x n E, ov = .slice (some ⟨x, 0, none⟩) n E → ¬ FootD d t lv' x)) ?_ ?_
  · refine MC.loop (DecJ h d t h.size b o lv l most bound tgt) (l.length + 1) ?_ ?_
    · exact ⟨lv, z, L, limit, 0, 0, [], 0, _, _, rfl, D.ext (Ext.push _ _), ⟨by simp, by simp, B.same (by simp) (by simp [show b ≠ h.size by omega]), by omega, Nat.zero_le _, hl⟩, .inl ⟨rfl, rfl⟩, (fun x n E he => by cases he), Nat.zero_le _, (fun _ => Nat.zero_le _), Keep.of_ext (Ext.push _ _), fun c hc => .inl hc, .inl ⟨rfl, Nat.zero_le _, rfl, htg⟩⟩
    · rintro m fr hh J ⟨lv1, z1, L1, limit1, a, e, ls, size, ov, tl, rfl, D1, R1, S1, N1, A0, A1, K1, F1, T1⟩ hJ
      have hrl := R1.lt
      have nr : ¬ FootD d t lv1 h.size := by
        rintro (h1 | h1)
        · omega
        · rcases F1 _ h1 with h2 | h2
          · have := D.foot_lt (.inr h2); omega
          · omega
      have nb : ¬ FootD d t lv1 b := by
        rintro (h1 | h1)
        · exact hb (.inl h1)
        · rcases F1 _ h1 with h2 | h2
          · exact hb (.inr h2)
          · omega
      rcases T1 with ⟨rfl, hsz, rfl, htgt⟩ | ⟨he, rfl, rfl⟩
      · have e0 : ((((0 : Nat) : Int)) == 0) = true := rfl
        by_cases hend : l.length ≤ a
        · have c1 : ¬ (a : Int) < (l.length : Int) := by omega
          rw [List.drop_eq_nil_of_le hend, decAll_nil] at htgt
          subst htgt
          simp only [go_sem, ↓reduceIte, R1.get, c1]
          exact ⟨lv1, z1, 0, a, size, ov, rfl, D1, rfl, hrl, K1, F1, rfl, S1, N1⟩
        · have c1 : (a : Int) < (l.length : Int) := by omega
          obtain ⟨c, hc⟩ : ∃ c, l[a]? = some c := ⟨l[a], by simp [show a < l.length by omega]⟩
          have hdrop : l.drop a = c :: l.drop (a + 1) := by
            rw [List.drop_eq_getElem_cons (by omega)]
            rw [List.getElem?_eq_getElem (by omega)] at hc
            rw [Option.some.inj hc]
          have htgt2 := htgt
          rw [hdrop, decAll_cons, ← hdrop, ← len_isEmpty] at htgt2
          have e1 := ls_len (q := EC.q) (h := hh) S1
          have hD1 : tsz L1 ≤ 65536 := by have := D1.sz; have := D1.lim; have := D1.mst; omega
          simp only [go_sem, ↓reduceIte, R1.get, c1, e0, e1]
          refine MCall.by (sNext (first := ((ls.length : Int) == 0)) D1 R1 nr nb hc) ?_
          rintro u h2 ⟨⟨lv2, z2, D2, F2⟩, K2, O2⟩
          have hrest := form_rest (most := most) (s := ⟨L1, limit1⟩) (first := ((ls.length : Int) == 0)) (c := c) (b := l.drop a)
          have hlsz : ∀ x, (form most ⟨L1, limit1⟩ ((ls.length : Int) == 0) c (l.drop a)).2.2 = .line x → fsz x.f ≤ 200000 := fun x h => form_line_sz hD1 h
          have F12 : ∀ c, Foot t lv2 c → Foot t lv c ∨ h.size < c := fun x hx => by
            rcases F2 x hx with h3 | h3
            · exact F1 x h3
            · exact .inr (by omega)
          have sz2 := K2.size
          have K12 : Keep (FootD d t lv) h h2 := K1.trans K2 fun i hi => by
            rcases hi with (h3 | h3) | h3
            · exact .inl (.inl h3)
            · rcases F1 i h3 with h4 | h4
              · exact .inl (.inr h4)
              · exact .inr (by omega)
            · exact .inr (by omega)
          have S2 : LS h2 (h.size + 1) ov ls := S1.keep K2 fun x n E hx hS => by
            rcases hS with h3 | h3
            · exact N1 x n E hx h3
            · have := (S1.lt hx).1; omega
          have N2 : ∀ x n E, ov = .slice (some ⟨x, 0, none⟩) n E → ¬ FootD d t lv2 x := fun x n E hx hf => by
            have hxl := (S1.lt hx).2
            rcases hf with h3 | h3
            · exact N1 x n E hx (.inl h3)
            · rcases F2 x h3 with h4 | h4
              · exact N1 x n E hx (.inr h4)
              · omega
          have nr2 : ¬ h.size = h2.size := by omega
          have nd2 : ¬ d = h2.size := by omega
          generalize form most ⟨L1, limit1⟩ ((ls.length : Int) == 0) c (l.drop a) = fo at O2 htgt2 hrest hlsz D2
          obtain ⟨s', rst, out⟩ := fo
          -- a new place for the line changes nothing of these
          have hx9 : ∀ cs cs', Ext h2 ((h2.push cs).set h2.size cs') := fun cs cs' => (Ext.push _ _).set (Nat.le_refl _) _
          have S9 : ∀ cs cs', LS ((h2.push cs).set h2.size cs') (h.size + 1) ov ls := fun cs cs' => S2.keep (S := fun _ => False) (Keep.of_ext (hx9 cs cs')) fun _ _ _ _ h => h
          have K9 : ∀ cs cs', Keep (FootD d t lv) h ((h2.push cs).set h2.size cs') := fun cs cs' => (K12.push cs).set (.inr (by omega)) _
          cases out with
          | fail e =>
            obtain ⟨f, nv, a', rfl, R2, he⟩ := O2
            simp only [go_sem, ↓reduceIte, lineV]
            exact hJ 0 _ _ (by omega) ⟨lv2, z2, s'.L, s'.limit, a', e, ls, size, ov, _, rfl, D2.ext (hx9 _ _), R2.ext (hx9 _ _), S9 _ _, N2, A0, (fun h => absurd h he), K9 _ _, F12, .inr ⟨he, rfl, htgt2.symm⟩⟩
          | none =>
            obtain ⟨f, nv, a', rfl, R2, hdr⟩ := O2
            have hlt := hrest (fun e h => by cases h)
            simp only [List.length_drop] at hlt
            have hle2 := R2.le
            have hdl : (l.drop a').length = rst.length := by rw [hdr]
            rw [List.length_drop] at hdl
            simp only [go_sem, ↓reduceIte, lineV]
            refine hJ (l.length - a' + 1) _ _ (by omega) ⟨lv2, z2, s'.L, s'.limit, a', 0, ls, size, ov, _, rfl, D2.ext (hx9 _ _), R2.ext (hx9 _ _), S9 _ _, N2, A0, (fun _ => by have := A1 rfl; omega), K9 _ _, F12, .inl ⟨rfl, hsz, rfl, ?_⟩⟩
            rw [hdr]; exact htgt2
          | line x =>
            obtain ⟨a', rfl, R2, hdr⟩ := O2
            have hlt := hrest (fun e h => by cases h)
            have hxs := hlsz x rfl
            simp only [List.length_drop] at hlt
            have hle2 := R2.le
            have hdl : (l.drop a').length = rst.length := by rw [hdr]
            rw [List.length_drop] at hdl
            have hls : ls.length < 1000000 := by omega
            obtain ⟨ov', h4, ha, S4, sz4, g4, n4⟩ := ls_append (q := EC.q) (S9 (.cells [.string ⟨#[]⟩, .string ⟨#[]⟩, .bool false] true true) (.cells [.string x.f.1, .string x.f.2, .bool x.never] true true)) (by simp; omega) x hls
            simp only [LHeap.size_set, LHeap.size_push] at ha sz4 g4 n4
            have hw : szW x.f.1 x.f.2 = (fsz x.f : Int) := szW_fsz (by omega)
            have hw2 : IntKind.i64.wrap ((size : Int) + (fsz x.f : Int)) = ((size + fsz x.f : Nat) : Int) := by rw [IntWalk.i64_in _ (by omega)]; omega
            have hg9 : h4.get h2.size = some (.cells [.string x.f.1, .string x.f.2, .bool x.never] true true) := by
              rw [g4 h2.size (by omega) (fun ⟨n, E, hx⟩ => by have := (S2.lt hx).2; omega)]
              simp
            have K4 : Keep (fun c => ∃ n E, ov = .slice (some ⟨c, 0, none⟩) n E) h2 h4 := ⟨by omega, fun i hi hs => by
              rw [g4 i (by omega) hs]
              simp [show i ≠ h2.size by omega]⟩
            have nfd : ∀ i, FootD d t lv2 i → ¬ ∃ n E, ov = .slice (some ⟨i, 0, none⟩) n E := fun i hf ⟨n, E, hx⟩ => N2 i n E hx hf
            have D4 := D2.keepS K4 nfd
            have R4 := R2.keepS K4 (fun ⟨n, E, hx⟩ => by have := (S2.lt hx).1; omega) (fun ⟨n, E, hx⟩ => by have := (S2.lt hx).1; omega)
            have K14 : Keep (FootD d t lv) h h4 := K12.trans K4 fun i ⟨n, E, hx⟩ => .inr (by have := (S2.lt hx).1; omega)
            have n4' : ∀ y n E, ov' = .slice (some ⟨y, 0, none⟩) n E → ¬ FootD d t lv2 y := fun y n E hx hf => by
              have h5 := n4 y n E hx
              have h6 := D2.foot_lt hf
              omega
            simp only [go_sem, ↓reduceIte, lineV, ha, hg9, hw, hw2]
            by_cases hbnd : bound < size + fsz x.f
            · have c5 : (bound : Int) < ((size + fsz x.f : Nat) : Int) := by omega
              have hg4 := R4.get
              simp only [hbnd, ↓reduceIte] at htgt2
              simp only [go_sem, ↓reduceIte, D4.get, c5, hg4]
              have nr4 : ¬ FootD d t lv2 h.size := by
                rintro (h1 | h1)
                · omega
                · rcases F12 _ h1 with h3 | h3
                  · have := D.foot_lt (.inr h3); omega
                  · omega
              refine hJ 0 _ _ (by omega) ⟨lv2, z2, s'.L, s'.limit, a', 22, ls ++ [x], size + fsz x.f, ov', _, rfl, D4.one ((One.refl h.size h4).set _) nr4, R4.put 22, ?_, n4', by simp; omega, (fun h => by cases h), K14.set (.inr (Nat.le_refl _)) _, F12, .inr ⟨by omega, rfl, htgt2.symm⟩⟩
              exact S4.keep ((One.refl h.size h4).set _).keep fun y n E hx hy => by have := n4 y n E hx; omega
            · have c5 : ¬ (bound : Int) < ((size + fsz x.f : Nat) : Int) := by omega
              simp only [hbnd, ↓reduceIte] at htgt2
              simp only [go_sem, ↓reduceIte, D4.get, c5]
              refine hJ (l.length - a' + 1) _ _ (by omega) ⟨lv2, z2, s'.L, s'.limit, a', 0, ls ++ [x], size + fsz x.f, ov', _, rfl, D4, R4, S4, n4', by simp; omega, (fun _ => by have := A1 rfl; simp; omega), K14, F12, .inl ⟨rfl, by omega, rfl, ?_⟩⟩
              rw [hdr]; exact htgt2
      · have e0 : ((e : Int) == 0) = false := by simp; omega
        by_cases hend : l.length ≤ a
        · have c1 : ¬ (a : Int) < (l.length : Int) := by omega
          simp only [go_sem, ↓reduceIte, R1.get, c1]
          exact ⟨lv1, z1, e, a, size, ov, rfl, D1, rfl, hrl, K1, F1, rfl, he⟩
        · have c1 : (a : Int) < (l.length : Int) := by omega
          simp only [go_sem, ↓reduceIte, R1.get, c1, e0]
          exact ⟨lv1, z1, e, a, size, ov, rfl, D1, rfl, hrl, K1, F1, rfl, he⟩
  · rintro fr hh ⟨lv', z', e, a, size, ov, rfl, D1, hg, hlt, K1, F1, T1⟩
    have n1 : ¬ FootD d t lv' h.size := by
      rintro (h1 | h1)
      · omega
      · rcases F1 _ h1 with h2 | h2
        · have := D.foot_lt (.inr h2); omega
        · omega
    have ndr : ¬ d = h.size := by omega
    have nrd : ¬ h.size = d := by omega
    cases ht2 : tgt.2 with
    | error e' =>
      rw [ht2] at T1
      obtain ⟨rfl, he⟩ := T1
      have e1 : ((e : Int) != 0) = true := by simp; omega
      simp only [go_sem, ↓reduceIte, hg, e1, D1.get]
      refine MC.dregion ?_
      simp only [go_sem, ↓reduceIte, hg, e1, D1.get, ndr, nrd]
      rw [hdec]
      obtain ⟨s9, r9⟩ := tgt
      simp only at ht2 D1
      subst ht2
      exact ⟨K1.set (.inl (.inl rfl)) _, lv', z', D1.die, fun c hc => (F1 c hc).imp id (by omega), rfl, he⟩
    | ok l' =>
      rw [ht2] at T1
      obtain ⟨rfl, hls, hnn⟩ := T1
      have e1 : ((((0 : Nat) : Int)) != 0) = false := rfl
      simp only [go_sem, ↓reduceIte, hg, e1]
      rw [hdec]
      obtain ⟨s9, r9⟩ := tgt
      simp only at ht2 D1
      subst ht2
      exact ⟨K1, lv', z', D1, fun c hc => (F1 c hc).imp id (by omega), ov, rfl, hls.lo_le (by omega), hnn⟩
end Go.E1

/-
  Layer 7: new ones, copies, an empty block.
-/
namespace Go.E1
open Go Go.Proofs Go.M
set_option linter.unusedSimpArgs false

/-- A block without bytes at all. -/
theorem sDecodeNil {h : LHeap} {d t : Nat} {lv : Value} {z L : List Fld} {limit most bound : Nat} (D : Dcr h d t lv z L limit most bound false) :
    LCalls EC 20 [.pointer (some ⟨d, 0, none⟩), .slice none 0 0] h fun u h' => DecR h d t lv most bound (M.decode most bound ⟨⟨L, limit⟩, false⟩ []) u h' := by
  refine LCalls.enter (lf := lf20) rfl rfl (by simp [lf20]) ?_
  have hdec : M.decode most bound ⟨⟨L, limit⟩, false⟩ [] = (⟨⟨L, limit⟩, false⟩, .ok []) := rfl
  rw [hdec]
  simp only [go_sem, lf20, ↓reduceIte, D.get]
  refine MC.cutb (fun fr hh => fr = [(0, .pointer (some ⟨d, 0, none⟩)), (1, .slice none 0 0), (6, .pointer (some ⟨h.size, 0, none⟩)), (7, .slice none 0 0), (8, .int .i64 0), (31, .bool false)] ∧ hh = h.push (.cells [.slice none 0 0, .int .i64 0, .int .i64 0] true true)) ?_ ?_
  · refine MC.loop (fun m fr hh => fr = [(0, .pointer (some ⟨d, 0, none⟩)), (1, .slice none 0 0), (6, .pointer (some ⟨h.size, 0, none⟩)), (7, .slice none 0 0), (8, .int .i64 0)] ∧ hh = h.push (.cells [.slice none 0 0, .int .i64 0, .int .i64 0] true true)) 0 ⟨rfl, rfl⟩ ?_
    rintro m fr hh J ⟨rfl, rfl⟩ hJ
    simp only [go_sem, ↓reduceIte]
  · rintro fr hh ⟨rfl, rfl⟩
    simp only [go_sem, ↓reduceIte]
    exact ⟨Keep.of_ext (Ext.push _ _), lv, z, D.ext (Ext.push _ _), fun c hc => .inl hc, _, rfl, .inl ⟨rfl, rfl⟩, fun x n E h => by cases h⟩

/-- Bytes that may be read, out of a decoder's way. -/
structure Blks (h : LHeap) (v : Value) (l : Bytes) (S : Nat → Prop) : Prop where
  at' : (l = [] ∧ v = .slice none 0 0) ∨ ∃ b o, v = .slice (some ⟨b, o, none⟩) l.length 1 ∧ Blk h b o l ∧ ¬ S b

theorem sDecode {h : LHeap} {d t : Nat} {lv : Value} {z L : List Fld} {limit most bound : Nat} {dead : Bool} (D : Dcr h d t lv z L limit most bound dead) {v : Value} {l : Bytes} (B : Blks h v l (FootD d t lv)) (hl : l.length < 100000) (hbd : bound < 1000000000) :
    LCalls EC 20 [.pointer (some ⟨d, 0, none⟩), v] h fun u h' => DecR h d t lv most bound (M.decode most bound ⟨⟨L, limit⟩, dead⟩ l) u h' := by
  cases dead with
  | true => exact sDecodeDead D v l
  | false =>
    rcases B.at' with ⟨rfl, rfl⟩ | ⟨b, o, rfl, B, hb⟩
    · exact sDecodeNil D
    · exact sDecodeLive D B hb hl hbd

theorem sDynNew {h : LHeap} {most : Nat} (hm : most ≤ 65536) :
    LCalls EC 46 [.int .i64 most] h fun u h' => u = .tuple #[.pointer (some ⟨h.size, 0, none⟩), .int .i64 0] ∧ h' = h.push (.cells [.slice none 0 0, .int .i64 0, .int .i64 0, .int .i64 most] true true) := by
  refine LCalls.enter (lf := lf46) rfl rfl (by simp [lf46]) ?_
  have e1 : (!(decide ((0 : Int) ≤ (most : Int)) && decide ((most : Int) ≤ 65536))) = false := by simp; omega
  simp only [go_sem, lf46, ↓reduceIte, e1]
theorem sDynNewBad {h : LHeap} {most : Int} (hm : ¬ (0 ≤ most ∧ most ≤ 65536)) :
    LCalls EC 46 [.int .i64 most] h fun u h' => u = .tuple #[.pointer none, .int .i64 11] ∧ h' = h := by
  refine LCalls.enter (lf := lf46) rfl rfl (by simp [lf46]) ?_
  have e1 : (!(decide (0 ≤ most) && decide (most ≤ 65536))) = true := by simp; omega
  simp only [go_sem, lf46, ↓reduceIte, e1]

theorem sNewD {h : LHeap} {most bound : Nat} (hm : most ≤ 65536) (hb : bound ≤ 16384) :
    LCalls EC 19 [.int .i64 most, .int .i64 bound] h fun u h' => u = .tuple #[.pointer (some ⟨h.size + 1, 0, none⟩), .int .i64 0] ∧ Dcr h' (h.size + 1) h.size (.slice none 0 0) [] [] most most bound false ∧ Ext h h' := by
  refine LCalls.enter (lf := lf19) rfl rfl (by simp [lf19]) ?_
  have e1 : ¬ (bound : Int) < 0 := by omega
  have e2 : ¬ (16384 : Int) < (bound : Int) := by omega
  simp only [go_sem, lf19, ↓reduceIte]
  refine MCall.by (sDynNew hm) ?_
  rintro u h2 ⟨rfl, rfl⟩
  simp only [go_sem, ↓reduceIte, e1, e2]
  refine ⟨⟨by simp, by simp, ⟨by simp; omega, by simp [tsz], .inl ⟨rfl, rfl⟩⟩, by omega, (fun ⟨n, E, h⟩ => by cases h), Nat.le_refl _, by simp [tsz], Nat.le_refl _, hm⟩, (Ext.push h _).trans (Ext.push _ _)⟩

theorem sNewBad {h : LHeap} {most bound : Int} (hm : ¬ (0 ≤ most ∧ most ≤ 65536 ∧ 0 ≤ bound ∧ bound ≤ 16384)) :
    LCalls EC 19 [.int .i64 most, .int .i64 bound] h fun u h' => u = .tuple #[.pointer none, .int .i64 11] ∧ Ext h h' := by
  refine LCalls.enter (lf := lf19) rfl rfl (by simp [lf19]) ?_
  simp only [go_sem, lf19, ↓reduceIte]
  by_cases h1 : 0 ≤ most ∧ most ≤ 65536
  · obtain ⟨m, rfl⟩ : ∃ m : Nat, most = m := ⟨most.toNat, by omega⟩
    refine MCall.by (sDynNew (by omega)) ?_
    rintro u h2 ⟨rfl, rfl⟩
    by_cases h2 : bound < 0
    · simp only [go_sem, ↓reduceIte, h2]
      exact Ext.push _ _
    · have h3 : 16384 < bound := by omega
      simp only [go_sem, ↓reduceIte, h2, h3]
      exact Ext.push _ _
  · refine MCall.by (sDynNewBad h1) ?_
    rintro u h2 ⟨rfl, rfl⟩
    simp only [go_sem, ↓reduceIte]
    exact Ext.refl _

theorem Tbl.ext {h h' : LHeap} {t : Nat} {lv : Value} {z L : List Fld} {sz limit : Int} (T : Tbl h t lv z L sz limit) (X : Ext h h') : Tbl h' t lv z L sz limit := by
  refine ⟨Nat.lt_of_lt_of_le T.lt X.size, by rw [X.get t T.lt]; exact T.get, ?_⟩
  rcases T.fs with h1 | ⟨b, h1, h2, h3, h4⟩
  · exact .inl h1
  · exact .inr ⟨b, h1, Nat.lt_of_lt_of_le h2 X.size, h3, by rw [X.get b h2]; exact h4⟩

/-- A copy of a table. -/
theorem sCopyT {h : LHeap} {t : Nat} {lv : Value} {z L : List Fld} {sz limit : Int} (T : Tbl h t lv z L sz limit) (hz : z.length + L.length < 1000000) :
    LCalls EC 48 [.pointer (some ⟨t, 0, none⟩)] h fun u h' => ∃ t' lv', u = .pointer (some ⟨t', 0, none⟩) ∧ Tbl h' t' lv' [] L sz limit ∧ Ext h h' ∧ h.size ≤ t' ∧ (∀ b n E, lv' = .slice (some ⟨b, 0, none⟩) n E → h.size ≤ b) := by
  refine LCalls.enter (lf := lf48) rfl rfl (by simp [lf48]) ?_
  have hll : (z ++ L).length = z.length + L.length := List.length_append
  simp only [go_sem, lf48, ↓reduceIte]
  refine MC.dregion ?_
  rcases T.fs with ⟨h1, h2⟩ | ⟨b, rfl, h2, h3, h4⟩
  · obtain ⟨rfl, rfl⟩ := List.append_eq_nil_iff.1 h1
    subst h2
    have hg := T.get
    simp only [List.length_nil] at hg
    have hsn : lexec EC.q (.slice 2 (.slice none 0 0) (some (.int .i64 0)) none none) h = some (.slice none 0 0, h) := rfl
    simp only [go_sem, ↓reduceIte, hg, hsn]
    refine MDCall.by sCloneN ?_
    rintro u h2 ⟨rfl, rfl⟩
    simp only [go_sem, ↓reduceIte, hg, hsn]
    exact ⟨_, _, rfl, ⟨by simp, by simp, .inl ⟨rfl, rfl⟩⟩, Ext.push _ _, Nat.le_refl _, fun b n E h => by cases h⟩
  · have hsl := x_slice_lo (h := h) (q := EC.q) (e := 2) (b := b) (o := 0) (n := (z ++ L).length) (i := z.length) (k := .i64) (by omega)
    rw [show (z ++ L).length - z.length = L.length by omega] at hsl
    have hdr : ((fcells (z ++ L)).drop (z.length * 2)).take (L.length * 2) = fcells L := by
      rw [fcells_append, ← fcells_len z, List.drop_left, ← fcells_len, List.take_length]
    simp only [go_sem, ↓reduceIte, T.get, hsl]
    refine MDCall.by (sCloneF h2 h4 (by rw [fcells_len, hll]; omega) hdr (by omega)) ?_
    rintro u h5 ⟨nb, rfl, n1, n2, n3, X⟩
    have T5 : Tbl h5 t (.slice (some ⟨b, 0, none⟩) (z ++ L).length 2) z L sz limit := T.ext X
    have hsl5 := x_slice_lo (h := h5) (q := EC.q) (e := 2) (b := b) (o := 0) (n := (z ++ L).length) (i := z.length) (k := .i64) (by omega)
    rw [show (z ++ L).length - z.length = L.length by omega] at hsl5
    simp only [go_sem, ↓reduceIte, T.get, T5.get, hsl5]
    refine ⟨_, _, rfl, ⟨by simp, by simp, .inr ⟨nb, rfl, by simp; omega, by omega, by simp [show nb ≠ h5.size by omega, n3]⟩⟩, X.trans (Ext.push _ _), X.size, fun b n E h => by cases h; exact n1⟩

theorem sTable {h : LHeap} {d t : Nat} {lv : Value} {z L : List Fld} {limit most bound : Nat} {dead : Bool} (D : Dcr h d t lv z L limit most bound dead) :
    LCalls EC 22 [.pointer (some ⟨d, 0, none⟩)] h fun u h' => ∃ t' lv', u = .pointer (some ⟨t', 0, none⟩) ∧ Tbl h' t' lv' [] L (tsz L) limit ∧ Ext h h' ∧ h.size ≤ t' ∧ (∀ b n E, lv' = .slice (some ⟨b, 0, none⟩) n E → h.size ≤ b) := by
  refine LCalls.enter (lf := lf22) rfl rfl (by simp [lf22]) ?_
  simp only [go_sem, lf22, ↓reduceIte, D.get]
  refine MCall.by (sCopyT D.tbl (by have := D.len; omega)) ?_
  rintro u h2 ⟨t', lv', rfl, T, X, h1, h3⟩
  simp only [go_sem, ↓reduceIte]
  exact ⟨t', lv', rfl, T, X, h1, h3⟩

theorem sDead {h : LHeap} {d t : Nat} {lv : Value} {z L : List Fld} {limit most bound : Nat} {dead : Bool} (D : Dcr h d t lv z L limit most bound dead) :
    LCalls EC 21 [.pointer (some ⟨d, 0, none⟩)] h fun u h' => u = .bool dead ∧ h' = h := by
  refine LCalls.enter (lf := lf21) rfl rfl (by simp [lf21]) ?_
  simp only [go_sem, lf21, ↓reduceIte, D.get]

theorem sCopyD {h : LHeap} {d t : Nat} {lv : Value} {z L : List Fld} {limit most bound : Nat} {dead : Bool} (D : Dcr h d t lv z L limit most bound dead) :
    LCalls EC 27 [.pointer (some ⟨d, 0, none⟩)] h fun u h' => ∃ d' t' lv', u = .pointer (some ⟨d', 0, none⟩) ∧ Dcr h' d' t' lv' [] L limit most bound dead ∧ Ext h h' ∧ h.size ≤ d' ∧ (∀ b, Foot t' lv' b → h.size ≤ b) := by
  refine LCalls.enter (lf := lf27) rfl rfl (by simp [lf27]) ?_
  simp only [go_sem, lf27, ↓reduceIte]
  refine MC.dregion ?_
  simp only [go_sem, ↓reduceIte, D.get]
  refine MDCall.by (sCopyT D.tbl (by have := D.len; omega)) ?_
  rintro u h2 ⟨t', lv', rfl, T, X, h1, h3⟩
  have D2 := D.ext X
  simp only [go_sem, ↓reduceIte, D.get, D2.get]
  have hs := X.size
  have htl := T.lt
  have hdl := D.lt
  refine ⟨h2.size, t', lv', rfl, ⟨by simp, by simp, T.ext (Ext.push _ _), by omega, ?_, Nat.zero_le _, D.sz, D.lim, D.mst⟩, X.trans (Ext.push _ _), hs, ?_⟩
  · rintro ⟨n, E, he⟩
    rcases T.fs with ⟨_, h5⟩ | ⟨b, h5, h6, _⟩
    · rw [h5] at he; cases he
    · rw [h5] at he; cases he; omega
  · rintro b (rfl | ⟨n, E, he⟩)
    · exact h1
    · exact h3 b n E he

/-! ### Fields -/
/-- Fields that were gathered. -/
def FL (h : LHeap) (v : Value) (l : List Fld) : Prop :=
  (l = [] ∧ v = .slice none 0 0) ∨ ∃ b, v = .slice (some ⟨b, 0, none⟩) l.length 2 ∧ b < h.size ∧ h.get b = some (.cells (fcells l) true true)
theorem fl_append {q : EqF} {hh : LHeap} {v : Value} {l : List Fld} (h : FL hh v l) (x : Fld) (hn : l.length < 1000000) :
    ∃ v' hh', lexec q (.append 2 32 v (.slice (some ⟨hh.size, 0, none⟩) 1 2)) (hh.push (.cells [.string x.1, .string x.2] true true)) = some (v', hh') ∧ FL hh' v' (l ++ [x]) ∧ hh.size ≤ hh'.size ∧
      (∀ b, b < hh.size → ¬ (∃ n E, v = .slice (some ⟨b, 0, none⟩) n E) → hh'.get b = hh.get b) ∧ (∀ b n E, v' = .slice (some ⟨b, 0, none⟩) n E → hh.size ≤ b) := by
  have hf : (hh.push (.cells [.string x.1, .string x.2] true true)).firstCells 2 (.slice (some ⟨hh.size, 0, none⟩) 1 2) = some (1, [.string x.1, .string x.2]) := first_some (cs := [.string x.1, .string x.2]) (t := true) (r := true) (by simp) (by simp) (by simp)
  rcases h with ⟨rfl, rfl⟩ | ⟨b, rfl, h3, h4⟩
  · refine ⟨_, _, x_append_none hf (by simp) (by simp [oneCells, Value.oneCell']) (by simp [roomOk]), .inr ⟨hh.size + 1, by simp, by simp, by simp [fcells]⟩, by simp; omega, ?_, ?_⟩
    · intro i hi _
      simp [show i ≠ hh.size + 1 by omega, show i ≠ hh.size by omega]
    · intro b n E he
      cases he
      simp
  · have hb : b ≠ hh.size := by omega
    refine ⟨_, _, x_append_some (cs := fcells l) (r := true) hf (by simp) (by simp [hb, h4]) (by simp [fcells_len]) (by simp [oneCells, Value.oneCell']) (by simp only [roomOk]; simp; omega), .inr ⟨hh.size + 1, by simp, by simp, by simp [fcells_append, fcells]⟩, by simp; omega, ?_, ?_⟩
    · intro i hi hno
      have : i ≠ b := fun h => hno ⟨_, _, by rw [h]⟩
      simp [show i ≠ hh.size + 1 by omega, show i ≠ hh.size by omega, this]
    · intro b n E he
      cases he
      simp

theorem LS.zero {h : LHeap} {lo : Nat} {v : Value} {l : List Ln} (s : LS h lo v l) : LS0 h v l := by
  rcases s with h1 | ⟨b, h1, h2, h3, h4⟩
  · exact .inl h1
  · exact .inr ⟨b, _, _, _, h1, h3, h4, rfl⟩
theorem sFields {h : LHeap} {v : Value} {l : List Ln} (S : LS0 h v l) (hn : l.length < 100000) :
    LCalls EC 28 [v] h fun u h' => FL h' u (l.map (·.f)) ∧ Ext h h' := by
  refine LCalls.enter (lf := lf28) rfl rfl (by simp [lf28]) ?_
  have e1 := S.len (q := EC.q) (h := h)
  simp only [go_sem, lf28, ↓reduceIte, e1]
  refine MC.cutb (fun fr hh => ∃ ov tl, fr = (3, ov) :: tl ∧ FL hh ov (l.map (·.f)) ∧ Ext h hh) ?_ ?_
  · refine MC.loop (fun m fr hh => ∃ i ov, m = l.length - i ∧ i ≤ l.length ∧ fr = [(3, ov), (6, v), (7, .int .i64 (l.length : Int)), (8, .int .i64 (i : Int))] ∧ FL hh ov ((l.take i).map (·.f)) ∧ Ext h hh ∧ (∀ b n E, ov = .slice (some ⟨b, 0, none⟩) n E → h.size ≤ b)) l.length ⟨0, _, by omega, Nat.zero_le _, rfl, .inl ⟨rfl, rfl⟩, Ext.refl _, fun b n E h => by cases h⟩ ?_
    rintro m fr hh J ⟨i, ov, rfl, hi, rfl, F, X, N⟩ hJ
    by_cases hlt : i < l.length
    · obtain ⟨x, hx⟩ : ∃ x, l[i]? = some x := ⟨l[i], by simp [hlt]⟩
      have c1 : (i : Int) < (l.length : Int) := by omega
      obtain ⟨b, cs, t, r, rfl, h2, h3, rfl⟩ : ∃ b cs t r, v = .slice (some ⟨b, 0, none⟩) l.length 3 ∧ b < h.size ∧ h.get b = some (.cells cs t r) ∧ cs = lcells l := by
        rcases S with ⟨rfl, _⟩ | h1
        · simp at hlt
        · exact h1
      have hat := lcells_get hx
      have hg : hh.get b = some (.cells (lcells l) t r) := by rw [X.get b h2]; exact h3
      have hle : i * 3 + 3 ≤ (lcells l).length := by rw [lcells_len]; omega
      have sz := X.size
      have c0 : (0 : Int) ≤ (i : Int) := by omega
      have F9 : FL ((hh.push (.cells [.string ⟨#[]⟩, .string ⟨#[]⟩, .bool false] true true)).set hh.size (.cells [.string x.f.1, .string x.f.2, .bool x.never] true true)) ov ((l.take i).map (·.f)) := by
        rcases F with h5 | ⟨y, h5, h6, h7⟩
        · exact .inl h5
        · exact .inr ⟨y, h5, by simp; omega, by simp [show y ≠ hh.size by omega, h7]⟩
      obtain ⟨ov', h4, ha, F4, sz4, g4, n4⟩ := fl_append (q := EC.q) F9 x.f (by simp; omega)
      simp only [LHeap.size_set, LHeap.size_push] at ha sz4 g4 n4
      have w1 : IntKind.i64.wrap ((i : Int) + 1) = ((i + 1 : Nat) : Int) := by rw [IntWalk.i64_in _ (by omega)]; omega
      simp only [go_sem, ↓reduceIte, c1, c0, hg, hle, hat, ha, w1]
      refine hJ (l.length - (i + 1)) _ _ (by omega) ⟨i + 1, ov', rfl, by omega, rfl, ?_, ⟨by omega, fun y hy => ?_⟩, fun y n E hy => by have := n4 y n E hy; omega⟩
      · have h5 : l.take (i + 1) = l.take i ++ [x] := by rw [List.take_add_one, hx]; rfl
        rw [h5, List.map_append]
        exact F4
      · rw [g4 y (by omega) (fun ⟨n, E, h5⟩ => by have := N y n E h5; omega)]
        simp [show y ≠ hh.size by omega, X.get y hy]
    · have c1 : ¬ (i : Int) < (l.length : Int) := by omega
      have hil : i = l.length := by omega
      simp only [go_sem, ↓reduceIte, c1]
      exact ⟨ov, _, rfl, by rw [hil, List.take_length] at F; exact F, X⟩
  · rintro fr hh ⟨ov, tl, rfl, F, X⟩
    simp only [go_sem, ↓reduceIte]
    exact ⟨F, X⟩
end Go.E1
