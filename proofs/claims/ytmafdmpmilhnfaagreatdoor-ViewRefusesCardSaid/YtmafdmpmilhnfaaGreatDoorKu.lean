/-
  Texts joined: M7Q, SpE, SpF, SpG, SpH.
-/
import Derived.Test.YtmafdmpmilhnfaaGreatDoorKn
/-
 Layer 7, in plain Lean: what stands behind a form changes nothing of it.
-/
namespace Go.M
open Go.E1

def lsz (l : List Ln) : Nat := (l.map fun x => fsz x.f).sum
theorem lsz_append (a b : List Ln) : lsz (a ++ b) = lsz a + lsz b := by simp [lsz]
theorem lsz_one (x : Ln) : lsz [x] = fsz x.f := by simp [lsz]
theorem lsz_len (l : List Ln) : 32 * l.length ≤ lsz l := by
 induction l with
 | nil => simp
 | cons x l ih => simp only [lsz, List.map_cons, List.sum_cons, List.length_cons, fsz] at ih ⊢; omega
theorem decGo_bound (most bound : Nat) : ∀ (k : Nat) (s : St) (b : Bytes) (out : List Ln) (size : Nat), size = lsz out → size ≤ bound → ∀ s' ls, decGo most bound k s b out size = (s', .ok ls) → lsz ls ≤ bound
 | 0, s, b, out, size, h1, h2, s', ls, h => by simp only [decGo] at h; cases h; omega
 | k + 1, s, [], out, size, h1, h2, s', ls, h => by simp only [decGo] at h; cases h; omega
 | k + 1, s, c :: b, out, size, h1, h2, s', ls, h => by
  simp only [decGo] at h
  split at h
  ·cases h
  ·exact decGo_bound most bound k _ _ _ _ h1 h2 _ _ h
  ·split at h
   ·cases h
   ·exact decGo_bound most bound k _ _ _ _ (by rw [lsz_append, lsz_one]; omega) (by omega) _ _ h

theorem decode_bound {most bound : Nat} {d : Dec} {b : Bytes} {d' : Dec} {ls : List Ln} (h : M.decode most bound d b = (d', .ok ls)) : lsz ls ≤ bound := by
 unfold M.decode at h
 split at h
 ·cases h
 ·split at h
  ·rename_i hg
   cases h
   exact decGo_bound most bound _ _ _ _ _ rfl (Nat.zero_le _) _ _ hg
  ·cases h
end Go.M

/-
 Layer 6: the table that moves.
-/
namespace Go.E1
open Go Go.Proofs Go.M
set_option linter.unusedSimpArgs false

def fcells (l : List Fld) : List Value := l.flatMap fun p => [.string p.1, .string p.2]
theorem fcells_len (l : List Fld) : (fcells l).length = l.length * 2 := by
 induction l with
 | nil => rfl
 | cons p l ih => simp only [fcells, List.flatMap_cons, List.length_append, List.length_cons, List.length_nil] at ih ⊢; omega
theorem fcells_append (a b : List Fld) : fcells (a ++ b) = fcells a ++ fcells b := by simp [fcells, List.flatMap_append]
theorem fcells_cons (p : Fld) (l : List Fld) : fcells (p :: l) = .string p.1 :: .string p.2 :: fcells l := rfl
theorem fcells_one (l : List Fld) : oneCells (fcells l) = true := by
 induction l with
 | nil => rfl
 | cons p l ih => rw [fcells_cons]; simp only [oneCells, List.all_cons, Value.oneCell'] at ih ⊢; simpa using ih
theorem fcells_at {z L : List Fld} {e : Fld} : ((fcells (z ++ e :: L)).drop (z.length * 2)).take 2 = [.string e.1, .string e.2] := by
 rw [fcells_append, ← fcells_len, List.drop_left]
 rfl
theorem fcells_get {l : List Fld} {i : Nat} {e : Fld} (hi : l[i]? = some e) : ((fcells l).drop (i * 2)).take 2 = [.string e.1, .string e.2] := by
 have hlt : i < l.length := by
  rcases Nat.lt_or_ge i l.length with q | q
  ·exact q
  ·simp [List.getElem?_eq_none q] at hi
 have h1 : l = l.take i ++ e :: l.drop (i + 1) := by
  rw [List.getElem?_eq_getElem hlt] at hi
  rw [← Option.some.inj hi, List.getElem_cons_drop, List.take_append_drop]
 have h2 := fcells_at (z := l.take i) (L := l.drop (i + 1)) (e := e)
 rw [← h1, List.length_take, Nat.min_eq_left (by omega)] at h2
 exact h2
def noF : Fld := (⟨#[]⟩, ⟨#[]⟩)
theorem fcells_wipe {z L : List Fld} {e : Fld} : splice (fcells (z ++ e :: L)) (z.length * 2) [.string ⟨#[]⟩, .string ⟨#[]⟩] = fcells ((z ++ [noF]) ++ L) := by
 have h1 : (fcells (z ++ e :: L)).take (z.length * 2) = fcells z := by rw [fcells_append, ← fcells_len, List.take_left]
 have h2 : (fcells (z ++ e :: L)).drop (z.length * 2 + 2) = fcells L := by
  rw [fcells_append, ← List.drop_drop, ← fcells_len, List.drop_left]
  rfl
 simp only [splice, List.length_cons, List.length_nil, Nat.zero_add]
 rw [h1, h2, fcells_append, fcells_append]
 simp [fcells, noF]

/-- A slice of fields in a block of its own, that is not 't'. -/
def FS (h : LHeap) (t : Nat) (lv : Value) (l : List Fld) : Prop :=
 (l = [] ∧ lv = .slice none 0 0) ∨ ∃ b, lv = .slice (some ⟨b, 0, none⟩) l.length 2 ∧ b < h.size ∧ b ≠ t ∧ h.get b = some (.cells (fcells l) true true)

structure Tbl (h : LHeap) (t : Nat) (lv : Value) (z L : List Fld) (sz limit : Int) : Prop where
 lt : t < h.size
 get : h.get t = some (.cells [lv, .int .i64 z.length, .int .i64 sz, .int .i64 limit] true true)
 fs : FS h t lv (z ++ L)

/-- The table's blocks. -/
def Foot (t : Nat) (lv : Value) (b : Nat) : Prop := b = t ∨ ∃ n E, lv = .slice (some ⟨b, 0, none⟩) n E

/-- All else is as it was. -/
structure Keep (S : Nat → Prop) (h h' : LHeap) : Prop where
 size : h.size ≤ h'.size
 get : ∀ b, b < h.size → ¬ S b → h'.get b = h.get b
theorem Keep.refl (S : Nat → Prop) (h : LHeap) : Keep S h h := ⟨Nat.le_refl _, fun _ _ _ => rfl⟩
theorem Keep.of_ext {S : Nat → Prop} {h h' : LHeap} (x : Ext h h') : Keep S h h' := ⟨x.size, fun b hb _ => x.get b hb⟩
theorem Keep.trans {S T : Nat → Prop} {a b c : LHeap} (x : Keep S a b) (y : Keep T b c) (ht : ∀ i, T i → S i ∨ a.size ≤ i) : Keep S a c :=
 ⟨Nat.le_trans x.size y.size, fun i hi hs => (y.get i (Nat.lt_of_lt_of_le hi x.size) fun h => (ht i h).elim hs fun h => absurd hi (Nat.not_lt.2 h)).trans (x.get i hi hs)⟩

theorem fs_len {q : EqF} {h hh : LHeap} {t : Nat} {lv : Value} {l : List Fld} (ho : FS hh t lv l) : lexec q (.lenS lv) h = some (.int .i64 l.length, h) := by
 rcases ho with ⟨rfl, rfl⟩ | ⟨b, rfl, _⟩ <;> rfl

theorem sLen {h : LHeap} {t : Nat} {lv : Value} {z L : List Fld} {sz limit : Int} (ht : Tbl h t lv z L sz limit) (hs : (z ++ L).length < 1000000) :
  LCalls EC 199 [.pointer (some ⟨t, 0, none⟩)] h fun u h' => u = .int .i64 L.length ∧ h' = h := by
 refine LCalls.enter (lf := lf199) rfl rfl (by simp [lf199]) ?_
 have e1 := fs_len (q := EC.q) (h := h) ht.fs
 have hsl : (z ++ L).length = z.length + L.length := List.length_append
 have w1 : IntKind.i64.wrap (((z ++ L).length : Int) - (z.length : Int)) = (L.length : Int) := by rw [IntWalk.i64_in _ (by omega)]; omega
 simp only [go_sem, lf199, ↓reduceIte]
 refine MC.dregion ?_
 simp only [go_sem, ↓reduceIte, ht.get, e1, w1]

theorem sCloneF {h : LHeap} {b o : Nat} {l : List Fld} {cs : List Value} {t r : Bool} (hb : b < h.size) (hg : h.get b = some (.cells cs t r)) (hle : o + l.length * 2 ≤ cs.length) (hcs : (cs.drop o).take (l.length * 2) = fcells l) (hl : l.length < 1000000) :
  LCalls EC 200 [.slice (some ⟨b, o, none⟩) l.length 2] h fun u h' => ∃ nb, u = .slice (some ⟨nb, 0, none⟩) l.length 2 ∧ h.size ≤ nb ∧ nb < h'.size ∧ h'.get nb = some (.cells (fcells l) true true) ∧ Ext h h' := by
 refine LCalls.enter (lf := lf200) rfl rfl (by simp [lf200]) ?_
 by_cases h0 : l.length = 0
 ·obtain rfl : l = [] := List.length_eq_zero_iff.1 h0
  have ha : lexec EC.q (.append 2 32 (.slice (some ⟨h.size, 0, none⟩) 0 2) (.slice (some ⟨b, o, none⟩) 0 2)) (h.push (.cells [] true true)) = some (.slice (some ⟨h.size, 0, none⟩) 0 2, h.push (.cells [] true true)) := by
   simp [lexec, LHeap.firstCells, roomOk, oneCells]
  simp only [go_sem, lf200, ↓reduceIte, List.length_nil, ha]
  exact ⟨h.size, rfl, Nat.le_refl _, by simp, by simp [fcells], Ext.push h _⟩
 ·have hne : b ≠ h.size := by omega
  have hf : (h.push (.cells [] true true)).firstCells 2 (.slice (some ⟨b, o, none⟩) l.length 2) = some (l.length, fcells l) := by
   rw [first_some (cs := cs) (t := t) (r := r) (by simp [hne, hg]) hle h0, hcs]
  have ha := x_append_some (q := EC.q) (by' := 32) (b := h.size) (o := 0) (n := 0) (e := 2) (cs := []) (r := true) hf h0 (by simp) rfl (fcells_one l) (by simp [roomOk]; omega)
  simp only [go_sem, lf200, ↓reduceIte, ha]
  refine ⟨h.size + 1, by simp, by omega, by simp, by simp, by simp; omega, fun i hi => ?_⟩
  simp [show i ≠ h.size + 1 by omega, show i ≠ h.size by omega]
theorem szW_fsz {f : Fld} (h : fsz f < 4294967296) : szW f.1 f.2 = (fsz f : Int) := by
 unfold fsz at *
 unfold szW
 rw [IntWalk.i64_in ((f.1.size : Int) + f.2.size) (by omega), IntWalk.i64_in _ (by omega)]
 omega



theorem shrink_done {most : Int} {L : List Fld} (h : ¬ most < (tsz L : Int)) : shrinkL most L = L := by
 cases L with
 | nil => rfl
 | cons e l => simp only [shrinkL]; rw [if_neg h]
theorem shrink_step {most : Int} {e : Fld} {L : List Fld} (h : most < (tsz (e :: L) : Int)) : shrinkL most (e :: L) = shrinkL most L := by
 simp only [shrinkL]; rw [if_pos h]

theorem sShrinkN {h : LHeap} {t : Nat} {limit most : Int} (ht : Tbl h t (.slice none 0 0) [] [] (tsz []) limit) :
  LCalls EC 177 [.pointer (some ⟨t, 0, none⟩), .int .i64 most] h fun _ h' => h' = h := by
 have hg := ht.get
 simp only [List.length_nil] at hg
 refine LCalls.enter (lf := lf177) rfl rfl (by simp [lf177]) ?_
 simp only [go_sem, lf177, ↓reduceIte]
 refine MC.cutb (fun fr hh => fr = [(0, .pointer (some ⟨t, 0, none⟩)), (1, .int .i64 most), (5, .int .i64 0), (16, .bool false)] ∧ hh = h) ?_ ?_
 ·refine MC.loop (fun m fr hh => fr = [(0, .pointer (some ⟨t, 0, none⟩)), (1, .int .i64 most), (5, .int .i64 0)] ∧ hh = h) 0 ⟨rfl, rfl⟩ ?_
  rintro m fr hh J ⟨rfl, rfl⟩ hJ
  by_cases hc : most < ((tsz [] : Nat) : Int)
  ·simp only [go_sem, ↓reduceIte, hg, hc]
   refine MCall.by (sLen ht (by simp)) ?_
   rintro u h2 ⟨rfl, rfl⟩
   simp only [go_sem, ↓reduceIte, List.length_nil]
  ·simp only [go_sem, ↓reduceIte, hg, hc]
 ·rintro fr hh ⟨rfl, rfl⟩
  simp only [go_sem, ↓reduceIte]
  refine MC.dregion ?_
  simp only [go_sem, ↓reduceIte, hg]
  refine MDCall.by (sLen ht (by simp)) ?_
  rintro u h2 ⟨rfl, rfl⟩
  simp only [go_sem, ↓reduceIte, List.length_nil, hg]

theorem sShrink {h : LHeap} {t b : Nat} {z L : List Fld} {limit most : Int} {n0 : Nat} (hn0 : n0 = (z ++ L).length) (ht : Tbl h t (.slice (some ⟨b, 0, none⟩) n0 2) z L (tsz L) limit) (hs : tsz L < 4294967296) (hz : z.length + L.length < 400000) :
  LCalls EC 177 [.pointer (some ⟨t, 0, none⟩), .int .i64 most] h fun _ h' => ∃ lv' z', Tbl h' t lv' z' (shrinkL most L) (tsz (shrinkL most L)) limit ∧ z'.length ≤ (shrinkL most L).length ∧ Keep (Foot t (.slice (some ⟨b, 0, none⟩) n0 2)) h h' ∧ (∀ c, Foot t lv' c → Foot t (.slice (some ⟨b, 0, none⟩) n0 2) c ∨ h.size ≤ c) := by
 refine LCalls.enter (lf := lf177) rfl rfl (by simp [lf177]) ?_
 simp only [go_sem, lf177, ↓reduceIte]
 have hn1 : n0 = z.length + L.length := by rw [hn0, List.length_append]
 have hbt : b ≠ t := by
  rcases ht.fs with ⟨_, h1⟩ | ⟨b', h1, _, h2, _⟩
  ·cases h1
  ·cases h1; exact h2
 refine MC.cutb (fun fr hh => ∃ (n : Nat) (z1 L1 : List Fld), fr = [(0, .pointer (some ⟨t, 0, none⟩)), (1, .int .i64 most), (5, .int .i64 n), (16, .bool false)] ∧ Tbl hh t (.slice (some ⟨b, 0, none⟩) n0 2) z1 L1 (tsz L1) limit ∧ z1.length + L1.length = n0 ∧ L1 = shrinkL most L ∧
   Keep (Foot t (.slice (some ⟨b, 0, none⟩) n0 2)) h hh ∧ hh.size = h.size) ?_ ?_
 ·refine MC.loop (fun m fr hh => ∃ (n : Nat) (z1 L1 : List Fld), fr = [(0, .pointer (some ⟨t, 0, none⟩)), (1, .int .i64 most), (5, .int .i64 n)] ∧ Tbl hh t (.slice (some ⟨b, 0, none⟩) n0 2) z1 L1 (tsz L1) limit ∧ z1.length + L1.length = n0 ∧ n + L1.length = L.length ∧
   tsz L1 ≤ tsz L ∧ shrinkL most L1 = shrinkL most L ∧ Keep (Foot t (.slice (some ⟨b, 0, none⟩) n0 2)) h hh ∧ hh.size = h.size ∧ m = L1.length) L.length ⟨0, z, L, rfl, ht, by rw [hn0, List.length_append], by omega, Nat.le_refl _, rfl, Keep.refl _ _, rfl, rfl⟩ ?_
  rintro m fr hh J ⟨n, z1, L1, rfl, ht1, hlen, hnl, hsz, hsh, hk, hhs, rfl⟩ hJ
  have hl1 : (z1 ++ L1).length < 1000000 := by
   have : n0 = z.length + L.length := by rw [hn0, List.length_append]
   rw [List.length_append]; omega
  by_cases hc : most < (tsz L1 : Int)
  ·simp only [go_sem, ↓reduceIte, ht1.get, hc]
   refine MCall.by (sLen ht1 hl1) ?_
   rintro u h2 ⟨rfl, rfl⟩
   cases L1 with
   | nil =>
    simp only [go_sem, ↓reduceIte, List.length_nil]
    exact ⟨n, z1, [], rfl, ht1, hlen, by rw [← hsh]; rfl, hk, hhs⟩
   | cons e L2 =>
    rw [List.length_cons] at hnl hlen
    have c1 : (0 : Int) < ((L2.length + 1 : Nat) : Int) := by omega
    obtain ⟨hbs, hbg⟩ : b < h2.size ∧ h2.get b = some (.cells (fcells (z1 ++ e :: L2)) true true) := by
     rcases ht1.fs with ⟨_, h1⟩ | ⟨b', h1, h3, _, h4⟩
     ·cases h1
     ·cases h1; exact ⟨h3, h4⟩
    have c2 : (0 : Int) ≤ (z1.length : Int) := by omega
    have c3 : (z1.length : Int) < (n0 : Int) := by omega
    have hlc : z1.length * 2 + 2 ≤ (fcells (z1 ++ e :: L2)).length := by rw [fcells_len, List.length_append, List.length_cons]; omega
    have hat := fcells_at (z := z1) (L := L2) (e := e)
    have hts := tsz_cons e L2
    have w1 := szW_fsz (f := e) (by omega)
    have w2 : IntKind.i64.wrap ((tsz (e :: L2) : Int) - (fsz e : Int)) = (tsz L2 : Int) := by rw [IntWalk.i64_in _ (by omega)]; omega
    have w3 : IntKind.i64.wrap ((z1.length : Int) + 1) = ((z1 ++ [noF]).length : Int) := by rw [IntWalk.i64_in _ (by omega)]; simp
    have w4 : IntKind.i64.wrap ((n : Int) + 1) = ((n + 1 : Nat) : Int) := by rw [IntWalk.i64_in _ (by omega)]; rfl
    have hwipe : (fcells (z1 ++ e :: L2)).take (z1.length * 2) ++ [.string ⟨#[]⟩, .string ⟨#[]⟩] ++ (fcells (z1 ++ e :: L2)).drop (z1.length * 2 + 2) = fcells ((z1 ++ [noF]) ++ L2) := by have := fcells_wipe (z := z1) (L := L2) (e := e); simpa only [splice, List.length_cons, List.length_nil, Nat.zero_add] using this
    have htb : ¬ t = b := fun h => hbt h.symm
    simp only [go_sem, ↓reduceIte, List.length_cons, c1]
    refine MC.dregion ?_
    simp only [go_sem, ↓reduceIte, ht1.get, c2, c3, hbg, hlc, hat, w1, w2]
    refine MC.dregion ?_
    simp only [go_sem, ↓reduceIte, ht1.get, c2, c3, hbt, htb, hbg, hlc]
    rw [w3, w4, hwipe]
    refine hJ L2.length _ _ (by simp) ⟨n + 1, z1 ++ [noF], L2, rfl, ⟨by simpa using ht1.lt, by simp, .inr ⟨b, ?_, by simpa using hbs, hbt, by simp [hbt]⟩⟩, by simp; omega, by omega, by omega, by rw [← hsh, shrink_step hc], ?_, by simpa using hhs, rfl⟩
    ·have : ((z1 ++ [noF]) ++ L2).length = n0 := by simp; omega
     rw [this]
    ·refine ⟨by simpa using hk.size, fun c hcs hcf => ?_⟩
     have h1 : c ≠ t := fun h => hcf (.inl h)
     have h2' : c ≠ b := fun h => hcf (.inr ⟨n0, 2, by rw [h]⟩)
     simp only [LHeap.get_set, h1, h2', if_false]
     exact hk.get c hcs hcf
  ·simp only [go_sem, ↓reduceIte, ht1.get, hc]
   exact ⟨n, z1, L1, rfl, ht1, hlen, by rw [← hsh, shrink_done hc], hk, hhs⟩
 ·rintro fr hh ⟨n, z1, L1, rfl, ht1, hlen, hL1, hk, hhs⟩
  have hl1 : (z1 ++ L1).length < 1000000 := by rw [List.length_append]; omega
  obtain ⟨hbs, hbg⟩ : b < hh.size ∧ hh.get b = some (.cells (fcells (z1 ++ L1)) true true) := by
   rcases ht1.fs with ⟨_, h1⟩ | ⟨b', h1, h3, _, h4⟩
   ·cases h1
   ·cases h1; exact ⟨h3, h4⟩
  simp only [go_sem, ↓reduceIte]
  refine MC.dregion ?_
  simp only [go_sem, ↓reduceIte, ht1.get]
  refine MDCall.by (sLen ht1 hl1) ?_
  rintro u h2 ⟨rfl, rfl⟩
  by_cases hgt : L1.length < z1.length
  ·have c1 : (L1.length : Int) < (z1.length : Int) := by omega
   simp only [go_sem, ↓reduceIte, ht1.get, c1]
   refine MC.dregion ?_
   have hsl := x_slice_lo (h := h2) (q := EC.q) (e := 2) (b := b) (o := 0) (n := n0) (i := z1.length) (k := .i64) (by omega)
   rw [Nat.zero_add, show n0 - z1.length = L1.length by omega] at hsl
   simp only [go_sem, ↓reduceIte, ht1.get, hsl]
   refine MDCall.by (sCloneF (l := L1) hbs hbg (by rw [fcells_len, List.length_append]; omega) ?_ (by omega)) ?_
   ·rw [fcells_append, ← fcells_len z1, List.drop_left, ← fcells_len L1, List.take_length]
   ·rintro u h3 ⟨nb, rfl, hn1', hn2, hn3, hx⟩
    have ht3 : h3.get t = some (.cells [.slice (some ⟨b, 0, none⟩) n0 2, .int .i64 z1.length, .int .i64 (tsz L1), .int .i64 limit] true true) := by rw [hx.get t ht1.lt]; exact ht1.get
    have hnt : nb ≠ t := by have := ht1.lt; omega
    have htn : ¬ t = nb := fun h => hnt h.symm
    simp only [go_sem, ↓reduceIte, ht3]
    rw [← hL1]
    have hlt3 : t < h3.size := Nat.lt_of_lt_of_le ht1.lt hx.size
    refine ⟨_, [], ⟨by simpa using hlt3, by simp, .inr ⟨nb, rfl, by simpa using hn2, hnt, by simp [hnt, hn3]⟩⟩, by simp, ?_, ?_⟩
    ·refine ⟨by have := hx.size; have := hk.size; simp; omega, fun c hcs hcf => ?_⟩
     have h1 : c ≠ t := fun h => hcf (.inl h)
     simp only [LHeap.get_set, h1, if_false]
     rw [hx.get c (by have := hk.size; omega)]
     exact hk.get c hcs hcf
    ·rintro c (rfl | ⟨n', E', he⟩)
     ·exact .inl (.inl rfl)
     ·cases he
      exact .inr (by omega)
  ·have c1 : ¬ (L1.length : Int) < (z1.length : Int) := by omega
   simp only [go_sem, ↓reduceIte, ht1.get, c1]
   rw [← hL1]
   exact ⟨_, z1, ht1, by omega, hk, fun c hc => .inl hc⟩
/-- Shrinking, whatever the slice is. -/
theorem sShrink' {h : LHeap} {t : Nat} {lv : Value} {z L : List Fld} {limit most : Int} (ht : Tbl h t lv z L (tsz L) limit) (hs : tsz L < 4294967296) (hz : z.length + L.length < 400000) (hzl : z.length ≤ L.length) :
  LCalls EC 177 [.pointer (some ⟨t, 0, none⟩), .int .i64 most] h fun _ h' => ∃ lv' z', Tbl h' t lv' z' (shrinkL most L) (tsz (shrinkL most L)) limit ∧ z'.length ≤ (shrinkL most L).length ∧ Keep (Foot t lv) h h' ∧ (∀ c, Foot t lv' c → Foot t lv c ∨ h.size ≤ c) := by
 rcases ht.fs with ⟨h1, rfl⟩ | ⟨b, rfl, h2, h3, h4⟩
 ·obtain ⟨rfl, rfl⟩ := List.append_eq_nil_iff.1 h1
  refine (sShrinkN ht).mono ?_
  rintro u h' rfl
  exact ⟨_, [], ht, Nat.le_refl _, Keep.refl _ _, fun c hc => .inl hc⟩
 ·exact sShrink rfl ht hs hz

theorem tsz_shrink_le (most : Int) : ∀ L : List Fld, tsz (shrinkL most L) ≤ tsz L
 | [] => Nat.le_refl _
 | e :: l => by
  simp only [shrinkL]
  split
  ·have := tsz_shrink_le most l; rw [tsz_cons]; omega
  ·exact Nat.le_refl _
theorem len_tsz (L : List Fld) : L.length * 32 ≤ tsz L := by
 induction L with
 | nil => simp [tsz]
 | cons e l ih => rw [tsz_cons, List.length_cons]; unfold fsz; omega

theorem sResize {h : LHeap} {t : Nat} {lv : Value} {z L : List Fld} {limit : Int} {n : Nat} (ht : Tbl h t lv z L (tsz L) limit) (hs : tsz L < 4294967296) (hz : z.length + L.length < 400000) (hzl : z.length ≤ L.length) (hn : n ≤ 65536) :
  LCalls EC 174 [.pointer (some ⟨t, 0, none⟩), .int .i64 n] h fun u h' => (∃ k, u = .tuple #[k, .int .i64 0]) ∧ ∃ lv' z', Tbl h' t lv' z' (shrinkL n L) (tsz (shrinkL n L)) n ∧ z'.length ≤ (shrinkL n L).length ∧ Keep (Foot t lv) h h' ∧ (∀ c, Foot t lv' c → Foot t lv c ∨ h.size ≤ c) := by
 refine LCalls.enter (lf := lf174) rfl rfl (by simp [lf174]) ?_
 have c1 : (0 : Int) ≤ (n : Int) := by omega
 have c2 : (n : Int) ≤ 65536 := by omega
 simp only [go_sem, lf174, ↓reduceIte, c1, c2, ht.get]
 have ht' : Tbl (h.set t (.cells [lv, .int .i64 z.length, .int .i64 (tsz L), .int .i64 n] true true)) t lv z L (tsz L) n := by
  refine ⟨by simpa using ht.lt, by simp, ?_⟩
  rcases ht.fs with h1 | ⟨b, h1, h2, h3, h4⟩
  ·exact .inl h1
  ·exact .inr ⟨b, h1, by simpa using h2, h3, by simp [h3, h4]⟩
 refine MCall.by (sShrink' ht' hs hz hzl) ?_
 rintro u h' ⟨lv', z', k1, k2, k3, k4⟩
 simp only [go_sem, ↓reduceIte]
 refine ⟨⟨_, rfl⟩, lv', z', k1, k2, ⟨by have := k3.size; simpa using this, fun b hb hf => ?_⟩, fun c hc => ?_⟩
 ·rw [k3.get b (by simpa using hb) hf]
  have : b ≠ t := fun h => hf (.inl h)
  simp [this]
 ·rcases k4 c hc with h1 | h1
  ·exact .inl h1
  ·exact .inr (by simpa using h1)

theorem fs_append {q : EqF} {hh : LHeap} {t : Nat} {lv : Value} {l : List Fld} (h : FS hh t lv l) (ht : t < hh.size) (f : Fld) (hn : l.length < 1000000) :
  ∃ lv' hh', lexec q (.append 2 32 lv (.slice (some ⟨hh.size, 0, none⟩) 1 2)) (hh.push (.cells [.string f.1, .string f.2] true true)) = some (lv', hh') ∧ FS hh' t lv' (l ++ [f]) ∧ hh.size ≤ hh'.size ∧
   (∀ b, b < hh.size → ¬ (∃ n E, lv = .slice (some ⟨b, 0, none⟩) n E) → hh'.get b = hh.get b) ∧ (∀ b n E, lv' = .slice (some ⟨b, 0, none⟩) n E → hh.size ≤ b) ∧ hh'.get hh.size = some (.cells [.string f.1, .string f.2] true true) := by
 have hf : (hh.push (.cells [.string f.1, .string f.2] true true)).firstCells 2 (.slice (some ⟨hh.size, 0, none⟩) 1 2) = some (1, [.string f.1, .string f.2]) := first_some (cs := [.string f.1, .string f.2]) (t := true) (r := true) (by simp) (by simp) (by simp)
 rcases h with ⟨rfl, rfl⟩ | ⟨b, rfl, h2, h3, h4⟩
 ·refine ⟨_, _, x_append_none hf (by simp) (by simp [oneCells, Value.oneCell']) (by simp [roomOk]), .inr ⟨hh.size + 1, by simp, by simp, by omega, by simp [fcells]⟩, by simp; omega, ?_, ?_, by simp⟩
  ·intro i hi _
   simp [show i ≠ hh.size + 1 by omega, show i ≠ hh.size by omega]
  ·intro b n E he
   cases he
   simp
 ·have hb : b ≠ hh.size := by omega
  refine ⟨_, _, x_append_some (cs := fcells l) (r := true) hf (by simp) (by simp [hb, h4]) (by simp [fcells_len]) (by simp [oneCells, Value.oneCell']) (by simp only [roomOk]; simp; omega), .inr ⟨hh.size + 1, by simp, by simp, by omega, by simp [fcells_append, fcells]⟩, by simp; omega, ?_, ?_, by simp [Ne.symm hb]⟩
  ·intro i hi hno
   have : i ≠ b := fun h => hno ⟨_, _, by rw [h]⟩
   simp [show i ≠ hh.size + 1 by omega, show i ≠ hh.size by omega, this]
  ·intro b n E he
   cases he
   simp

theorem tsz_add {limit : Nat} {L : List Fld} {f : Fld} (h : tsz L ≤ limit) : tsz (addL limit L f) ≤ limit := by
 unfold addL
 have h1 := tsz_shrink ((limit : Int) - fsz f) L
 split
 ·rename_i hf
  rw [tsz_append]
  have : tsz [f] = fsz f := by simp [tsz]
  rcases h1 with h1 | h1
  ·omega
  ·rw [h1]; simp [tsz] at this ⊢; omega
 ·have := tsz_shrink_le ((limit : Int) - fsz f) L; omega

theorem sAdd {h : LHeap} {t : Nat} {lv : Value} {z L : List Fld} {limit : Nat} {f : Fld} (ht : Tbl h t lv z L (tsz L) limit) (hs : tsz L ≤ limit) (hlim : limit ≤ 65536) (hzl : z.length ≤ L.length) (hf : fsz f < 1000000000) :
  LCalls EC 148 [.pointer (some ⟨t, 0, none⟩), .agg #[.string f.1, .string f.2]] h fun _ h' => ∃ lv' z', Tbl h' t lv' z' (addL limit L f) (tsz (addL limit L f)) limit ∧ z'.length ≤ (addL limit L f).length ∧ Keep (Foot t lv) h h' ∧ (∀ c, Foot t lv' c → Foot t lv c ∨ h.size ≤ c) := by
 refine LCalls.enter (lf := lf148) rfl rfl (by simp [lf148]) ?_
 have hll := len_tsz L
 have e1 := szW_fsz (f := f) (by omega)
 have w1 : IntKind.i64.wrap ((limit : Int) - (fsz f : Int)) = (limit : Int) - fsz f := IntWalk.i64_in _ (by omega)
 have htn : ¬ t = h.size := by have := ht.lt; omega
 have ht1 : Tbl (h.push (.cells [.string f.1, .string f.2] true true)) t lv z L (tsz L) limit := by
  refine ⟨by have := ht.lt; simp; omega, by simp [htn, ht.get], ?_⟩
  rcases ht.fs with h1 | ⟨b, h1, h2, h3, h4⟩
  ·exact .inl h1
  ·exact .inr ⟨b, h1, by simp; omega, h3, by simp [show b ≠ h.size by omega, h4]⟩
 simp only [go_sem, lf148, ↓reduceIte]
 refine MC.dregion ?_
 simp only [go_sem, ↓reduceIte, htn, ht.get, e1, w1]
 refine MDCall.by (sShrink' (most := (limit : Int) - fsz f) ht1 (by omega) (by omega) hzl) ?_
 rintro u h2 ⟨lv', z', k1, k2, k3, k4⟩
 have hbx : h2.get h.size = some (.cells [.string f.1, .string f.2] true true) := by
  rw [k3.get h.size (by simp)]
  ·simp
  ·rintro (h1 | ⟨n, E, h1⟩)
   ·exact htn h1.symm
   ·rcases ht.fs with ⟨_, h2⟩ | ⟨b, h2, h3, _⟩
    ·rw [h2] at h1; cases h1
    ·rw [h2] at h1; cases h1; omega
 have hb2 : h.size < h2.size := by have := k3.size; simp at this; omega
 have hk0 : Keep (Foot t lv) h h2 := ⟨by omega, fun b hb hfb => by rw [k3.get b (by simp; omega) hfb]; simp [Nat.ne_of_lt hb]⟩
 have hll' := len_tsz (shrinkL ((limit : Int) - fsz f) L)
 have htl' := tsz_shrink_le ((limit : Int) - fsz f) L
 by_cases hfl : fsz f ≤ limit
 ·have c1 : (fsz f : Int) ≤ (limit : Int) := by omega
  have hadd : addL limit L f = shrinkL ((limit : Int) - fsz f) L ++ [f] := by unfold addL; rw [if_pos hfl]
  have hts : tsz (addL limit L f) = tsz (shrinkL ((limit : Int) - fsz f) L) + fsz f := by rw [hadd, tsz_append]; simp [tsz]
  simp only [go_sem, ↓reduceIte]
  refine MC.dregion ?_
  simp only [go_sem, ↓reduceIte, k1.get, hbx, e1, c1]
  obtain ⟨lv3, h3, ha, hfs, hsz, hget, hnew, hold⟩ := fs_append (q := EC.q) k1.fs k1.lt f (by rw [List.length_append]; omega)
  obtain ⟨b3, rfl, hfb1, hfb2, hfb3⟩ : ∃ b, lv3 = .slice (some ⟨b, 0, none⟩) ((z' ++ shrinkL ((limit : Int) - fsz f) L) ++ [f]).length 2 ∧ b < h3.size ∧ b ≠ t ∧ h3.get b = some (.cells (fcells ((z' ++ shrinkL ((limit : Int) - fsz f) L) ++ [f])) true true) := by
   rcases hfs with ⟨h1, _⟩ | h1
   ·simp at h1
   ·exact h1
  have htn2 : ¬ t = h2.size := by have := k1.lt; omega
  have hlvt : ¬ ∃ n E, lv' = .slice (some ⟨t, 0, none⟩) n E := by
   rintro ⟨n, E, h1⟩
   rcases k1.fs with ⟨_, h2⟩ | ⟨b, h2, _, h3, _⟩
   ·rw [h2] at h1; cases h1
   ·rw [h2] at h1; cases h1; exact h3 rfl
  have ht3 := (hget t k1.lt hlvt).trans k1.get
  have hveq : veq lv' lv' = true := by
   rcases k1.fs with ⟨_, h1⟩ | ⟨b, h1, _⟩ <;> (rw [h1]; simp [veq])
  have hbx3 : h3.get h.size = some (.cells [.string f.1, .string f.2] true true) := by
   rw [hget h.size hb2]
   ·exact hbx
   ·rintro ⟨n, E, h1⟩
    rcases k4 h.size (.inr ⟨n, E, h1⟩) with (h2 | ⟨n', E', h2⟩) | h2
    ·exact htn h2.symm
    ·rcases ht.fs with ⟨_, h3⟩ | ⟨b, h3, h4, _⟩
     ·rw [h3] at h2; cases h2
     ·rw [h3] at h2; cases h2; omega
    ·exact absurd h2 (by simp)
  have hbt : ¬ h.size = t := fun h => htn h.symm
  have w2 : IntKind.i64.wrap ((tsz (shrinkL ((limit : Int) - fsz f) L) : Int) + (fsz f : Int)) = ((tsz (addL limit L f) : Nat) : Int) := by rw [hts, IntWalk.i64_in _ (by omega)]; omega
  refine MC.dregion ?_
  simp only [go_sem, ↓reduceIte, k1.get, hbx, htn2, hveq, ha, ht3]
  refine MC.dregion ?_
  simp only [go_sem, ↓reduceIte, hbt, hbx3, e1, w2]
  refine ⟨.slice (some ⟨b3, 0, none⟩) ((z' ++ shrinkL ((limit : Int) - fsz f) L) ++ [f]).length 2, z', ⟨by have := k1.lt; simp; omega, by simp, ?_⟩, ?_, ⟨by simp; omega, ?_⟩, ?_⟩
  ·rw [hadd, ← List.append_assoc]
   exact .inr ⟨b3, rfl, by simpa using hfb1, hfb2, by simp [hfb2, hfb3]⟩
  ·rw [hadd, List.length_append]; omega
  ·intro b hb hfb
   have h1 : b ≠ t := fun h => hfb (.inl h)
   simp only [LHeap.get_set, h1, if_false]
   rw [hget b (by omega)]
   ·exact hk0.get b hb hfb
   ·rintro ⟨n, E, h2⟩
    rcases k4 b (.inr ⟨n, E, h2⟩) with h3 | h3
    ·exact hfb h3
    ·exact absurd h3 (by simp; omega)
  ·rintro c (rfl | ⟨n, E, h1⟩)
   ·exact .inl (.inl rfl)
   ·have := hnew c n E h1
    exact .inr (by omega)
 ·have c1 : ¬ (fsz f : Int) ≤ (limit : Int) := by omega
  have hadd : addL limit L f = shrinkL ((limit : Int) - fsz f) L := by unfold addL; rw [if_neg hfl]
  simp only [go_sem, ↓reduceIte]
  refine MC.dregion ?_
  simp only [go_sem, ↓reduceIte, k1.get, hbx, e1, c1]
  rw [hadd]
  refine ⟨lv', z', k1, k2, hk0, fun c hc => ?_⟩
  rcases k4 c hc with h1 | h1
  ·exact .inl h1
  ·exact .inr (by simp at h1; omega)
end Go.E1

/-
 Layers 6 and 7: an entry, a number, a text.
-/
namespace Go.E1
open Go Go.Proofs Go.M
set_option linter.unusedSimpArgs false

def oF (o : Option Fld) : Fld := o.getD noF
def oE (o : Option Fld) : Int := match o with | some _ => 0 | none => 23

theorem sGetT {h : LHeap} {t : Nat} {lv : Value} {z L : List Fld} {sz limit : Int} (ht : Tbl h t lv z L sz limit) (hs : z.length + L.length < 1000000) {i : Nat} (hi : 1 ≤ i) (hi2 : i < 4294967296) :
  LCalls EC 197 [.pointer (some ⟨t, 0, none⟩), .int .i64 i] h fun u h' => u = .tuple #[pairV (oF L.reverse[i - 1]?), .int .i64 (oE L.reverse[i - 1]?)] ∧ Ext h h' := by
 refine LCalls.enter (lf := lf197) rfl rfl (by simp [lf197]) ?_
 have c1 : ¬ (i : Int) < 1 := by omega
 have htn : t ≠ h.size := by have := ht.lt; omega
 have ht1 : Tbl (h.push (.cells [.string ⟨#[]⟩, .string ⟨#[]⟩] true true)) t lv z L sz limit := by
  refine ⟨by have := ht.lt; simp; omega, by simp [htn, ht.get], ?_⟩
  rcases ht.fs with h1 | ⟨b, h1, h2, h3, h4⟩
  ·exact .inl h1
  ·exact .inr ⟨b, h1, by simp; omega, h3, by simp [show b ≠ h.size by omega, h4]⟩
 simp only [go_sem, lf197, ↓reduceIte, c1]
 refine MCall.by (sLen ht1 (by rw [List.length_append]; omega)) ?_
 rintro u h2 ⟨rfl, rfl⟩
 by_cases hgt : L.length < i
 ·have c2 : (L.length : Int) < (i : Int) := by omega
  have hn : L.reverse[i - 1]? = none := List.getElem?_eq_none (by simp; omega)
  simp only [go_sem, ↓reduceIte, c2]
  rw [hn]
  exact ⟨rfl, (Ext.push h _).set (Nat.le_refl _) _⟩
 ·have c2 : ¬ (L.length : Int) < (i : Int) := by omega
  obtain ⟨b, rfl, hb1, hb2, hb3⟩ : ∃ b, lv = .slice (some ⟨b, 0, none⟩) (z ++ L).length 2 ∧ b < h.size ∧ b ≠ t ∧ h.get b = some (.cells (fcells (z ++ L)) true true) := by
   rcases ht.fs with ⟨h1, _⟩ | h1
   ·obtain ⟨rfl, rfl⟩ := List.append_eq_nil_iff.1 h1
    simp at hgt; omega
   ·exact h1
  have hll : (z ++ L).length = z.length + L.length := List.length_append
  obtain ⟨f, hf⟩ : ∃ f, L[L.length - i]? = some f := ⟨L[L.length - i], by simp [show L.length - i < L.length by omega]⟩
  have hrev : L.reverse[i - 1]? = some f := by
   rw [List.getElem?_reverse (by omega), show L.length - 1 - (i - 1) = L.length - i by omega]; exact hf
  have hf2 : (z ++ L)[z.length + L.length - i]? = some f := by
   rw [List.getElem?_append_right (by omega), show z.length + L.length - i - z.length = L.length - i by omega]; exact hf
  have hat := fcells_get hf2
  have hbn : b ≠ h.size := by omega
  have w1 : IntKind.i64.wrap (((z ++ L).length : Int) - (i : Int)) = ((z.length + L.length - i : Nat) : Int) := by rw [IntWalk.i64_in _ (by omega)]; omega
  have c3 : (0 : Int) ≤ ((z.length + L.length - i : Nat) : Int) := by omega
  have c4 : ((z.length + L.length - i : Nat) : Int) < ((z ++ L).length : Int) := by omega
  have hlc : (z.length + L.length - i) * 2 + 2 ≤ (fcells (z ++ L)).length := by rw [fcells_len, hll]; omega
  simp only [go_sem, ↓reduceIte, c2]
  refine MC.dregion ?_
  simp only [go_sem, ↓reduceIte, htn, ht.get, w1, c3, c4, hbn, hb3, hlc, hat]
  rw [hrev]
  exact ⟨rfl, (Ext.push h _).set (Nat.le_refl _) _⟩

/-- A decoder: its table, its numbers. -/
structure Dcr (h : LHeap) (d t : Nat) (lv : Value) (z L : List Fld) (limit most bound : Nat) (dead : Bool) : Prop where
 lt : d < h.size
 get : h.get d = some (.cells [.pointer (some ⟨t, 0, none⟩), .int .i64 most, .int .i64 bound, .bool dead] true true)
 tbl : Tbl h t lv z L (tsz L) limit
 ne : d ≠ t
 nel : ¬ ∃ n E, lv = .slice (some ⟨d, 0, none⟩) n E
 zl : z.length ≤ L.length
 sz : tsz L ≤ limit
 lim : limit ≤ most
 mst : most ≤ 65536

theorem Dcr.len {h : LHeap} {d t : Nat} {lv : Value} {z L : List Fld} {limit most bound : Nat} {dead : Bool} (D : Dcr h d t lv z L limit most bound dead) : z.length + L.length < 10000 := by
 have := len_tsz L; have := D.zl; have := D.sz; have := D.lim; have := D.mst; omega

theorem sEntry {h : LHeap} {d t : Nat} {lv : Value} {z L : List Fld} {limit most bound : Nat} {dead : Bool} (D : Dcr h d t lv z L limit most bound dead) {i : Nat} (hi : i ≤ 2147483647) :
  LCalls EC 175 [.pointer (some ⟨d, 0, none⟩), .int .i64 i] h fun u h' => u = .tuple #[pairV (oF (entryOf ⟨L, limit⟩ i)), .int .i64 (oE (entryOf ⟨L, limit⟩ i))] ∧ Ext h h' := by
 refine LCalls.enter (lf := lf175) rfl rfl (by simp [lf175]) ?_
 by_cases h61 : i ≤ 61
 ·have c1 : (i : Int) ≤ 61 := by omega
  by_cases h0 : i = 0
  ·subst h0
   have he : entryOf ⟨L, limit⟩ 0 = none := rfl
   simp only [go_sem, lf175, ↓reduceIte, c1, pairV]
   rw [he]
   exact ⟨rfl, (Ext.push h _).set (Nat.le_refl _) _⟩
  ·have c2 : (1 : Int) ≤ (i : Int) := by omega
   have he : entryOf ⟨L, limit⟩ i = some (ent (i - 1)) := by unfold entryOf; rw [if_neg h0, if_pos h61]
   have e1 : ((i : Int) - 1).toNat = i - 1 := by omega
   simp only [go_sem, lf175, ↓reduceIte, c1, c2, e1, pairV]
   rw [he]
   exact ⟨rfl, (Ext.push h _).set (Nat.le_refl _) _⟩
 ·have c1 : ¬ (i : Int) ≤ 61 := by omega
  have he : entryOf ⟨L, limit⟩ i = L.reverse[i - 62]? := by unfold entryOf; rw [if_neg (by omega), if_neg h61]
  have hdn : d ≠ h.size := by have := D.lt; omega
  have w1 : IntKind.i64.wrap ((i : Int) - 61) = ((i - 61 : Nat) : Int) := by rw [IntWalk.i64_in _ (by omega)]; omega
  have htn : t ≠ h.size := by have := D.tbl.lt; omega
  have ht1 : Tbl (h.push (.cells [.string ⟨#[]⟩, .string ⟨#[]⟩] true true)) t lv z L (tsz L) limit := by
   refine ⟨by have := D.tbl.lt; simp; omega, by simp [htn, D.tbl.get], ?_⟩
   rcases D.tbl.fs with h1 | ⟨b, h1, h2, h3, h4⟩
   ·exact .inl h1
   ·exact .inr ⟨b, h1, by simp; omega, h3, by simp [show b ≠ h.size by omega, h4]⟩
  simp only [go_sem, lf175, ↓reduceIte, c1, hdn, D.get, w1]
  refine MCall.by (sGetT ht1 (by have := D.len; omega) (i := i - 61) (by omega) (by omega)) ?_
  rintro u h2 ⟨rfl, hx⟩
  have hh : h2.get h.size = some (.cells [.string ⟨#[]⟩, .string ⟨#[]⟩] true true) := by rw [hx.get h.size (by simp)]; simp
  simp only [go_sem, ↓reduceIte, pairV, hh]
  rw [he, show i - 61 - 1 = i - 62 by omega]
  exact ⟨rfl, ((Ext.push h _).trans hx).set (Nat.le_refl _) _⟩
end Go.E1

/-
 Layer 7: reading a block: a number, a text.
-/
namespace Go.E1
open Go Go.Proofs Go.M
set_option linter.unusedSimpArgs false

/-- A block's bytes, not empty, in a place of their own. -/
structure Blk (h : LHeap) (b o : Nat) (l : Bytes) : Prop where
 lt : b < h.size
 cells : ∃ cs t r, h.get b = some (.cells cs t r) ∧ o + l.length ≤ cs.length ∧ (cs.drop o).take l.length = bv l

theorem Blk.bytes {h : LHeap} {b o : Nat} {l : Bytes} (B : Blk h b o l) : BytesAt h (.slice (some ⟨b, o, none⟩) l.length 1) l := by
 obtain ⟨cs, t, r, h1, h2, h3⟩ := B.cells
 exact .inr ⟨b, o, cs, t, r, rfl, B.lt, h1, h2, h3⟩
theorem Blk.drop {h : LHeap} {b o : Nat} {l : Bytes} (B : Blk h b o l) {a : Nat} (ha : a ≤ l.length) : BytesAt h (.slice (some ⟨b, o + a, none⟩) (l.length - a) 1) (l.drop a) := by
 obtain ⟨cs, t, r, h1, h2, h3⟩ := B.cells
 refine .inr ⟨b, o + a, cs, t, r, by rw [List.length_drop], B.lt, h1, by rw [List.length_drop]; omega, ?_⟩
 have := bytes_sub h3 a (l.length - a) (by omega)
 rw [List.length_drop, this, List.take_of_length_le (by rw [List.length_drop]; omega)]
theorem Blk.same {h h' : LHeap} {b o : Nat} {l : Bytes} (B : Blk h b o l) (hs : h.size ≤ h'.size) (hg : h'.get b = h.get b) : Blk h' b o l := by
 obtain ⟨cs, t, r, h1, h2, h3⟩ := B.cells
 exact ⟨Nat.lt_of_lt_of_le B.lt hs, cs, t, r, by rw [hg]; exact h1, h2, h3⟩

/-- Where the reading stands. -/
structure Rdg (h : LHeap) (r b o : Nat) (l : Bytes) (at' : Nat) (e : Nat) : Prop where
 lt : r < h.size
 get : h.get r = some (.cells [.slice (some ⟨b, o, none⟩) l.length 1, .int .i64 at', .int .i64 e] true true)
 blk : Blk h b o l
 ne : b ≠ r
 le : at' ≤ l.length
 small : l.length < 100000

/-- One block alone turns; there may be new ones. -/
structure One (r : Nat) (h h' : LHeap) : Prop where
 size : h.size ≤ h'.size
 get : ∀ b, b < h.size → b ≠ r → h'.get b = h.get b
theorem One.of_ext {r : Nat} {h h' : LHeap} (x : Ext h h') : One r h h' := ⟨x.size, fun b hb _ => x.get b hb⟩
theorem One.refl (r : Nat) (h : LHeap) : One r h h := ⟨Nat.le_refl _, fun _ _ _ => rfl⟩
theorem One.trans {r : Nat} {a b c : LHeap} (x : One r a b) (y : One r b c) : One r a c := ⟨Nat.le_trans x.size y.size, fun i hi hn => (y.get i (Nat.lt_of_lt_of_le hi x.size) hn).trans (x.get i hi hn)⟩
theorem One.set {r : Nat} {h h' : LHeap} (x : One r h h') (o : LObj) : One r h (h'.set r o) := ⟨by simpa using x.size, fun b hb hn => by simp [hn, x.get b hb hn]⟩
theorem One.keep {r : Nat} {h h' : LHeap} (x : One r h h') : Keep (fun b => b = r) h h' := ⟨x.size, fun b hb hn => x.get b hb hn⟩

theorem sNumber {h : LHeap} {r b o : Nat} {l : Bytes} {a e : Nat} (R : Rdg h r b o l a e) {bits : Nat} (hb1 : 1 ≤ bits) (hb2 : bits ≤ 8) :
  LCalls EC 145 [.pointer (some ⟨r, 0, none⟩), .int .i64 bits] h fun u h' => u = .int .i64 (pfx bits (l.drop a)).1 ∧ Rdg h' r b o l (a + (pfx bits (l.drop a)).2.1) (pfx bits (l.drop a)).2.2 ∧ One r h h' := by
 refine LCalls.enter (lf := lf145) rfl rfl (by simp [lf145]) ?_
 have hsl := x_slice_lo (h := h) (q := EC.q) (e := 1) (b := b) (o := o) (n := l.length) (i := a) (k := .i64) R.le
 have hle : (pfx bits (l.drop a)).2.1 ≤ l.length - a := by
  rcases pfx_err bits (l.drop a) with h1 | h1
  ·have := pfx_used bits (l.drop a) h1
   rw [List.length_drop] at this; exact this.1
  ·rw [h1.2]; omega
 have hR := R.le
 have hsm := R.small
 have w1 : IntKind.i64.wrap ((a : Int) + ((pfx bits (l.drop a)).2.1 : Int)) = ((a + (pfx bits (l.drop a)).2.1 : Nat) : Int) := by rw [IntWalk.i64_in _ (by omega)]; omega
 simp only [go_sem, lf145, ↓reduceIte]
 refine MC.dregion ?_
 simp only [go_sem, ↓reduceIte, R.get, hsl]
 refine MDCall.by (sPfx (R.blk.drop R.le) (by rw [List.length_drop]; omega) hb1 hb2) ?_
 rintro u h1 ⟨rfl, rfl⟩
 simp only [go_sem, ↓reduceIte, R.get, w1]
 refine ⟨⟨by simpa using R.lt, by simp, R.blk.same (by simp) (by simp [R.ne]), R.ne, by omega, R.small⟩, ((One.refl r _).set _).set _⟩

theorem sLit4 {h : LHeap} {v : Value} {l : Bytes} (hv : BytesAt h v l) (hl : l.length < 1000000) :
  LCalls EC 198 [v, .int .i64 4096] h fun u h' => ∃ sv, u = .tuple #[sv, .int .i64 (litDec 4096 l).2.1, .int .i64 (litDec 4096 l).2.2] ∧ OutAt h' h.size sv (litDec 4096 l).1 ∧ Ext h h' := sLit (limit := 4096) hv hl (by omega)

theorem sText {h : LHeap} {r b o : Nat} {l : Bytes} {a : Nat} (R : Rdg h r b o l a 0) :
  LCalls EC 176 [.pointer (some ⟨r, 0, none⟩)] h fun u h' => u = .string (toBA (litDec 4096 (l.drop a)).1) ∧ Rdg h' r b o l (a + (litDec 4096 (l.drop a)).2.1) (litDec 4096 (l.drop a)).2.2 ∧ One r h h' := by
 refine LCalls.enter (lf := lf176) rfl rfl (by simp [lf176]) ?_
 have hsl := x_slice_lo (h := h) (q := EC.q) (e := 1) (b := b) (o := o) (n := l.length) (i := a) (k := .i64) R.le
 have hle := litDec_used 4096 (l.drop a)
 rw [List.length_drop] at hle
 have hR := R.le
 have hsm := R.small
 have hg := R.get
 have w1 : IntKind.i64.wrap ((a : Int) + ((litDec 4096 (l.drop a)).2.1 : Int)) = ((a + (litDec 4096 (l.drop a)).2.1 : Nat) : Int) := by rw [IntWalk.i64_in _ (by omega)]; omega
 have e0 : (((0 : Nat) : Int) != 0) = false := rfl
 simp only [go_sem, lf176, ↓reduceIte, hg, e0]
 refine MC.dregion ?_
 simp only [go_sem, ↓reduceIte, hg, hsl]
 refine MDCall.by (sLit4 (R.blk.drop R.le) (by rw [List.length_drop]; omega)) ?_
 rintro u h1 ⟨sv, rfl, ho, hx⟩
 have hg1 : h1.get r = some (.cells [.slice (some ⟨b, o, none⟩) l.length 1, .int .i64 a, .int .i64 (0 : Nat)] true true) := by rw [hx.get r R.lt]; exact hg
 have hstr : ∀ c1 c2, lexec EC.q (.bytesStr sv) ((h1.set r c1).set r c2) = some (.string (toBA (litDec 4096 (l.drop a)).1), (h1.set r c1).set r c2) := by
  intro c1 c2
  refine out_str (lo := h.size) ?_
  rcases ho with h1 | ⟨bb, h1, h2, h3, h4⟩
  ·exact .inl h1
  ·exact .inr ⟨bb, h1, h2, by simpa using h3, by have := R.lt; simp [show bb ≠ r by omega, h4]⟩
 simp only [go_sem, ↓reduceIte, hg1, w1, hstr]
 have hlt1 : r < h1.size := Nat.lt_of_lt_of_le R.lt hx.size
 exact ⟨⟨by simpa using hlt1, by simp, R.blk.same (by simpa using hx.size) (by simp [R.ne, hx.get b R.blk.lt]), R.ne, by omega, R.small⟩, ((One.of_ext hx).set _).set _⟩

theorem sTextE {h : LHeap} {r b o : Nat} {l : Bytes} {a e : Nat} (R : Rdg h r b o l a e) (he : e ≠ 0) :
  LCalls EC 176 [.pointer (some ⟨r, 0, none⟩)] h fun u h' => u = .string ⟨#[]⟩ ∧ h' = h := by
 refine LCalls.enter (lf := lf176) rfl rfl (by simp [lf176]) ?_
 have e0 : ((e : Int) != 0) = true := by simp; omega
 simp only [go_sem, lf176, ↓reduceIte, R.get, e0]
end Go.E1

/-
 Layer 7: a field, a form.
-/
namespace Go.E1
open Go Go.Proofs Go.M
set_option linter.unusedSimpArgs false

/-- A decoder's blocks. -/
def FootD (d t : Nat) (lv : Value) (b : Nat) : Prop := b = d ∨ Foot t lv b

theorem Dcr.same {h h' : LHeap} {d t : Nat} {lv : Value} {z L : List Fld} {limit most bound : Nat} {dead : Bool} (D : Dcr h d t lv z L limit most bound dead) (hs : h.size ≤ h'.size) (hg : ∀ b, b < h.size → FootD d t lv b → h'.get b = h.get b) : Dcr h' d t lv z L limit most bound dead := by
 refine ⟨Nat.lt_of_lt_of_le D.lt hs, by rw [hg d D.lt (.inl rfl)]; exact D.get, ⟨Nat.lt_of_lt_of_le D.tbl.lt hs, by rw [hg t D.tbl.lt (.inr (.inl rfl))]; exact D.tbl.get, ?_⟩, D.ne, D.nel, D.zl, D.sz, D.lim, D.mst⟩
 rcases D.tbl.fs with h1 | ⟨b, h1, h2, h3, h4⟩
 ·exact .inl h1
 ·exact .inr ⟨b, h1, Nat.lt_of_lt_of_le h2 hs, h3, by rw [hg b h2 (.inr (.inr ⟨_, _, h1⟩))]; exact h4⟩
theorem Dcr.ext {h h' : LHeap} {d t : Nat} {lv : Value} {z L : List Fld} {limit most bound : Nat} {dead : Bool} (D : Dcr h d t lv z L limit most bound dead) (hx : Ext h h') : Dcr h' d t lv z L limit most bound dead := D.same hx.size fun b hb _ => hx.get b hb
theorem Dcr.one {h h' : LHeap} {d t r : Nat} {lv : Value} {z L : List Fld} {limit most bound : Nat} {dead : Bool} (D : Dcr h d t lv z L limit most bound dead) (hx : One r h h') (hr : ¬ FootD d t lv r) : Dcr h' d t lv z L limit most bound dead := D.same hx.size fun b hb hf => hx.get b hb fun h => hr (h ▸ hf)
theorem Rdg.ext {h h' : LHeap} {r b o : Nat} {l : Bytes} {a e : Nat} (R : Rdg h r b o l a e) (hx : Ext h h') : Rdg h' r b o l a e :=
 ⟨Nat.lt_of_lt_of_le R.lt hx.size, by rw [hx.get r R.lt]; exact R.get, R.blk.same hx.size (hx.get b R.blk.lt), R.ne, R.le, R.small⟩

def kV (bits : Int) (i a z n : Bool) : Value := .agg #[.int .i64 bits, .bool i, .bool a, .bool z, .bool n]

theorem Rdg.setO {h : LHeap} {r b o : Nat} {l : Bytes} {a e : Nat} (R : Rdg h r b o l a e) {x : Nat} (hx : x ≠ r) (hb : x ≠ b) (c : LObj) : Rdg (h.set x c) r b o l a e :=
 ⟨by simpa using R.lt, by simp [Ne.symm hx, R.get], R.blk.same (by simp) (by simp [Ne.symm hb]), R.ne, R.le, R.small⟩

/-- What holds behind a field's name. -/
def FieldJ (h : LHeap) (r b o : Nat) (l : Bytes) (a : Nat) (L : List Fld) (limit : Nat) (bits : Int) (ix ad rz nv : Bool) (n : Nat) (fr : Fr) (hh : LHeap) : Prop :=
 ∃ nm vl a1 e1, fr = [(1, .pointer (some ⟨r, 0, none⟩)), (6, .pointer (some ⟨h.size, 0, none⟩)), (8, .pointer (some ⟨h.size + 1, 0, none⟩)), (9, .pointer (some ⟨h.size + 2, 0, none⟩))] ∧
  hh.get h.size = some (.cells [.int .i64 bits, .bool ix, .bool ad, .bool rz, .bool nv] true true) ∧ hh.get (h.size + 1) = some (.cells [.string ⟨#[]⟩, .string ⟨#[]⟩, .bool false] true true) ∧
  hh.get (h.size + 2) = some (.cells [.string nm, .string vl, .bool false] true true) ∧ h.size + 3 ≤ hh.size ∧ Rdg hh r b o l a1 e1 ∧ One r h hh ∧
  ((e1 ≠ 0 ∧ (fieldOf ⟨L, limit⟩ ix n (l.drop a)).2.2 = e1) ∨ (e1 = 0 ∧ ix = true ∧ fieldOf ⟨L, limit⟩ ix n (l.drop a) = ((nm, vl), l.drop a1, 0)) ∨ (e1 = 0 ∧ ix = false ∧ fieldOf ⟨L, limit⟩ ix n (l.drop a) = valOf nm (l.drop a1)))

theorem sField {h : LHeap} {d t r b o : Nat} {lv : Value} {z L : List Fld} {limit most bound : Nat} {dead : Bool} {l : Bytes} {a : Nat} (D : Dcr h d t lv z L limit most bound dead) (R : Rdg h r b o l a 0) (_hr : ¬ FootD d t lv r) {bits : Int} {ix ad rz nv : Bool} {n : Nat} (hn : n ≤ 2147483647) :
  LCalls EC 147 [.pointer (some ⟨d, 0, none⟩), .pointer (some ⟨r, 0, none⟩), kV bits ix ad rz nv, .int .i64 n] h fun u h' => ∃ f a', u = lineV f nv ∧ Rdg h' r b o l a' (fieldOf ⟨L, limit⟩ ix n (l.drop a)).2.2 ∧ One r h h' ∧
   ((fieldOf ⟨L, limit⟩ ix n (l.drop a)).2.2 = 0 → f = (fieldOf ⟨L, limit⟩ ix n (l.drop a)).1 ∧ l.drop a' = (fieldOf ⟨L, limit⟩ ix n (l.drop a)).2.1) := by
 refine LCalls.enter (lf := lf147) rfl rfl (by simp [lf147]) ?_
 have hrs : r < h.size := R.lt
 have hbs : b < h.size := R.blk.lt
 generalize hH : (((h.push (.cells [.int .i64 bits, .bool ix, .bool ad, .bool rz, .bool nv] true true)).push (.cells [.string ⟨#[]⟩, .string ⟨#[]⟩, .bool false] true true)).push (.cells [.string ⟨#[]⟩, .string ⟨#[]⟩, .bool false] true true)) = H
 have hx3 : Ext h H := by rw [← hH]; exact ((Ext.push _ _).trans (Ext.push _ _)).trans (Ext.push _ _)
 have hs3 : H.size = h.size + 3 := by rw [← hH]; simp
 have g0 : H.get h.size = some (.cells [.int .i64 bits, .bool ix, .bool ad, .bool rz, .bool nv] true true) := by rw [← hH]; simp [show ¬ h.size = h.size + 1 + 1 by omega]
 have g1 : H.get (h.size + 1) = some (.cells [.string ⟨#[]⟩, .string ⟨#[]⟩, .bool false] true true) := by rw [← hH]; simp
 have g2 : H.get (h.size + 2) = some (.cells [.string ⟨#[]⟩, .string ⟨#[]⟩, .bool false] true true) := by rw [← hH]; simp
 simp only [go_sem, lf147, ↓reduceIte, kV]
 rw [hH]
 refine MG.cut (FieldJ h r b o l a L limit bits ix ad rz nv n) ?_ ?_
 ·-- by the entry
  have viaEntry : ∀ (hh : LHeap) (f : Option Fld), entryOf ⟨L, limit⟩ n = f → (0 < n ∨ ix = true) → Ext H hh → ∃ e1 : Nat, oE f = (e1 : Int) ∧
    (∃ nm vl a1 e1', hh.get h.size = some (.cells [.int .i64 bits, .bool ix, .bool ad, .bool rz, .bool nv] true true) ∧ hh.get (h.size + 1) = some (.cells [.string ⟨#[]⟩, .string ⟨#[]⟩, .bool false] true true) ∧
     nm = (oF f).1 ∧ vl = (oF f).2 ∧ a1 = a ∧ e1' = e1 ∧ h.size + 3 ≤ hh.size ∧ Rdg hh r b o l a 0 ∧ One r h hh ∧
     ((e1 ≠ 0 ∧ (fieldOf ⟨L, limit⟩ ix n (l.drop a)).2.2 = e1) ∨ (e1 = 0 ∧ ix = true ∧ fieldOf ⟨L, limit⟩ ix n (l.drop a) = ((nm, vl), l.drop a1, 0)) ∨ (e1 = 0 ∧ ix = false ∧ fieldOf ⟨L, limit⟩ ix n (l.drop a) = valOf nm (l.drop a1)))) := by
   intro hh f hf hor hx
   have hst : h.size + 3 ≤ hh.size := by have := hx.size; omega
   have hg0 : hh.get h.size = some (.cells [.int .i64 bits, .bool ix, .bool ad, .bool rz, .bool nv] true true) := by rw [hx.get h.size (by omega)]; exact g0
   have hg1 : hh.get (h.size + 1) = some (.cells [.string ⟨#[]⟩, .string ⟨#[]⟩, .bool false] true true) := by rw [hx.get _ (by omega)]; exact g1
   have hR := (R.ext hx3).ext hx
   have hO : One r h hh := One.of_ext (hx3.trans hx)
   cases f with
   | none =>
    refine ⟨23, rfl, _, _, _, _, hg0, hg1, rfl, rfl, rfl, rfl, hst, hR, hO, .inl ⟨by decide, ?_⟩⟩
    cases ix with
    | true => rw [field_ix, hf]
    | false => rw [field_name _ (hor.resolve_right (by simp)), hf]
   | some f =>
    refine ⟨0, rfl, _, _, _, _, hg0, hg1, rfl, rfl, rfl, rfl, hst, hR, hO, .inr ?_⟩
    cases ix with
    | true => exact .inl ⟨rfl, rfl, by rw [field_ix, hf]; rfl⟩
    | false => exact .inr ⟨rfl, rfl, by rw [field_name _ (hor.resolve_right (by simp)), hf]; rfl⟩
  have n0 : ¬ h.size + 2 = r := by omega
  have n1 : ¬ r = h.size + 2 := by omega
  have n2 : ¬ h.size = r := by omega
  have n3 : ¬ h.size + 1 = r := by omega
  have byE : (0 < n ∨ ix = true) → ∀ (hh : LHeap), Ext H hh → FieldJ h r b o l a L limit bits ix ad rz nv n [(1, .pointer (some ⟨r, 0, none⟩)), (6, .pointer (some ⟨h.size, 0, none⟩)), (8, .pointer (some ⟨h.size + 1, 0, none⟩)), (9, .pointer (some ⟨h.size + 2, 0, none⟩))]
    ((hh.set (h.size + 2) (.cells [.string (oF (entryOf ⟨L, limit⟩ n)).1, .string (oF (entryOf ⟨L, limit⟩ n)).2, .bool false] true true)).set r (.cells [.slice (some ⟨b, o, none⟩) l.length 1, .int .i64 a, .int .i64 (oE (entryOf ⟨L, limit⟩ n))] true true)) := by
   intro hor hh hx
   obtain ⟨e1, he, nm, vl, a1, e1', q0, q1, rfl, rfl, rfl, rfl, q2, q3, q4, q5⟩ := viaEntry hh _ rfl hor hx
   refine ⟨_, _, _, _, rfl, by simp [n2, q0], by simp [n3, q1], by simp [n0], by simpa using q2, ?_, ?_, q5⟩
   ·rw [he]
    exact ⟨by simpa using q3.lt, by simp, q3.blk.same (by simp) (by simp [q3.ne, show b ≠ h.size + 2 by omega]), q3.ne, q3.le, q3.small⟩
   ·refine ⟨by simpa using q4.size, fun c hc hn => ?_⟩
    simp [hn, show c ≠ h.size + 2 by omega, q4.get c hc hn]
  by_cases h0 : 0 < n
  ·have c1 : (0 : Int) < (n : Int) := by omega
   simp only [go_sem, ↓reduceIte, c1]
   refine MCall.by (sEntry (D.ext hx3) (i := n) hn) ?_
   rintro u h1 ⟨rfl, hx⟩
   have k2 : h1.get (h.size + 2) = some (.cells [.string ⟨#[]⟩, .string ⟨#[]⟩, .bool false] true true) := by rw [hx.get _ (by omega)]; exact g2
   have kr : h1.get r = some (.cells [.slice (some ⟨b, o, none⟩) l.length 1, .int .i64 a, .int .i64 (0 : Nat)] true true) := ((R.ext hx3).ext hx).get
   simp only [go_sem, ↓reduceIte, pairV, k2, kr, n1]
   exact byE (.inl h0) h1 hx
  ·obtain rfl : n = 0 := by omega
   cases ix with
   | true =>
    simp only [go_sem, ↓reduceIte, Int.lt_irrefl, g0]
    refine MCall.by (sEntry (D.ext hx3) (i := 0) hn) ?_
    rintro u h1 ⟨rfl, hx⟩
    have k2 : h1.get (h.size + 2) = some (.cells [.string ⟨#[]⟩, .string ⟨#[]⟩, .bool false] true true) := by rw [hx.get _ (by omega)]; exact g2
    have kr : h1.get r = some (.cells [.slice (some ⟨b, o, none⟩) l.length 1, .int .i64 a, .int .i64 (0 : Nat)] true true) := ((R.ext hx3).ext hx).get
    simp only [go_sem, ↓reduceIte, pairV, k2, kr, n1]
    exact byE (.inr rfl) h1 hx
   | false =>
    simp only [go_sem, ↓reduceIte, Int.lt_irrefl, g0]
    refine MCall.by (sText (R.ext hx3)) ?_
    rintro u h1 ⟨rfl, q1, q2⟩
    have k0 : h1.get h.size = some (.cells [.int .i64 bits, .bool false, .bool ad, .bool rz, .bool nv] true true) := by rw [q2.get _ (by omega) (by omega)]; exact g0
    have k1 : h1.get (h.size + 1) = some (.cells [.string ⟨#[]⟩, .string ⟨#[]⟩, .bool false] true true) := by rw [q2.get _ (by omega) (by omega)]; exact g1
    have k2 : h1.get (h.size + 2) = some (.cells [.string ⟨#[]⟩, .string ⟨#[]⟩, .bool false] true true) := by rw [q2.get _ (by omega) (by omega)]; exact g2
    simp only [go_sem, ↓reduceIte, k2]
    refine ⟨toBA (litDec 4096 (l.drop a)).1, ⟨#[]⟩, _, _, rfl, by simp [k0, show ¬ h.size = h.size + 1 + 1 by omega], by simp [k1], by simp, by have := q2.size; simp; omega, q1.setO (by omega) (by omega) _, ?_, ?_⟩
    ·refine ⟨by have := q2.size; simp; omega, fun c hc hn' => ?_⟩
     simp only [LHeap.get_set, show c ≠ h.size + 2 by omega, if_false]
     rw [q2.get c (by omega) hn', hx3.get c hc]
    ·rw [field_text]
     by_cases he : (litDec 4096 (l.drop a)).2.2 = 0
     ·exact .inr (.inr ⟨he, rfl, by rw [if_neg (by simpa using he), List.drop_drop]⟩)
     ·exact .inl ⟨he, by rw [if_pos he]⟩
 ·rintro fr hh ⟨nm, vl, a1, e1, rfl, k0, k1, k2, k3, k4, k5, k6⟩
  have m0 : ¬ h.size + 1 = h.size + 2 := by omega
  have m1 : ¬ h.size + 2 = h.size + 1 := by omega
  have m2 : ¬ h.size = h.size + 2 := by omega
  cases ix with
  | true =>
   simp only [go_sem, ↓reduceIte, k0, k2, k1, m0, m1]
   refine ⟨(nm, vl), a1, rfl, ?_, ?_, ?_⟩
   ·have he : (fieldOf ⟨L, limit⟩ true n (l.drop a)).2.2 = e1 := by
     rcases k6 with ⟨_, h2⟩ | ⟨h1, _, h2⟩ | ⟨_, h2, _⟩
     ·exact h2
     ·rw [h2, h1]
     ·cases h2
    rw [he]
    exact (k4.setO (by omega) (by omega) _).setO (by omega) (by omega) _
   ·refine ⟨by have := k5.size; simpa using this, fun c hc hn' => ?_⟩
    simp only [LHeap.get_set, show c ≠ h.size + 2 by omega, show c ≠ h.size + 1 by omega, if_false]
    exact k5.get c hc hn'
   ·intro h0
    rcases k6 with ⟨h1, h2⟩ | ⟨_, _, h2⟩ | ⟨_, h2, _⟩
    ·exact absurd (h2.symm.trans h0) h1
    ·rw [h2]; exact ⟨rfl, rfl⟩
    ·cases h2
  | false =>
   have key : ∀ (vl2 : ByteArray) (a2 e2 : Nat) (h1 : LHeap), Rdg h1 r b o l a2 e2 → One r hh h1 → (fieldOf ⟨L, limit⟩ false n (l.drop a)).2.2 = e2 → (e2 = 0 → fieldOf ⟨L, limit⟩ false n (l.drop a) = ((nm, vl2), l.drop a2, 0)) →
     ∃ f a', Value.agg #[.string nm, .string vl2, .bool nv] = lineV f nv ∧ Rdg ((((h1.set (h.size + 2) (.cells [.string nm, .string vl2, .bool false] true true)).set (h.size + 2) (.cells [.string nm, .string vl2, .bool nv] true true))).set (h.size + 1) (.cells [.string nm, .string vl2, .bool nv] true true)) r b o l a' (fieldOf ⟨L, limit⟩ false n (l.drop a)).2.2 ∧
      One r h ((((h1.set (h.size + 2) (.cells [.string nm, .string vl2, .bool false] true true)).set (h.size + 2) (.cells [.string nm, .string vl2, .bool nv] true true))).set (h.size + 1) (.cells [.string nm, .string vl2, .bool nv] true true)) ∧
      ((fieldOf ⟨L, limit⟩ false n (l.drop a)).2.2 = 0 → f = (fieldOf ⟨L, limit⟩ false n (l.drop a)).1 ∧ l.drop a' = (fieldOf ⟨L, limit⟩ false n (l.drop a)).2.1) := by
    intro vl2 a2 e2 h1 q1 q2 q3 q4
    refine ⟨(nm, vl2), a2, rfl, ?_, ?_, ?_⟩
    ·rw [q3]
     exact ((q1.setO (by omega) (by omega) _).setO (by omega) (by omega) _).setO (by omega) (by omega) _
    ·refine ⟨by have := k5.size; have := q2.size; simp; omega, fun c hc hn' => ?_⟩
     simp only [LHeap.get_set, show c ≠ h.size + 2 by omega, show c ≠ h.size + 1 by omega, if_false]
     rw [q2.get c (by have := k5.size; omega) hn']
     exact k5.get c hc hn'
    ·intro h0
     rw [q4 (q3.symm.trans h0)]
     exact ⟨rfl, rfl⟩
   simp only [go_sem, ↓reduceIte, k0]
   by_cases he : e1 = 0
   ·subst he
    refine MCall.by (sText k4) ?_
    rintro u h1 ⟨rfl, q1, q2⟩
    have z0 : h1.get h.size = some (.cells [.int .i64 bits, .bool false, .bool ad, .bool rz, .bool nv] true true) := by rw [q2.get _ (by omega) (by omega)]; exact k0
    have z1 : h1.get (h.size + 1) = some (.cells [.string ⟨#[]⟩, .string ⟨#[]⟩, .bool false] true true) := by rw [q2.get _ (by omega) (by omega)]; exact k1
    have z2 : h1.get (h.size + 2) = some (.cells [.string nm, .string vl, .bool false] true true) := by rw [q2.get _ (by omega) (by omega)]; exact k2
    have hfo : fieldOf ⟨L, limit⟩ false n (l.drop a) = valOf nm (l.drop a1) := by
     rcases k6 with ⟨h1, _⟩ | ⟨_, h2, _⟩ | ⟨_, _, h2⟩
     ·exact absurd rfl h1
     ·cases h2
     ·exact h2
    simp only [go_sem, ↓reduceIte, z0, z1, z2, m0, m1, m2]
    refine key _ _ _ _ q1 q2 ?_ ?_
    ·rw [hfo]; unfold valOf
     by_cases hz : (litDec 4096 (l.drop a1)).2.2 = 0
     ·rw [if_neg (by simpa using hz)]; exact hz.symm
     ·rw [if_pos hz]
    ·intro hz
     rw [hfo]; unfold valOf
     rw [if_neg (by simpa using hz), List.drop_drop]
   ·refine MCall.by (sTextE k4 he) ?_
    rintro u h1 ⟨rfl, rfl⟩
    simp only [go_sem, ↓reduceIte, k0, k1, k2, m0, m1, m2]
    refine key _ _ _ _ k4 (One.refl _ _) ?_ ?_
    ·rcases k6 with ⟨_, h2⟩ | ⟨h1, _⟩ | ⟨h1, _⟩
     ·exact h2
     ·exact absurd h1 he
     ·exact absurd h1 he
    ·intro hz; exact absurd hz he
end Go.E1
