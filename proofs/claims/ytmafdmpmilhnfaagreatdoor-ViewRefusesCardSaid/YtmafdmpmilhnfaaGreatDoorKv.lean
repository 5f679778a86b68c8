/-
  Texts joined: SpI, SpJ, SpK, SpL, Lw7A, Lw7B.
-/
import Derived.Test.YtmafdmpmilhnfaaGreatDoorKu
/-
 Layer 7: a form.
-/
namespace Go.E1
open Go Go.Proofs Go.M
set_option linter.unusedSimpArgs false

theorem kind_at (c : UInt8) : kindV (c.toNat : Int) = kV (kbits c) (decide (128 ≤ c.toNat)) (decide (64 ≤ c.toNat ∧ c.toNat < 128)) (decide (32 ≤ c.toNat ∧ c.toNat < 64)) (decide (16 ≤ c.toNat ∧ c.toNat < 32)) := by
 unfold kindV kV kbits
 by_cases h1 : 128 ≤ c.toNat
 ·have : (128 : Int) ≤ (c.toNat : Int) := by omega
  simp [h1, this, show ¬ c.toNat < 128 by omega, show ¬ c.toNat < 64 by omega, show ¬ c.toNat < 32 by omega]
 ·have e1 : ¬ (128 : Int) ≤ (c.toNat : Int) := by omega
  by_cases h2 : 64 ≤ c.toNat
  ·have : (64 : Int) ≤ (c.toNat : Int) := by omega
   simp [h1, h2, e1, this, show c.toNat < 128 by omega, show ¬ c.toNat < 64 by omega, show ¬ c.toNat < 32 by omega]
  ·have e2 : ¬ (64 : Int) ≤ (c.toNat : Int) := by omega
   by_cases h3 : 32 ≤ c.toNat
   ·have : (32 : Int) ≤ (c.toNat : Int) := by omega
    simp [h1, h2, h3, e1, e2, this, show c.toNat < 64 by omega, show ¬ c.toNat < 32 by omega]
   ·have e3 : ¬ (32 : Int) ≤ (c.toNat : Int) := by omega
    by_cases h4 : 16 ≤ c.toNat
    ·have : (16 : Int) ≤ (c.toNat : Int) := by omega
     simp [h1, h2, h3, h4, e1, e2, e3, this, show c.toNat < 32 by omega]
    ·have e4 : ¬ (16 : Int) ≤ (c.toNat : Int) := by omega
     simp [h1, h2, h3, h4, e1, e2, e3, e4]

theorem kbits_in (c : UInt8) : 1 ≤ kbits c ∧ kbits c ≤ 8 := by
 unfold kbits
 repeat' split
 all_goals omega

theorem sResizeBad {h : LHeap} {d t : Nat} {lv : Value} {z L : List Fld} {limit most bound : Nat} {dead : Bool} (D : Dcr h d t lv z L limit most bound dead) {n : Nat} {first : Bool} (hn : first = false ∨ most < n) :
  LCalls EC 146 [.pointer (some ⟨d, 0, none⟩), .int .i64 n, .bool first] h fun u h' => u = .int .i64 24 ∧ h' = h := by
 refine LCalls.enter (lf := lf146) rfl rfl (by simp [lf146]) ?_
 cases first with
 | false => simp only [go_sem, lf146, ↓reduceIte]
 | true =>
  have c1 : (most : Int) < (n : Int) := by have := hn.resolve_left (by simp); omega
  simp only [go_sem, lf146, ↓reduceIte, D.get, c1]

theorem sResizeOk {h : LHeap} {d t : Nat} {lv : Value} {z L : List Fld} {limit most bound : Nat} {dead : Bool} (D : Dcr h d t lv z L limit most bound dead) {n : Nat} (hm : n ≤ most) :
  LCalls EC 146 [.pointer (some ⟨d, 0, none⟩), .int .i64 n, .bool true] h fun u h' => u = .int .i64 0 ∧ ∃ lv' z', Dcr h' d t lv' z' (shrinkL n L) n most bound dead ∧ Keep (Foot t lv) h h' ∧ (∀ c, Foot t lv' c → Foot t lv c ∨ h.size ≤ c) := by
 refine LCalls.enter (lf := lf146) rfl rfl (by simp [lf146]) ?_
 have c1 : ¬ (most : Int) < (n : Int) := by omega
 have h1 := D.len
 have h2 := D.sz
 have h3 := D.lim
 have h4 := D.mst
 simp only [go_sem, lf146, ↓reduceIte, D.get, c1]
 refine MCall.by (sResize D.tbl (by omega) (by omega) D.zl (n := n) (by omega)) ?_
 rintro u h' ⟨⟨k, rfl⟩, lv', z', k1, k2, k3, k4⟩
 simp only [go_sem, ↓reduceIte]
 have hdn : ¬ Foot t lv d := by
  rintro (h | h)
  ·exact D.ne h
  ·exact D.nel h
 refine ⟨lv', z', ⟨Nat.lt_of_lt_of_le D.lt k3.size, by rw [k3.get d D.lt hdn]; exact D.get, k1, D.ne, ?_, k2, ?_, by omega, h4⟩, k3, k4⟩
 ·intro hh
  rcases k4 d (.inr hh) with h5 | h5
  ·exact hdn h5
  ·have := D.lt; omega
 ·rcases tsz_shrink (n : Int) L with h5 | h5
  ·omega
  ·rw [h5]; simp [tsz]

theorem Dcr.foot_lt {h : LHeap} {d t : Nat} {lv : Value} {z L : List Fld} {limit most bound : Nat} {dead : Bool} (D : Dcr h d t lv z L limit most bound dead) {x : Nat} (hx : FootD d t lv x) : x < h.size := by
 rcases hx with rfl | rfl | ⟨n, E, hx⟩
 ·exact D.lt
 ·exact D.tbl.lt
 ·rcases D.tbl.fs with ⟨_, h1⟩ | ⟨b, h1, h2, _⟩
  ·rw [h1] at hx; cases hx
  ·rw [h1] at hx; cases hx; exact h2
theorem Dcr.setO {h : LHeap} {d t : Nat} {lv : Value} {z L : List Fld} {limit most bound : Nat} {dead : Bool} (D : Dcr h d t lv z L limit most bound dead) {x : Nat} (hx : ¬ FootD d t lv x) (c : LObj) : Dcr (h.set x c) d t lv z L limit most bound dead :=
 D.same (by simp) fun b _ hf => by simp [show b ≠ x from fun h => hx (h ▸ hf)]
theorem Rdg.setE {h : LHeap} {r b o : Nat} {l : Bytes} {a e : Nat} (R : Rdg h r b o l a e) (e' : Nat) : Rdg (h.set r (.cells [.slice (some ⟨b, o, none⟩) l.length 1, .int .i64 a, .int .i64 e'] true true)) r b o l a e' :=
 ⟨by simpa using R.lt, by simp, R.blk.same (by simp) (by simp [R.ne]), R.ne, R.le, R.small⟩
theorem Rdg.keep {h h' : LHeap} {r b o : Nat} {l : Bytes} {a e : Nat} {S : Nat → Prop} (R : Rdg h r b o l a e) (K : Keep S h h') (h1 : ¬ S r) (h2 : ¬ S b) : Rdg h' r b o l a e :=
 ⟨Nat.lt_of_lt_of_le R.lt K.size, by rw [K.get r R.lt h1]; exact R.get, R.blk.same K.size (K.get b R.blk.lt h2), R.ne, R.le, R.small⟩
theorem Keep.set {S : Nat → Prop} {h h' : LHeap} (K : Keep S h h') {x : Nat} (hx : S x ∨ h.size ≤ x) (c : LObj) : Keep S h (h'.set x c) :=
 ⟨by simpa using K.size, fun b hb hn => by
  have : b ≠ x := fun e => hx.elim (fun h => hn (e ▸ h)) fun h => by omega
  simp [this, K.get b hb hn]⟩
theorem Keep.push {S : Nat → Prop} {h h' : LHeap} (K : Keep S h h') (c : LObj) : Keep S h (h'.push c) :=
 ⟨by have := K.size; simp; omega, fun b hb hn => by
  have : b ≠ h'.size := by have := K.size; omega
  simp [this, K.get b hb hn]⟩

/-- What is left of a form. -/
structure FormR (h : LHeap) (d t r b o : Nat) (lv : Value) (l : Bytes) (most bound : Nat) (dead : Bool) (res : St × Bytes × Out) (u : Value) (h' : LHeap) : Prop where
 dec : ∃ lv' z', Dcr h' d t lv' z' res.1.L res.1.limit most bound dead ∧ (∀ c, Foot t lv' c → Foot t lv c ∨ h.size ≤ c)
 keep : Keep (fun c => FootD d t lv c ∨ c = r) h h'
 out : match res.2.2 with
  | .fail e => ∃ f nv a', u = .tuple #[lineV f nv, .bool false] ∧ Rdg h' r b o l a' e ∧ e ≠ 0
  | .none => ∃ f nv a', u = .tuple #[lineV f nv, .bool false] ∧ Rdg h' r b o l a' 0 ∧ l.drop a' = res.2.1
  | .line x => ∃ a', u = .tuple #[lineV x.f x.never, .bool true] ∧ Rdg h' r b o l a' 0 ∧ l.drop a' = res.2.1

theorem sNext {h : LHeap} {d t r b o : Nat} {lv : Value} {z L : List Fld} {limit most bound : Nat} {dead : Bool} {l : Bytes} {a : Nat} {c : UInt8} {first : Bool} (D : Dcr h d t lv z L limit most bound dead) (R : Rdg h r b o l a 0) (hr : ¬ FootD d t lv r) (hb : ¬ FootD d t lv b) (hc : l[a]? = some c) :
  LCalls EC 108 [.pointer (some ⟨d, 0, none⟩), .pointer (some ⟨r, 0, none⟩), .bool first] h fun u h' => FormR h d t r b o lv l most bound dead (form most ⟨L, limit⟩ first c (l.drop a)) u h' := by
 refine LCalls.enter (lf := lf108) rfl rfl (by simp [lf108]) ?_
 obtain ⟨cs, tt, rr, hg, hle, hcs⟩ := R.blk.cells
 have hcell := bytes_get hcs hc
 have hal : a < l.length := by
  rcases Nat.lt_or_ge a l.length with q | q
  ·exact q
  ·simp [List.getElem?_eq_none q] at hc
 have c1 : (0 : Int) ≤ (a : Int) := by omega
 have c2 : (a : Int) < (l.length : Int) := by omega
 have hcl := c.toNat_lt
 have c3 : (0 : Int) ≤ (c.toNat : Int) := by omega
 have c4 : (c.toNat : Int) < 256 := by omega
 have n1 : ¬ r = h.size := by have := R.lt; omega
 have n2 : ¬ b = h.size := by have := R.blk.lt; omega
 have n3 : ¬ r = h.size + 1 := by have := R.lt; omega
 have n4 : ¬ b = h.size + 1 := by have := R.blk.lt; omega
 have hk := kind_at c
 simp only [go_sem, lf108, ↓reduceIte]
 refine MC.dregion ?_
 simp only [go_sem, ↓reduceIte, R.get, n1, n2, n3, n4, c1, c2, c3, c4, hg, hcell, hk, kV]
 generalize hH : ((h.push (.cells [.string ⟨#[]⟩, .string ⟨#[]⟩, .bool false] true true)).push (.cells [.int .i64 0, .bool false, .bool false, .bool false, .bool false] true true)).set (h.size + 1) (.cells [.int .i64 (kbits c), .bool (decide (128 ≤ c.toNat)), .bool (decide (64 ≤ c.toNat ∧ c.toNat < 128)), .bool (decide (32 ≤ c.toNat ∧ c.toNat < 64)), .bool (decide (16 ≤ c.toNat ∧ c.toNat < 32))] true true) = H
 have hs2 : H.size = h.size + 2 := by rw [← hH]; simp
 have hx2 : Ext h H := by rw [← hH]; exact ((Ext.push _ _).trans (Ext.push _ _)).set (by omega) _
 have g6 : H.get h.size = some (.cells [.string ⟨#[]⟩, .string ⟨#[]⟩, .bool false] true true) := by rw [← hH]; simp
 have g8 : H.get (h.size + 1) = some (.cells [.int .i64 (kbits c), .bool (decide (128 ≤ c.toNat)), .bool (decide (64 ≤ c.toNat ∧ c.toNat < 128)), .bool (decide (32 ≤ c.toNat ∧ c.toNat < 64)), .bool (decide (16 ≤ c.toNat ∧ c.toNat < 32))] true true) := by rw [← hH]; simp
 have hrs := R.lt
 have hbs := R.blk.lt
 have dlt := D.lt
 have tlt := D.tbl.lt
 clear hH
 refine MCall.by (sNumber (R.ext hx2) (bits := kbits c) (kbits_in c).1 (kbits_in c).2) ?_
 rintro u h1 ⟨rfl, R1, O1⟩
 have D1 := (D.ext hx2).one O1 hr
 have z6 : h1.get h.size = some (.cells [.string ⟨#[]⟩, .string ⟨#[]⟩, .bool false] true true) := by rw [O1.get _ (by omega) (by omega)]; exact g6
 have z8 := (O1.get (h.size + 1) (by omega) (by omega)).trans g8
 have sz1 := O1.size
 have K1 : Keep (fun x => FootD d t lv x ∨ x = r) h h1 := ⟨by omega, fun x hx hn => by rw [O1.get x (by omega) (fun h => hn (.inr h))]; exact hx2.get x hx⟩
 by_cases he : (pfx (kbits c) (l.drop a)).2.2 = 0
 ·have e1 : (((pfx (kbits c) (l.drop a)).2.2 : Int) != 0) = false := by simp [he]
  have hpu := pfx_used _ _ he
  have n5 : ¬ h.size = r := fun h => n1 h.symm
  have n6 : ¬ h.size + 1 = r := fun h => n3 h.symm
  by_cases hz : 32 ≤ c.toNat ∧ c.toNat < 64
  ·-- a limit
   have hform : form most ⟨L, limit⟩ first c (l.drop a) = if first = false ∨ most < (pfx (kbits c) (l.drop a)).1 then (⟨L, limit⟩, [], .fail 24) else (⟨shrinkL (pfx (kbits c) (l.drop a)).1 L, (pfx (kbits c) (l.drop a)).1⟩, (l.drop a).drop (pfx (kbits c) (l.drop a)).2.1, .none) := by
    unfold form
    rw [if_neg (by simpa using he), if_pos hz]
   simp only [go_sem, ↓reduceIte, R1.get, e1, z8, hz]
   by_cases hbad : first = false ∨ most < (pfx (kbits c) (l.drop a)).1
   ·rw [if_pos hbad] at hform
    refine MCall.by (sResizeBad D1 hbad) ?_
    rintro u h2 ⟨rfl, rfl⟩
    simp only [go_sem, ↓reduceIte, R1.get, z6, n5]
    rw [hform]
    have q1 : ¬ FootD d t lv h.size := fun h => absurd (D.foot_lt h) (Nat.lt_irrefl _)
    refine ⟨⟨lv, z, (D1.setO hr _).setO q1 _, fun c hc => .inl hc⟩, (K1.set (.inl (.inr rfl)) _).set (.inr (Nat.le_refl _)) _, ?_⟩
    exact ⟨noF, false, _, rfl, (R1.setE 24).setO (by omega) (by omega) _, by decide⟩
   ·rw [if_neg hbad] at hform
    have hf1 : first = true := by cases first with
     | true => rfl
     | false => exact absurd (.inl rfl) hbad
    subst hf1
    refine MCall.by (sResizeOk D1 (by have := fun h => hbad (.inr h); omega)) ?_
    rintro u h2 ⟨rfl, lv', z', D2, K2, F2⟩
    have q1 : ∀ x, h.size ≤ x → ¬ Foot t lv x := fun x hx hf => by have := D.foot_lt (.inr hf); omega
    have R2 := R1.keep K2 (fun h => hr (.inr h)) (fun h => hb (.inr h))
    have y6 := (K2.get h.size (by omega) (q1 _ (Nat.le_refl _))).trans z6
    have sz2 := K2.size
    have q2 : ∀ x, x < h1.size → ¬ FootD d t lv x → ¬ FootD d t lv' x := by
     rintro x hx hn (h | h)
     ·exact hn (.inl h)
     ·rcases F2 x h with h | h
      ·exact hn (.inr h)
      ·omega
    have q3 : ¬ FootD d t lv h.size := fun h => absurd (D.foot_lt h) (Nat.lt_irrefl _)
    simp only [go_sem, ↓reduceIte, R2.get, y6, n5]
    rw [hform]
    refine ⟨⟨lv', z', (D2.setO (q2 r (by omega) hr) _).setO (q2 _ (by omega) q3) _, fun c hc => ?_⟩, ?_, ?_⟩
    ·rcases F2 c hc with h | h
     ·exact .inl h
     ·exact .inr (by omega)
    ·refine ((K1.trans K2 fun i hi => .inl (.inl (.inr hi))).set (.inl (.inr rfl)) _).set (.inr (Nat.le_refl _)) _
    ·exact ⟨noF, false, _, rfl, (R2.setE 0).setO (by omega) (by omega) _, by rw [List.drop_drop]⟩
  ·simp only [go_sem, ↓reduceIte, R1.get, e1, z8, hz]
   have R1' : Rdg h1 r b o l (a + (pfx (kbits c) (l.drop a)).2.1) 0 := by rw [he] at R1; exact R1
   have hform : form most ⟨L, limit⟩ first c (l.drop a) = (if (fieldOf ⟨L, limit⟩ (decide (128 ≤ c.toNat)) (pfx (kbits c) (l.drop a)).1 ((l.drop a).drop (pfx (kbits c) (l.drop a)).2.1)).2.2 ≠ 0 then
     (⟨L, limit⟩, [], .fail (fieldOf ⟨L, limit⟩ (decide (128 ≤ c.toNat)) (pfx (kbits c) (l.drop a)).1 ((l.drop a).drop (pfx (kbits c) (l.drop a)).2.1)).2.2)
    else
     (if 64 ≤ c.toNat ∧ c.toNat < 128 then ⟨addL limit L (fieldOf ⟨L, limit⟩ (decide (128 ≤ c.toNat)) (pfx (kbits c) (l.drop a)).1 ((l.drop a).drop (pfx (kbits c) (l.drop a)).2.1)).1, limit⟩ else ⟨L, limit⟩,
      (fieldOf ⟨L, limit⟩ (decide (128 ≤ c.toNat)) (pfx (kbits c) (l.drop a)).1 ((l.drop a).drop (pfx (kbits c) (l.drop a)).2.1)).2.1,
      .line ⟨(fieldOf ⟨L, limit⟩ (decide (128 ≤ c.toNat)) (pfx (kbits c) (l.drop a)).1 ((l.drop a).drop (pfx (kbits c) (l.drop a)).2.1)).1, decide (16 ≤ c.toNat ∧ c.toNat < 32)⟩)) := by
    unfold form
    rw [if_neg (by simpa using he), if_neg hz]
   rw [List.drop_drop] at hform
   refine MCall.by (sField (bits := kbits c) (ix := decide (128 ≤ c.toNat)) (ad := decide (64 ≤ c.toNat ∧ c.toNat < 128)) (rz := false) (nv := decide (16 ≤ c.toNat ∧ c.toNat < 32)) D1 R1' hr hpu.2.2) ?_
   generalize hfo : fieldOf ⟨L, limit⟩ (decide (128 ≤ c.toNat)) (pfx (kbits c) (l.drop a)).1 (l.drop (a + (pfx (kbits c) (l.drop a)).2.1)) = fo at hform
   rintro u h2 ⟨f, a2, rfl, R2, O2, hok⟩
   have D2 := D1.one O2 hr
   have sz2 := O2.size
   have y6 := (O2.get h.size (by omega) n5).trans z6
   have y8 := (O2.get (h.size + 1) (by omega) n6).trans z8
   have n7 : ¬ r = h2.size := by omega
   have n8 : ¬ h.size = h2.size := by omega
   have n9 : ¬ h.size + 1 = h2.size := by omega
   have n10 : ¬ d = h2.size := by omega
   simp only [go_sem, ↓reduceIte, lineV, R2.get, n7]
   generalize hH : (h2.push (.cells [.string ⟨#[]⟩, .string ⟨#[]⟩, .bool false] true true)).set h2.size (.cells [.string f.1, .string f.2, .bool (decide (16 ≤ c.toNat ∧ c.toNat < 32))] true true) = H3
   have hx3 : Ext h2 H3 := by rw [← hH]; exact (Ext.push _ _).set (Nat.le_refl _) _
   have sz3 : H3.size = h2.size + 1 := by rw [← hH]; simp
   have g10 : H3.get h2.size = some (.cells [.string f.1, .string f.2, .bool (decide (16 ≤ c.toNat ∧ c.toNat < 32))] true true) := by rw [← hH]; simp
   clear hH
   have D3 := D2.ext hx3
   have R3 := R2.ext hx3
   have x6 := (hx3.get h.size (by omega)).trans y6
   have x8 := (hx3.get (h.size + 1) (by omega)).trans y8
   have q3 : ∀ x, h.size ≤ x → ¬ FootD d t lv x := fun x hx hf => by have := D.foot_lt hf; omega
   have K3 : Keep (fun x => FootD d t lv x ∨ x = r) h H3 := ⟨by omega, fun x hx hn => by rw [hx3.get x (by omega), O2.get x (by omega) (fun h => hn (.inr h))]; exact K1.get x hx hn⟩
   by_cases he2 : fo.2.2 = 0
   ·have e2 : ((fo.2.2 : Int) == 0) = true := by simp [he2]
    rw [if_neg (by simpa using he2)] at hform
    obtain ⟨rfl, hdr⟩ := hok he2
    have R3' : Rdg H3 r b o l a2 0 := by rw [he2] at R3; exact R3
    by_cases had : 64 ≤ c.toNat ∧ c.toNat < 128
    ·rw [if_pos had] at hform
     have hfs : fsz fo.1 ≤ 200000 := by rw [← hfo]; exact fieldOf_sz (by have := D.sz; have := D.lim; have := D.mst; simp only; omega)
     simp only [go_sem, ↓reduceIte, e2, x8, had]
     refine MC.dregion ?_
     simp only [go_sem, ↓reduceIte, D3.get, g10]
     refine MDCall.by (sAdd (f := fo.1) D3.tbl D3.sz (by have := D3.lim; have := D3.mst; omega) D3.zl (by omega)) ?_
     rintro u h4 ⟨lv', z', T4, Z4, K4, F4⟩
     have nf : ∀ x, ¬ FootD d t lv x → ¬ Foot t lv x := fun x hx hf => hx (.inr hf)
     have hdn : ¬ Foot t lv d := by
      rintro (h | h)
      ·exact D.ne h
      ·exact D.nel h
     have R4 := R3'.keep K4 (nf r hr) (nf b hb)
     have y6 := (K4.get h.size (by omega) (nf _ (q3 _ (Nat.le_refl _)))).trans x6
     have y10 := (K4.get h2.size (by omega) (nf _ (q3 _ (by omega)))).trans g10
     have sz4 := K4.size
     have D4 : Dcr h4 d t lv' z' (addL limit L fo.1) limit most bound dead := by
      refine ⟨by omega, by rw [K4.get d (by omega) hdn]; exact D3.get, T4, D.ne, ?_, Z4, tsz_add D.sz, D.lim, D.mst⟩
      intro hh
      rcases F4 d (.inr hh) with h5 | h5
      ·exact hdn h5
      ·omega
     have q4 : ¬ FootD d t lv' h.size := by
      rintro (h5 | h5)
      ·omega
      ·rcases F4 _ h5 with h6 | h6
       ·exact nf _ (q3 _ (Nat.le_refl _)) h6
       ·omega
     have e3 : ((((0 : Nat) : Int)) == 0) = true := rfl
     simp only [go_sem, ↓reduceIte]
     refine MC.dregion ?_
     simp only [go_sem, ↓reduceIte, y10, R4.get, y6, n1, e3]
     rw [hform]
     refine ⟨⟨lv', z', D4.setO q4 _, fun c hc => ?_⟩, (K3.trans K4 fun i hi => .inl (.inl (.inr hi))).set (.inr (Nat.le_refl _)) _, ?_⟩
     ·rcases F4 c hc with h5 | h5
      ·exact .inl h5
      ·exact .inr (by omega)
     ·exact ⟨a2, rfl, R4.setO (by omega) (by omega) _, hdr⟩
    ·rw [if_neg had] at hform
     simp only [go_sem, ↓reduceIte, e2, x8, had]
     refine MC.dregion ?_
     simp only [go_sem, ↓reduceIte, g10, R3.get, e2, x6, n1]
     rw [hform]
     refine ⟨⟨lv, z, D3.setO (q3 _ (Nat.le_refl _)) _, fun c hc => .inl hc⟩, K3.set (.inr (Nat.le_refl _)) _, ?_⟩
     exact ⟨a2, rfl, R3'.setO (by omega) (by omega) _, hdr⟩
   ·have e2 : ((fo.2.2 : Int) == 0) = false := by simp; omega
    rw [if_pos he2] at hform
    simp only [go_sem, ↓reduceIte, e2]
    refine MC.dregion ?_
    simp only [go_sem, ↓reduceIte, g10, R3.get, e2, x6, n1]
    rw [hform]
    refine ⟨⟨lv, z, D3.setO (q3 _ (Nat.le_refl _)) _, fun c hc => .inl hc⟩, K3.set (.inr (Nat.le_refl _)) _, ?_⟩
    exact ⟨f, _, a2, rfl, R3.setO (by omega) (by omega) _, he2⟩
 ·have e1 : (((pfx (kbits c) (l.drop a)).2.2 : Int) != 0) = true := by simp; omega
  have hform : form most ⟨L, limit⟩ first c (l.drop a) = (⟨L, limit⟩, [], .fail (pfx (kbits c) (l.drop a)).2.2) := by
   unfold form
   rw [if_pos he]
  simp only [go_sem, ↓reduceIte, R1.get, e1, z6]
  rw [hform]
  have q1 : ¬ FootD d t lv h.size := fun h => absurd (D.foot_lt h) (Nat.lt_irrefl _)
  refine ⟨⟨lv, z, D1.setO q1 _, fun c hc => .inl hc⟩, K1.set (.inr (Nat.le_refl _)) _, ?_⟩
  exact ⟨noF, false, _, rfl, R1.setO (by omega) (by omega) _, he⟩
end Go.E1

/-
 Layer 7: a block.
-/
namespace Go.E1
open Go Go.Proofs Go.M
set_option linter.unusedSimpArgs false

/-- Lines that were gathered. -/
def LS (h : LHeap) (lo : Nat) (v : Value) (l : List Ln) : Prop :=
 (l = [] ∧ v = .slice none 0 0) ∨ ∃ b, v = .slice (some ⟨b, 0, none⟩) l.length 3 ∧ lo ≤ b ∧ b < h.size ∧ h.get b = some (.cells (lcells l) true true)

theorem ls_len {q : EqF} {h hh : LHeap} {lo : Nat} {v : Value} {l : List Ln} (ho : LS hh lo v l) : lexec q (.lenS v) h = some (.int .i64 l.length, h) := by
 rcases ho with ⟨rfl, rfl⟩ | ⟨b, rfl, _⟩ <;> rfl

theorem ls_append {q : EqF} {hh : LHeap} {lo : Nat} {v : Value} {l : List Ln} (h : LS hh lo v l) (hlo : lo ≤ hh.size) (x : Ln) (hn : l.length < 1000000) :
  ∃ v' hh', lexec q (.append 3 40 v (.slice (some ⟨hh.size, 0, none⟩) 1 3)) (hh.push (.cells [.string x.f.1, .string x.f.2, .bool x.never] true true)) = some (v', hh') ∧ LS hh' lo v' (l ++ [x]) ∧ hh.size ≤ hh'.size ∧
   (∀ b, b < hh.size → ¬ (∃ n E, v = .slice (some ⟨b, 0, none⟩) n E) → hh'.get b = hh.get b) ∧ (∀ b n E, v' = .slice (some ⟨b, 0, none⟩) n E → hh.size ≤ b) := by
 have hf : (hh.push (.cells [.string x.f.1, .string x.f.2, .bool x.never] true true)).firstCells 3 (.slice (some ⟨hh.size, 0, none⟩) 1 3) = some (1, [.string x.f.1, .string x.f.2, .bool x.never]) := first_some (cs := [.string x.f.1, .string x.f.2, .bool x.never]) (t := true) (r := true) (by simp) (by simp) (by simp)
 rcases h with ⟨rfl, rfl⟩ | ⟨b, rfl, h2, h3, h4⟩
 ·refine ⟨_, _, x_append_none hf (by simp) (by simp [oneCells, Value.oneCell']) (by simp [roomOk]), .inr ⟨hh.size + 1, by simp, by omega, by simp, by simp [lcells]⟩, by simp; omega, ?_, ?_⟩
  ·intro i hi _
   simp [show i ≠ hh.size + 1 by omega, show i ≠ hh.size by omega]
  ·intro b n E he
   cases he
   simp
 ·have hb : b ≠ hh.size := by omega
  refine ⟨_, _, x_append_some (cs := lcells l) (r := true) hf (by simp) (by simp [hb, h4]) (by simp [lcells_len]) (by simp [oneCells, Value.oneCell']) (by simp only [roomOk]; simp; omega), .inr ⟨hh.size + 1, by simp, by omega, by simp, by simp [lcells_append, lcells]⟩, by simp; omega, ?_, ?_⟩
  ·intro i hi hno
   have : i ≠ b := fun h => hno ⟨_, _, by rw [h]⟩
   simp [show i ≠ hh.size + 1 by omega, show i ≠ hh.size by omega, this]
  ·intro b n E he
   cases he
   simp

/-! ### Each form has a byte at least -/
end Go.E1

/-
 Layer 7: Decode.
-/
namespace Go.E1
open Go Go.Proofs Go.M
set_option linter.unusedSimpArgs false

/-- What a block's reading leaves. -/
structure DecR (h : LHeap) (d t : Nat) (lv : Value) (most bound : Nat) (res : Dec × Except Nat (List Ln)) (u : Value) (h' : LHeap) : Prop where
 keep : Keep (FootD d t lv) h h'
 dec : ∃ lv' z', Dcr h' d t lv' z' res.1.st.L res.1.st.limit most bound res.1.dead ∧ (∀ c, Foot t lv' c → Foot t lv c ∨ h.size ≤ c) ∧
  match res.2 with
  | .error e => u = .tuple #[.slice none 0 0, .int .i64 e] ∧ e ≠ 0
  | .ok ls => ∃ ov, u = .tuple #[ov, .int .i64 0] ∧ LS h' h.size ov ls ∧ ∀ x n E, ov = .slice (some ⟨x, 0, none⟩) n E → ¬ FootD d t lv' x

theorem sDecodeDead {h : LHeap} {d t : Nat} {lv : Value} {z L : List Fld} {limit most bound : Nat} (D : Dcr h d t lv z L limit most bound true) (v : Value) (l : Bytes) :
  LCalls EC 77 [.pointer (some ⟨d, 0, none⟩), v] h fun u h' => DecR h d t lv most bound (M.decode most bound ⟨⟨L, limit⟩, true⟩ l) u h' := by
 refine LCalls.enter (lf := lf77) rfl rfl (by simp [lf77]) ?_
 have e : M.decode most bound ⟨⟨L, limit⟩, true⟩ l = (⟨⟨L, limit⟩, true⟩, .error 25) := rfl
 simp only [go_sem, lf77, ↓reduceIte, D.get]
 rw [e]
 exact ⟨Keep.refl _ _, lv, z, D, fun c hc => .inl hc, rfl, by omega⟩

/-- The loop's frame: where the reading stands. -/
def DecJ (h : LHeap) (d t r b o : Nat) (lv0 : Value) (l : Bytes) (most bound : Nat) (tgt : St × Except Nat (List Ln)) (m : Nat) (fr : Fr) (hh : LHeap) : Prop :=
 ∃ lv z L limit a e ls size ov tl, fr = (0, .pointer (some ⟨d, 0, none⟩)) :: (1, .slice (some ⟨b, o, none⟩) l.length 1) :: (6, .pointer (some ⟨r, 0, none⟩)) :: (7, ov) :: (8, .int .i64 ((size : Nat) : Int)) :: tl ∧
  Dcr hh d t lv z L limit most bound false ∧ Rdg hh r b o l a e ∧ LS hh (r + 1) ov ls ∧ (∀ x n E, ov = .slice (some ⟨x, 0, none⟩) n E → ¬ FootD d t lv x) ∧ ls.length ≤ l.length ∧ (e = 0 → ls.length ≤ a) ∧
  Keep (FootD d t lv0) h hh ∧ (∀ c, Foot t lv c → Foot t lv0 c ∨ r < c) ∧
  ((e = 0 ∧ size ≤ bound ∧ m = l.length - a + 1 ∧ decAll most bound ⟨L, limit⟩ (l.drop a) ls size = tgt) ∨ (e ≠ 0 ∧ m = 0 ∧ tgt = (⟨L, limit⟩, .error e)))

theorem LS.keep {S : Nat → Prop} {h h' : LHeap} {lo : Nat} {v : Value} {l : List Ln} (s : LS h lo v l) (K : Keep S h h') (hs : ∀ x n E, v = .slice (some ⟨x, 0, none⟩) n E → ¬ S x) : LS h' lo v l := by
 rcases s with h1 | ⟨b, h1, h2, h3, h4⟩
 ·exact .inl h1
 ·exact .inr ⟨b, h1, h2, Nat.lt_of_lt_of_le h3 K.size, by rw [K.get b h3 (hs _ _ _ h1)]; exact h4⟩
theorem Dcr.keepS {S : Nat → Prop} {h h' : LHeap} {d t : Nat} {lv : Value} {z L : List Fld} {limit most bound : Nat} {dead : Bool} (D : Dcr h d t lv z L limit most bound dead) (K : Keep S h h') (hn : ∀ i, FootD d t lv i → ¬ S i) : Dcr h' d t lv z L limit most bound dead := by
 refine ⟨Nat.lt_of_lt_of_le D.lt K.size, by rw [K.get d D.lt (hn d (.inl rfl))]; exact D.get, ⟨Nat.lt_of_lt_of_le D.tbl.lt K.size, by rw [K.get t D.tbl.lt (hn t (.inr (.inl rfl)))]; exact D.tbl.get, ?_⟩, D.ne, D.nel, D.zl, D.sz, D.lim, D.mst⟩
 rcases D.tbl.fs with h1 | ⟨b, h1, h2, h3, h4⟩
 ·exact .inl h1
 ·exact .inr ⟨b, h1, Nat.lt_of_lt_of_le h2 K.size, h3, by rw [K.get b h2 (hn b (.inr (.inr ⟨_, _, h1⟩)))]; exact h4⟩
theorem Dcr.die {h : LHeap} {d t : Nat} {lv : Value} {z L : List Fld} {limit most bound : Nat} {dead dd : Bool} (D : Dcr h d t lv z L limit most bound dead) : Dcr (h.set d (.cells [.pointer (some ⟨t, 0, none⟩), .int .i64 most, .int .i64 bound, .bool dd] true true)) d t lv z L limit most bound dd := by
 refine ⟨by simpa using D.lt, by simp [D.lt], ⟨by simpa using D.tbl.lt, by simp [D.ne.symm, D.tbl.get], ?_⟩, D.ne, D.nel, D.zl, D.sz, D.lim, D.mst⟩
 rcases D.tbl.fs with h1 | ⟨b, h1, h2, h3, h4⟩
 ·exact .inl h1
 ·exact .inr ⟨b, h1, by simpa using h2, h3, by simp [show b ≠ d from fun hx => D.nel ⟨_, _, hx ▸ h1⟩, h4]⟩
theorem Rdg.keepS {S : Nat → Prop} {h h' : LHeap} {r b o : Nat} {l : Bytes} {a e : Nat} (R : Rdg h r b o l a e) (K : Keep S h h') (h1 : ¬ S r) (h2 : ¬ S b) : Rdg h' r b o l a e :=
 ⟨Nat.lt_of_lt_of_le R.lt K.size, by rw [K.get r R.lt h1]; exact R.get, R.blk.same K.size (K.get b R.blk.lt h2), R.ne, R.le, R.small⟩
theorem Rdg.put {h : LHeap} {r b o : Nat} {l : Bytes} {a e : Nat} (R : Rdg h r b o l a e) (e' : Nat) : Rdg (h.set r (.cells [.slice (some ⟨b, o, none⟩) l.length 1, .int .i64 (a : Int), .int .i64 (e' : Int)] true true)) r b o l a e' :=
 ⟨by simpa using R.lt, by simp, R.blk.same (by simp) (by simp [R.ne]), R.ne, R.le, R.small⟩
theorem LS.lo_le {h : LHeap} {lo lo' : Nat} {v : Value} {l : List Ln} (s : LS h lo v l) (hl : lo' ≤ lo) : LS h lo' v l := by
 rcases s with h1 | ⟨b, h1, h2, h3, h4⟩
 ·exact .inl h1
 ·exact .inr ⟨b, h1, by omega, h3, h4⟩
theorem LS.lt {h : LHeap} {lo : Nat} {v : Value} {l : List Ln} (s : LS h lo v l) {x n E : Nat} (hv : v = .slice (some ⟨x, 0, none⟩) n E) : lo ≤ x ∧ x < h.size := by
 rcases s with ⟨_, h1⟩ | ⟨b, h1, h2, h3, _⟩
 ·rw [h1] at hv; cases hv
 ·rw [h1] at hv; cases hv; exact ⟨h2, h3⟩
theorem len_isEmpty (ls : List Ln) : ((ls.length : Int) == 0) = ls.isEmpty := by
 cases ls with
 | nil => rfl
 | cons x l => simp only [List.length_cons, List.isEmpty_cons]; exact beq_eq_false_iff_ne.2 (by omega)

theorem sDecodeLive {h : LHeap} {d t b o : Nat} {lv : Value} {z L : List Fld} {limit most bound : Nat} {l : Bytes} (D : Dcr h d t lv z L limit most bound false) (B : Blk h b o l) (hb : ¬ FootD d t lv b) (hl : l.length < 100000) (hbd : bound < 1000000000) :
  LCalls EC 77 [.pointer (some ⟨d, 0, none⟩), .slice (some ⟨b, o, none⟩) l.length 1] h fun u h' => DecR h d t lv most bound (M.decode most bound ⟨⟨L, limit⟩, false⟩ l) u h' := by
 refine LCalls.enter (lf := lf77) rfl rfl (by simp [lf77]) ?_
 have dlt := D.lt
 have tlt := D.tbl.lt
 have blt := B.lt
 have hdec : M.decode most bound ⟨⟨L, limit⟩, false⟩ l = match decAll most bound ⟨L, limit⟩ l [] 0 with
  | (s, .ok l) => (⟨s, false⟩, .ok l)
  | (s, .error e) => (⟨s, true⟩, .error e) := rfl
 generalize htg : decAll most bound ⟨L, limit⟩ l [] 0 = tgt at hdec
 simp only [go_sem, lf77, ↓reduceIte, D.get]
 refine MC.cutb (fun fr hh => ∃ lv' z' e ls size ov, fr = [(0, .pointer (some ⟨d, 0, none⟩)), (1, .slice (some ⟨b, o, none⟩) l.length 1), (6, .pointer (some ⟨h.size, 0, none⟩)), (7, ov), (8, .int .i64 ((size : Nat) : Int)), (31, .bool false)] ∧
   Dcr hh d t lv' z' tgt.1.L tgt.1.limit most bound false ∧ hh.get h.size = some (.cells [.slice (some ⟨b, o, none⟩) l.length 1, .int .i64 ((ls : Nat) : Int), .int .i64 ((e : Nat) : Int)] true true) ∧ h.size < hh.size ∧
   Keep (FootD d t lv) h hh ∧ (∀ c, Foot t lv' c → Foot t lv c ∨ h.size < c) ∧ (match tgt.2 with | .error e' => e = e' ∧ e ≠ 0 | .ok l' => e = 0 ∧ LS hh (h.size + 1) ov l' ∧ ∀ x n E, ov = .slice (some ⟨x, 0, none⟩) n E → ¬ FootD d t lv' x)) ?_ ?_
 ·refine MC.loop (DecJ h d t h.size b o lv l most bound tgt) (l.length + 1) ?_ ?_
  ·exact ⟨lv, z, L, limit, 0, 0, [], 0, _, _, rfl, D.ext (Ext.push _ _), ⟨by simp, by simp, B.same (by simp) (by simp [show b ≠ h.size by omega]), by omega, Nat.zero_le _, hl⟩, .inl ⟨rfl, rfl⟩, (fun x n E he => by cases he), Nat.zero_le _, (fun _ => Nat.zero_le _), Keep.of_ext (Ext.push _ _), fun c hc => .inl hc, .inl ⟨rfl, Nat.zero_le _, rfl, htg⟩⟩
  ·rintro m fr hh J ⟨lv1, z1, L1, limit1, a, e, ls, size, ov, tl, rfl, D1, R1, S1, N1, A0, A1, K1, F1, T1⟩ hJ
   have hrl := R1.lt
   have nr : ¬ FootD d t lv1 h.size := by
    rintro (h1 | h1)
    ·omega
    ·rcases F1 _ h1 with h2 | h2
     ·have := D.foot_lt (.inr h2); omega
     ·omega
   have nb : ¬ FootD d t lv1 b := by
    rintro (h1 | h1)
    ·exact hb (.inl h1)
    ·rcases F1 _ h1 with h2 | h2
     ·exact hb (.inr h2)
     ·omega
   rcases T1 with ⟨rfl, hsz, rfl, htgt⟩ | ⟨he, rfl, rfl⟩
   ·have e0 : ((((0 : Nat) : Int)) == 0) = true := rfl
    by_cases hend : l.length ≤ a
    ·have c1 : ¬ (a : Int) < (l.length : Int) := by omega
     rw [List.drop_eq_nil_of_le hend, decAll_nil] at htgt
     subst htgt
     simp only [go_sem, ↓reduceIte, R1.get, c1]
     exact ⟨lv1, z1, 0, a, size, ov, rfl, D1, rfl, hrl, K1, F1, rfl, S1, N1⟩
    ·have c1 : (a : Int) < (l.length : Int) := by omega
     obtain ⟨c, hc⟩ : ∃ c, l[a]? = some c := ⟨l[a], by simp [show a < l.length by omega]⟩
     have hdrop : l.drop a = c :: l.drop (a + 1) := by
      rw [List.drop_eq_getElem_cons (by omega)]
      rw [List.getElem?_eq_getElem (by omega)] at hc
      rw [Option.some.inj hc]
     have htgt2 := htgt
     rw [hdrop, decAll_cons, ← hdrop, ← len_isEmpty] at htgt2
     have e1 := ls_len (q := EC.q) (h := hh) S1
     have hD1 : tsz L1 ≤ 65536 := by have := D1.sz; have := D1.lim; have := D1.mst; omega
     simp only [go_sem, ↓reduceIte, R1.get, c1, e0, e1]
     refine MCall.by (sNext (first := ((ls.length : Int) == 0)) D1 R1 nr nb hc) ?_
     rintro u h2 ⟨⟨lv2, z2, D2, F2⟩, K2, O2⟩
     have hrest := form_rest (most := most) (s := ⟨L1, limit1⟩) (first := ((ls.length : Int) == 0)) (c := c) (b := l.drop a)
     have hlsz : ∀ x, (form most ⟨L1, limit1⟩ ((ls.length : Int) == 0) c (l.drop a)).2.2 = .line x → fsz x.f ≤ 200000 := fun x h => form_line_sz hD1 h
     have F12 : ∀ c, Foot t lv2 c → Foot t lv c ∨ h.size < c := fun x hx => by
      rcases F2 x hx with h3 | h3
      ·exact F1 x h3
      ·exact .inr (by omega)
     have sz2 := K2.size
     have K12 : Keep (FootD d t lv) h h2 := K1.trans K2 fun i hi => by
      rcases hi with (h3 | h3) | h3
      ·exact .inl (.inl h3)
      ·rcases F1 i h3 with h4 | h4
       ·exact .inl (.inr h4)
       ·exact .inr (by omega)
      ·exact .inr (by omega)
     have S2 : LS h2 (h.size + 1) ov ls := S1.keep K2 fun x n E hx hS => by
      rcases hS with h3 | h3
      ·exact N1 x n E hx h3
      ·have := (S1.lt hx).1; omega
     have N2 : ∀ x n E, ov = .slice (some ⟨x, 0, none⟩) n E → ¬ FootD d t lv2 x := fun x n E hx hf => by
      have hxl := (S1.lt hx).2
      rcases hf with h3 | h3
      ·exact N1 x n E hx (.inl h3)
      ·rcases F2 x h3 with h4 | h4
       ·exact N1 x n E hx (.inr h4)
       ·omega
     have nr2 : ¬ h.size = h2.size := by omega
     have nd2 : ¬ d = h2.size := by omega
     generalize form most ⟨L1, limit1⟩ ((ls.length : Int) == 0) c (l.drop a) = fo at O2 htgt2 hrest hlsz D2
     obtain ⟨s', rst, out⟩ := fo
     -- a new place for the line changes nothing of these
     have hx9 : ∀ cs cs', Ext h2 ((h2.push cs).set h2.size cs') := fun cs cs' => (Ext.push _ _).set (Nat.le_refl _) _
     have S9 : ∀ cs cs', LS ((h2.push cs).set h2.size cs') (h.size + 1) ov ls := fun cs cs' => S2.keep (S := fun _ => False) (Keep.of_ext (hx9 cs cs')) fun _ _ _ _ h => h
     have K9 : ∀ cs cs', Keep (FootD d t lv) h ((h2.push cs).set h2.size cs') := fun cs cs' => (K12.push cs).set (.inr (by omega)) _
     cases out with
     | fail e =>
      obtain ⟨f, nv, a', rfl, R2, he⟩ := O2
      simp only [go_sem, ↓reduceIte, lineV]
      exact hJ 0 _ _ (by omega) ⟨lv2, z2, s'.L, s'.limit, a', e, ls, size, ov, _, rfl, D2.ext (hx9 _ _), R2.ext (hx9 _ _), S9 _ _, N2, A0, (fun h => absurd h he), K9 _ _, F12, .inr ⟨he, rfl, htgt2.symm⟩⟩
     | none =>
      obtain ⟨f, nv, a', rfl, R2, hdr⟩ := O2
      have hlt := hrest (fun e h => by cases h)
      simp only [List.length_drop] at hlt
      have hle2 := R2.le
      have hdl : (l.drop a').length = rst.length := by rw [hdr]
      rw [List.length_drop] at hdl
      simp only [go_sem, ↓reduceIte, lineV]
      refine hJ (l.length - a' + 1) _ _ (by omega) ⟨lv2, z2, s'.L, s'.limit, a', 0, ls, size, ov, _, rfl, D2.ext (hx9 _ _), R2.ext (hx9 _ _), S9 _ _, N2, A0, (fun _ => by have := A1 rfl; omega), K9 _ _, F12, .inl ⟨rfl, hsz, rfl, ?_⟩⟩
      rw [hdr]; exact htgt2
     | line x =>
      obtain ⟨a', rfl, R2, hdr⟩ := O2
      have hlt := hrest (fun e h => by cases h)
      have hxs := hlsz x rfl
      simp only [List.length_drop] at hlt
      have hle2 := R2.le
      have hdl : (l.drop a').length = rst.length := by rw [hdr]
      rw [List.length_drop] at hdl
      have hls : ls.length < 1000000 := by omega
      obtain ⟨ov', h4, ha, S4, sz4, g4, n4⟩ := ls_append (q := EC.q) (S9 (.cells [.string ⟨#[]⟩, .string ⟨#[]⟩, .bool false] true true) (.cells [.string x.f.1, .string x.f.2, .bool x.never] true true)) (by simp; omega) x hls
      simp only [LHeap.size_set, LHeap.size_push] at ha sz4 g4 n4
      have hw : szW x.f.1 x.f.2 = (fsz x.f : Int) := szW_fsz (by omega)
      have hw2 : IntKind.i64.wrap ((size : Int) + (fsz x.f : Int)) = ((size + fsz x.f : Nat) : Int) := by rw [IntWalk.i64_in _ (by omega)]; omega
      have hg9 : h4.get h2.size = some (.cells [.string x.f.1, .string x.f.2, .bool x.never] true true) := by
       rw [g4 h2.size (by omega) (fun ⟨n, E, hx⟩ => by have := (S2.lt hx).2; omega)]
       simp
      have K4 : Keep (fun c => ∃ n E, ov = .slice (some ⟨c, 0, none⟩) n E) h2 h4 := ⟨by omega, fun i hi hs => by
       rw [g4 i (by omega) hs]
       simp [show i ≠ h2.size by omega]⟩
      have nfd : ∀ i, FootD d t lv2 i → ¬ ∃ n E, ov = .slice (some ⟨i, 0, none⟩) n E := fun i hf ⟨n, E, hx⟩ => N2 i n E hx hf
      have D4 := D2.keepS K4 nfd
      have R4 := R2.keepS K4 (fun ⟨n, E, hx⟩ => by have := (S2.lt hx).1; omega) (fun ⟨n, E, hx⟩ => by have := (S2.lt hx).1; omega)
      have K14 : Keep (FootD d t lv) h h4 := K12.trans K4 fun i ⟨n, E, hx⟩ => .inr (by have := (S2.lt hx).1; omega)
      have n4' : ∀ y n E, ov' = .slice (some ⟨y, 0, none⟩) n E → ¬ FootD d t lv2 y := fun y n E hx hf => by
       have h5 := n4 y n E hx
       have h6 := D2.foot_lt hf
       omega
      simp only [go_sem, ↓reduceIte, lineV, ha, hg9, hw, hw2]
      by_cases hbnd : bound < size + fsz x.f
      ·have c5 : (bound : Int) < ((size + fsz x.f : Nat) : Int) := by omega
       have hg4 := R4.get
       simp only [hbnd, ↓reduceIte] at htgt2
       simp only [go_sem, ↓reduceIte, D4.get, c5, hg4]
       have nr4 : ¬ FootD d t lv2 h.size := by
        rintro (h1 | h1)
        ·omega
        ·rcases F12 _ h1 with h3 | h3
         ·have := D.foot_lt (.inr h3); omega
         ·omega
       refine hJ 0 _ _ (by omega) ⟨lv2, z2, s'.L, s'.limit, a', 22, ls ++ [x], size + fsz x.f, ov', _, rfl, D4.one ((One.refl h.size h4).set _) nr4, R4.put 22, ?_, n4', by simp; omega, (fun h => by cases h), K14.set (.inr (Nat.le_refl _)) _, F12, .inr ⟨by omega, rfl, htgt2.symm⟩⟩
       exact S4.keep ((One.refl h.size h4).set _).keep fun y n E hx hy => by have := n4 y n E hx; omega
      ·have c5 : ¬ (bound : Int) < ((size + fsz x.f : Nat) : Int) := by omega
       simp only [hbnd, ↓reduceIte] at htgt2
       simp only [go_sem, ↓reduceIte, D4.get, c5]
       refine hJ (l.length - a' + 1) _ _ (by omega) ⟨lv2, z2, s'.L, s'.limit, a', 0, ls ++ [x], size + fsz x.f, ov', _, rfl, D4, R4, S4, n4', by simp; omega, (fun _ => by have := A1 rfl; simp; omega), K14, F12, .inl ⟨rfl, by omega, rfl, ?_⟩⟩
       rw [hdr]; exact htgt2
   ·have e0 : ((e : Int) == 0) = false := by simp; omega
    by_cases hend : l.length ≤ a
    ·have c1 : ¬ (a : Int) < (l.length : Int) := by omega
     simp only [go_sem, ↓reduceIte, R1.get, c1]
     exact ⟨lv1, z1, e, a, size, ov, rfl, D1, rfl, hrl, K1, F1, rfl, he⟩
    ·have c1 : (a : Int) < (l.length : Int) := by omega
     simp only [go_sem, ↓reduceIte, R1.get, c1, e0]
     exact ⟨lv1, z1, e, a, size, ov, rfl, D1, rfl, hrl, K1, F1, rfl, he⟩
 ·rintro fr hh ⟨lv', z', e, a, size, ov, rfl, D1, hg, hlt, K1, F1, T1⟩
  have n1 : ¬ FootD d t lv' h.size := by
   rintro (h1 | h1)
   ·omega
   ·rcases F1 _ h1 with h2 | h2
    ·have := D.foot_lt (.inr h2); omega
    ·omega
  have ndr : ¬ d = h.size := by omega
  have nrd : ¬ h.size = d := by omega
  cases ht2 : tgt.2 with
  | error e' =>
   rw [ht2] at T1
   obtain ⟨rfl, he⟩ := T1
   have e1 : ((e : Int) != 0) = true := by simp; omega
   simp only [go_sem, ↓reduceIte, hg, e1, D1.get]
   refine MC.dregion ?_
   simp only [go_sem, ↓reduceIte, hg, e1, D1.get, ndr, nrd]
   rw [hdec]
   obtain ⟨s9, r9⟩ := tgt
   simp only at ht2 D1
   subst ht2
   exact ⟨K1.set (.inl (.inl rfl)) _, lv', z', D1.die, fun c hc => (F1 c hc).imp id (by omega), rfl, he⟩
  | ok l' =>
   rw [ht2] at T1
   obtain ⟨rfl, hls, hnn⟩ := T1
   have e1 : ((((0 : Nat) : Int)) != 0) = false := rfl
   simp only [go_sem, ↓reduceIte, hg, e1]
   rw [hdec]
   obtain ⟨s9, r9⟩ := tgt
   simp only at ht2 D1
   subst ht2
   exact ⟨K1, lv', z', D1, fun c hc => (F1 c hc).imp id (by omega), ov, rfl, hls.lo_le (by omega), hnn⟩
end Go.E1

/-
 Layer 7: new ones, copies, an empty block.
-/
namespace Go.E1
open Go Go.Proofs Go.M
set_option linter.unusedSimpArgs false

/-- Bytes that may be read, out of a decoder's way. -/
structure Blks (h : LHeap) (v : Value) (l : Bytes) (S : Nat → Prop) : Prop where
 at' : (l = [] ∧ v = .slice none 0 0) ∨ ∃ b o, v = .slice (some ⟨b, o, none⟩) l.length 1 ∧ Blk h b o l ∧ ¬ S b

theorem sDynNew {h : LHeap} {most : Nat} (hm : most ≤ 65536) :
  LCalls EC 44 [.int .i64 most] h fun u h' => u = .tuple #[.pointer (some ⟨h.size, 0, none⟩), .int .i64 0] ∧ h' = h.push (.cells [.slice none 0 0, .int .i64 0, .int .i64 0, .int .i64 most] true true) := by
 refine LCalls.enter (lf := lf44) rfl rfl (by simp [lf44]) ?_
 have e1 : (!(decide ((0 : Int) ≤ (most : Int)) && decide ((most : Int) ≤ 65536))) = false := by simp; omega
 simp only [go_sem, lf44, ↓reduceIte, e1]
theorem sNewD {h : LHeap} {most bound : Nat} (hm : most ≤ 65536) (hb : bound ≤ 16384) :
  LCalls EC 23 [.int .i64 most, .int .i64 bound] h fun u h' => u = .tuple #[.pointer (some ⟨h.size + 1, 0, none⟩), .int .i64 0] ∧ Dcr h' (h.size + 1) h.size (.slice none 0 0) [] [] most most bound false ∧ Ext h h' := by
 refine LCalls.enter (lf := lf23) rfl rfl (by simp [lf23]) ?_
 have e1 : ¬ (bound : Int) < 0 := by omega
 have e2 : ¬ (16384 : Int) < (bound : Int) := by omega
 simp only [go_sem, lf23, ↓reduceIte]
 refine MCall.by (sDynNew hm) ?_
 rintro u h2 ⟨rfl, rfl⟩
 simp only [go_sem, ↓reduceIte, e1, e2]
 refine ⟨⟨by simp, by simp, ⟨by simp; omega, by simp [tsz], .inl ⟨rfl, rfl⟩⟩, by omega, (fun ⟨n, E, h⟩ => by cases h), Nat.le_refl _, by simp [tsz], Nat.le_refl _, hm⟩, (Ext.push h _).trans (Ext.push _ _)⟩

theorem Tbl.ext {h h' : LHeap} {t : Nat} {lv : Value} {z L : List Fld} {sz limit : Int} (T : Tbl h t lv z L sz limit) (X : Ext h h') : Tbl h' t lv z L sz limit := by
 refine ⟨Nat.lt_of_lt_of_le T.lt X.size, by rw [X.get t T.lt]; exact T.get, ?_⟩
 rcases T.fs with h1 | ⟨b, h1, h2, h3, h4⟩
 ·exact .inl h1
 ·exact .inr ⟨b, h1, Nat.lt_of_lt_of_le h2 X.size, h3, by rw [X.get b h2]; exact h4⟩

/-! ### Fields -/
/-- Fields that were gathered. -/
def FL (h : LHeap) (v : Value) (l : List Fld) : Prop :=
 (l = [] ∧ v = .slice none 0 0) ∨ ∃ b, v = .slice (some ⟨b, 0, none⟩) l.length 2 ∧ b < h.size ∧ h.get b = some (.cells (fcells l) true true)
theorem LS.zero {h : LHeap} {lo : Nat} {v : Value} {l : List Ln} (s : LS h lo v l) : LS0 h v l := by
 rcases s with h1 | ⟨b, h1, h2, h3, h4⟩
 ·exact .inl h1
 ·exact .inr ⟨b, _, _, _, h1, h3, h4, rfl⟩
end Go.E1

/-
 Layer 7's statements: what comes in, and whether it may be gone through.
-/
namespace Go.E1
open Go Go.Proofs Go.M
set_option linter.unusedSimpArgs false

/-- Bytes that came in: they stay. -/
def BA (h : LHeap) (v : Value) (l : Bytes) : Prop := (l = [] ∧ v = .slice none 0 0) ∨ ∃ b o, v = .slice (some ⟨b, o, none⟩) l.length 1 ∧ Blk h b o l
def BL (h : LHeap) (v : Value) (ls : List Bytes) : Prop := (ls = [] ∧ v = .slice none 0 0) ∨ ∃ b vs t r, v = .slice (some ⟨b, 0, none⟩) ls.length 1 ∧ b < h.size ∧ h.get b = some (.cells vs t r) ∧ vs.length = ls.length ∧ ∀ (i : Nat) (u : Value) (l : Bytes), vs[i]? = some u → ls[i]? = some l → BA h u l

theorem BA.ext {h h' : LHeap} {v : Value} {l : Bytes} (a : BA h v l) (X : Ext h h') : BA h' v l := by
 rcases a with h1 | ⟨b, o, h1, B⟩
 ·exact .inl h1
 ·exact .inr ⟨b, o, h1, B.same X.size (X.get b B.lt)⟩
theorem BL.ext {h h' : LHeap} {v : Value} {ls : List Bytes} (a : BL h v ls) (X : Ext h h') : BL h' v ls := by
 rcases a with h1 | ⟨b, vs, t, r, h1, h2, h3, h4, h5⟩
 ·exact .inl h1
 ·exact .inr ⟨b, vs, t, r, h1, Nat.lt_of_lt_of_le h2 X.size, by rw [X.get b h2]; exact h3, h4, fun i u l a b => (h5 i u l a b).ext X⟩
theorem BA.len {q : EqF} {h hh : LHeap} {v : Value} {l : Bytes} (a : BA hh v l) : lexec q (.lenS v) h = some (.int .i64 l.length, h) := by
 rcases a with ⟨rfl, rfl⟩ | ⟨b, o, rfl, _⟩ <;> rfl
theorem BL.len {q : EqF} {h hh : LHeap} {v : Value} {l : List Bytes} (a : BL hh v l) : lexec q (.lenS v) h = some (.int .i64 l.length, h) := by
 rcases a with ⟨rfl, rfl⟩ | ⟨b, _, _, _, rfl, _⟩ <;> rfl
theorem cells_u8 : Tryz.prog.cellsOf 5 = 1 := by kernel_rfl
theorem LRd_bytes {h : LHeap} {n : Nat} {cs : List Value} (hl : LRd Tryz.prog h n 27 cs) : ∃ v l, cs = [v] ∧ BA h v l ∧ l.length ≤ reachBytes := by
 rcases LRd_slice Tryz.underlying27 hl with rfl | ⟨b, len, css, m, rfl, rfl, h1, h2, h3, h4, h5⟩
 ·exact ⟨_, [], rfl, .inl ⟨rfl, rfl⟩, by simp⟩
 ·rw [cells_u8] at h5 ⊢
  have key : ∀ (css : List (List Value)), (∀ c ∈ css, c.length = 1 ∧ LRd Tryz.prog h m 5 c) → ∃ l : Bytes, css.flatten = bv l ∧ l.length = css.length := by
   intro css
   induction css with
   | nil => intro _; exact ⟨[], rfl, rfl⟩
   | cons c css ih =>
    intro hc
    obtain ⟨l, h6, h7⟩ := ih fun x hx => hc x (List.mem_cons_of_mem _ hx)
    obtain ⟨i, rfl, hw⟩ := LRd_int Tryz.underlying5 (hc c (List.mem_cons_self ..)).2
    have hr : 0 ≤ i ∧ i ≤ 255 := by simpa [Lit.wf, IntKind.min, IntKind.max, IntKind.signed, IntKind.bits] using hw
    refine ⟨UInt8.ofNat i.toNat :: l, ?_, by simp [h7]⟩
    simp only [List.flatten_cons, h6, bv, List.map_cons, List.singleton_append, UInt8.toNat_ofNat']
    rw [show ((i.toNat % 2 ^ 8 : Nat) : Int) = i by omega]
  obtain ⟨l, h6, h7⟩ := key css h5
  refine ⟨_, l, rfl, .inr ⟨b, 0, by rw [h7, h3], ⟨h1, _, _, _, h2, ?_, ?_⟩⟩, by omega⟩
  ·rw [h6, bv_len]; omega
  ·rw [h6, List.drop_zero, ← bv_len l, List.take_length]

def sumB (ls : List Bytes) : Nat := (ls.map fun l => 5 + l.length).sum
end Go.E1

/-
 Layer 7: a decoder as the statements see it.
-/
namespace Go.E1
open Go Go.Proofs Go.M
set_option linter.unusedSimpArgs false

/-- A decoder, its state, and what blocks are its own. -/
structure DW (h : LHeap) (d : Nat) (s : Dec) (most bound : Nat) (F : Nat → Prop) : Prop where
 ex : ∃ t lv z, Dcr h d t lv z s.st.L s.st.limit most bound s.dead ∧ F = FootD d t lv

theorem DW.keep {h h' : LHeap} {d : Nat} {s : Dec} {most bound : Nat} {F G : Nat → Prop} (D : DW h d s most bound F) (K : Keep G h h') (hn : ∀ c, F c → ¬ G c) : DW h' d s most bound F := by
 obtain ⟨t, lv, z, D1, rfl⟩ := D.ex
 exact ⟨t, lv, z, D1.keepS K hn, rfl⟩
theorem DW.ext {h h' : LHeap} {d : Nat} {s : Dec} {most bound : Nat} {F : Nat → Prop} (D : DW h d s most bound F) (X : Ext h h') : DW h' d s most bound F :=
 D.keep (G := fun _ => False) (Keep.of_ext X) fun _ _ h => h
theorem DW.lt {h : LHeap} {d : Nat} {s : Dec} {most bound : Nat} {F : Nat → Prop} (D : DW h d s most bound F) {c : Nat} (hc : F c) : c < h.size := by
 obtain ⟨t, lv, z, D1, rfl⟩ := D.ex
 exact D1.foot_lt hc
theorem DW.sz {h : LHeap} {d : Nat} {s : Dec} {most bound : Nat} {F : Nat → Prop} (D : DW h d s most bound F) : tsz s.st.L ≤ s.st.limit ∧ s.st.limit ≤ most ∧ most ≤ 65536 := by
 obtain ⟨t, lv, z, D1, rfl⟩ := D.ex
 exact ⟨D1.sz, D1.lim, D1.mst⟩
theorem wNew {h : LHeap} {most bound : Nat} (hm : most ≤ 65536) (hb : bound ≤ 16384) :
  LCalls EC 23 [.int .i64 most, .int .i64 bound] h fun u h' => ∃ d F, u = .tuple #[.pointer (some ⟨d, 0, none⟩), .int .i64 0] ∧ DW h' d ⟨⟨[], most⟩, false⟩ most bound F ∧ Ext h h' ∧ (∀ c, F c → h.size ≤ c) :=
 (sNewD hm hb).mono fun u h' ⟨e, D, X⟩ => ⟨h.size + 1, _, e, ⟨⟨_, _, _, D, rfl⟩⟩, X, by
  rintro c (rfl | rfl | ⟨n, E, hx⟩)
  ·omega
  ·omega
  ·cases hx⟩

/-- Lines, or an error. -/
def Out7 (lo : Nat) (h : LHeap) (F : Nat → Prop) (res : Except Nat (List Ln)) (u : Value) : Prop :=
 ∃ ov e ls, u = .tuple #[ov, .int .i64 ((e : Nat) : Int)] ∧ LS h lo ov ls ∧ (∀ x n E, ov = .slice (some ⟨x, 0, none⟩) n E → ¬ F x) ∧ ((e = 0 ∧ res = .ok ls) ∨ (e ≠ 0 ∧ ls = [] ∧ res = .error e))

end Go.E1
