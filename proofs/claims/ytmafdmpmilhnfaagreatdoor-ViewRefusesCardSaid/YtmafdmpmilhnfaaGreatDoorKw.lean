/-
  Texts joined: RqA, RqB, RqC, RqZ.
-/
import Derived.Test.YtmafdmpmilhnfaaGreatDoorKn
import Derived.Test.YtmafdmpmilhnfaaGreatDoorKe
import Derived.Test.YtmafdmpmilhnfaaGreatDoorKt
/-
 Layer 22: may a request be, without its fields?
-/
namespace Go.E1
open Go Go.Proofs Go.M
set_option linter.unusedSimpArgs false

/-- The first byte that is so, or -1, of bytes that lie at a block's beginning. -/
theorem sIdxBytes {b : Nat} (l : List UInt8) (p : UInt8 → Bool) (g : FuncId) (cap : Array Value) {h : LHeap} (hpg : EC.prim g = none)
  (hb : ∃ t r, h.get b = some (.cells (l.map fun b => .int .u8 b.toNat) t r)) (hlt : b < h.size) (hcall : ∀ c ∈ l, ∀ h', Ext h h' → LCalls EC g (.int .u8 c.toNat :: cap.toList) h' fun v h'' => v = .bool (p c) ∧ Ext h' h'')
  (hlen : l.length < 4611686018427387904) : LCalls EC 180 [.slice (some ⟨b, 0, none⟩) l.length 1, .func (.func g) #[] cap] h fun v h' => (∃ k : Int, v = .int .i64 k ∧ decide (k ≥ 0) = l.any p) ∧ Ext h h' := by
 refine LCalls.enter (lf := lf180) rfl rfl (by simp [lf180]) ?_
 simp only [go_sem, lf180, ↓reduceIte]
 refine MC.loop (fun m fr hh => ∃ i tl, fr = (0, .slice (some ⟨b, 0, none⟩) l.length 1) :: (1, .func (.func g) #[] cap) :: (7, .int .i64 l.length) :: (8, .int .i64 (i : Nat)) :: tl ∧ i ≤ l.length ∧ m = l.length - i ∧ (∀ e ∈ l.take i, p e = false) ∧ Ext h hh) l.length
  ⟨0, [], rfl, Nat.zero_le _, rfl, by simp, Ext.refl _⟩ ?_
 rintro m fr hh J ⟨i, tl, rfl, hi, rfl, hno, hX⟩ hJ
 simp only [go_sem, ↓reduceIte]
 by_cases hlt' : i < l.length
 ·have d1 : (i : Int) < (l.length : Int) := by omega
  have d0 : (0 : Int) ≤ (i : Int) := by omega
  obtain ⟨t, r, hg⟩ := hb
  have hg' : hh.get b = some (.cells (l.map fun b => .int .u8 b.toNat) t r) := by rw [hX.get b hlt, hg]
  obtain ⟨c, hc⟩ : ∃ c, l[i]? = some c := ⟨l[i], by simp [hlt']⟩
  have hcc : (l.map fun b : UInt8 => Value.int .u8 b.toNat)[i]? = some (.int .u8 c.toNat) := by rw [List.getElem?_map, hc]; rfl
  have w1 : IntKind.i64.wrap ((i : Int) + 1) = ((i + 1 : Nat) : Int) := by rw [IntWalk.i64_in _ (by omega)]; omega
  simp only [go_sem, ↓reduceIte, d1, d0, hg', Int.toNat_natCast, Nat.mul_one, hcc, hpg]
  refine MCall.by (hcall c (List.mem_of_getElem? hc) hh hX) ?_
  rintro v h' ⟨rfl, hX'⟩
  cases hpe : p c
  ·simp only [go_sem, ↓reduceIte, w1]
   refine hJ _ _ _ (by omega) ⟨i + 1, _, rfl, by omega, rfl, ?_, hX.trans hX'⟩
   intro x hx
   rw [List.take_add_one, List.mem_append] at hx
   rcases hx with hx | hx
   ·exact hno x hx
   ·rw [hc] at hx
    simp only [Option.toList_some, List.mem_singleton] at hx
    rw [hx]; exact hpe
  ·simp only [go_sem, ↓reduceIte]
   refine ⟨⟨_, rfl, ?_⟩, hX.trans hX'⟩
   rw [List.any_eq_true.2 ⟨c, List.mem_of_getElem? hc, hpe⟩]
   exact decide_eq_true (by omega)
 ·have d1 : ¬ (i : Int) < (l.length : Int) := by omega
  simp only [go_sem, ↓reduceIte, d1]
  refine ⟨⟨_, rfl, ?_⟩, hX⟩
  rw [List.take_of_length_le (by omega)] at hno
  have : l.any p = false := List.any_eq_false.2 fun x hx => by rw [hno x hx]; decide
  rw [this]; rfl

def allB (p : UInt8 → Bool) (a : ByteArray) : Bool := decide (a.size ≤ 4096) && a.data.toList.all p
theorem u8_in (c : UInt8) : (0 : Int) ≤ (c.toNat : Int) ∧ (c.toNat : Int) < 256 := by have := c.toNat_lt; omega
theorem u8_in0 (c : UInt8) : (0 : Int) ≤ (c.toNat : Int) := by omega
theorem u8_in1 (c : UInt8) : (c.toNat : Int) < 256 := (u8_in c).2
theorem u8_back (c : UInt8) : c.toNat.toUInt8 = c := by simp
theorem sAll1m {hb : Nat} {h : LHeap} (hg : ∃ t r, h.get hb = some (.cells [.func (.func 116) #[] #[]] t r)) (c : UInt8) :
  LCalls EC 153 [.int .u8 c.toNat, .pointer (some ⟨hb, 0, none⟩)] h fun v h' => v = .bool (!methB c) ∧ Ext h h' := by
 refine LCalls.enter (lf := lf153) rfl rfl (by simp [lf153]) ?_
 obtain ⟨t, r, hg⟩ := hg
 simp only [go_sem, lf153, ↓reduceIte, hg, u8_in0, u8_in1, u8_back, Int.toNat_natCast, and_self]
 exact Ext.refl _

theorem sAll1p {hb : Nat} {h : LHeap} (hg : ∃ t r, h.get hb = some (.cells [.func (.func 118) #[] #[]] t r)) (c : UInt8) :
  LCalls EC 153 [.int .u8 c.toNat, .pointer (some ⟨hb, 0, none⟩)] h fun v h' => v = .bool (!plainC c) ∧ Ext h h' := by
 refine LCalls.enter (lf := lf153) rfl rfl (by simp [lf153]) ?_
 obtain ⟨t, r, hg⟩ := hg
 simp only [go_sem, lf153, ↓reduceIte, hg, u8_in0, u8_in1, u8_back, Int.toNat_natCast, and_self]
 exact Ext.refl _

theorem sAllB (a : ByteArray) (g : FuncId) (p : UInt8 → Bool) (hcall : ∀ (hb : Nat) (h : LHeap), (∃ t r, h.get hb = some (.cells [.func (.func g) #[] #[]] t r)) → ∀ c : UInt8, LCalls EC 153 [.int .u8 c.toNat, .pointer (some ⟨hb, 0, none⟩)] h fun v h' => v = .bool (!p c) ∧ Ext h h') {h : LHeap} :
  LCalls EC 115 [.string a, .func (.func g) #[] #[]] h fun v h' => v = .bool (allB p a) ∧ Ext h h' := by
 refine LCalls.enter (lf := lf115) rfl rfl (by simp [lf115]) ?_
 have hsz : a.data.toList.length = a.size := Array.length_toList
 unfold allB
 by_cases e1 : a.size ≤ 4096
 ·have d1 : (a.size : Int) ≤ 4096 := by omega
  simp only [go_sem, lf115, ↓reduceIte, d1, e1]
  generalize hh2 : ((h.push (LObj.cells [Value.func (Fn.func g) #[] #[]] true true)).push (LObj.cells (List.map (fun b => Value.int IntKind.u8 (b.toNat : Int)) a.data.toList) true true)) = h2
  have X2 : Ext h h2 := by rw [← hh2]; exact (Ext.push _ _).trans (Ext.push _ _)
  have g1 : h2.get (h.size + 1) = some (.cells (a.data.toList.map fun b => .int .u8 b.toNat) true true) := by rw [← hh2]; simp
  have g0 : h2.get h.size = some (.cells [.func (.func g) #[] #[]] true true) := by rw [← hh2]; simp [show h.size ≠ h.size + 1 by omega]
  have s2 : h2.size = h.size + 2 := by rw [← hh2]; simp
  refine MCall.by (R := fun v h' => v = .bool (a.data.toList.any fun c => !p c) ∧ Ext h2 h') ?_ ?_
  ·refine LCalls.enter (lf := lf152) rfl rfl (by simp [lf152]) ?_
   simp only [go_sem, lf152, ↓reduceIte]
   have := sIdxBytes (b := h.size + 1) a.data.toList (fun c => !p c) 153 #[.pointer (some ⟨h.size, 0, none⟩)] (h := h2) rfl ⟨true, true, g1⟩ (by omega) (fun c _ h' X => hcall _ _ ⟨true, true, by rw [X.get _ (by omega)]; exact g0⟩ c) (by omega)
   rw [hsz] at this
   refine MCall.by this ?_
   rintro v h3 ⟨⟨k, rfl, hk⟩, X3⟩
   simp only [go_sem, ↓reduceIte, hk]
   exact X3
  ·rintro v h3 ⟨rfl, X3⟩
   have e : (a.data.toList.any fun c => !p c) = !(a.data.toList.all p) := by
    rw [List.not_all_eq_any_not]
   rw [e]
   simp only [go_sem, ↓reduceIte, Bool.not_not]
   exact X2.trans X3
 ·have d1 : ¬ (a.size : Int) ≤ 4096 := by omega
  simp only [go_sem, lf115, ↓reduceIte, d1, e1]
  exact Ext.push _ _

theorem x_sub_hi {q : EqF} {h : LHeap} {l : Bytes} {j : Nat} {k : IntKind} (hj : j ≤ l.length) : lexec q (.sliceStr (.string (toBA l)) none (some (.int k (j : Nat)))) h = some (.string (toBA (l.take j)), h) := by
 have e : (toBA l).extract 0 j = toBA (l.take j) := by
  apply ByteArray.ext
  rw [ByteArray.data_extract]
  simp [toBA]
 simp only [lexec, lo1]
 simp [hj, e, toBA_size]
theorem sSlash (a : ByteArray) (h : LHeap) : LCalls EC 117 [.string a, .string ⟨#[47]⟩] h fun v h' => v = .bool (a.data.toList.head? == some 47) ∧ h' = h := by
 refine LCalls.enter (lf := lf117) rfl rfl (by simp [lf117]) ?_
 simp only [go_sem, lf117, ↓reduceIte]
 refine MCall.by (R := fun v h' => v = .bool (a.data.toList.head? == some 47) ∧ h' = h) ?_ ?_
 ·refine LCalls.enter (lf := lf154) rfl rfl (by simp [lf154]) ?_
  have hsz : a.data.toList.length = a.size := Array.length_toList
  cases hl : a.data.toList with
  | nil =>
   rw [hl] at hsz
   have d1 : ¬ (1 : Int) ≤ (a.size : Int) := by rw [← hsz]; decide
   simp only [go_sem, lf154, ↓reduceIte, d1]
   rfl
  | cons c l =>
   rw [hl] at hsz
   have hs1 : a.size = l.length + 1 := hsz.symm
   have d1 : (1 : Int) ≤ (a.size : Int) := by omega
   have hx : lexec EC.q (.sliceStr (.string a) none (some (.int .i64 1))) h = some (.string (toBA [c]), h) := by
    have := x_sub_hi (q := EC.q) (h := h) (l := a.data.toList) (j := 1) (k := .i64) (by rw [hl]; simp)
    rw [hl] at this
    have e : toBA (c :: l) = a := by rw [← hl]; rfl
    rw [e] at this
    simpa using this
   simp only [go_sem, lf154, ↓reduceIte, d1, hx]
   refine congrArg Value.bool ?_
   show ([c] == [47]) = (some c == some 47)
   by_cases h47 : c = 47
   ·subst h47; rfl
   ·have e1 : ([c] == ([47] : List UInt8)) = false := by simpa using h47
    have e2 : (some c == some (47 : UInt8)) = false := by simpa using h47
    rw [e1, e2]
 ·rintro v h1 ⟨rfl, rfl⟩
  simp only [go_sem, ↓reduceIte]

/-- At a guard, what holds behind the region. -/
theorem MG.cutr {E : Env} {x : Option Value} {w' : Bool} {d : Option Nat} {a : LAct} {r : List LOper} {ks : List Nat} {b : LCode} {k : Cont} {fr : Fr} {h : LHeap} {Q : Value → LHeap → Prop} (J : Fr → LHeap → Prop) (w : MG E x w' d a r ks (.inv J k) fr h Q) (hb : ∀ fr h, J fr h → MC E b k fr h Q) : MG E x w' d a r ks (.code b k) fr h Q :=
 w.cont (kont_cut hb)
def schemeB (s : ByteArray) : Bool := (s.data.toList == [104, 116, 116, 112]) || (s.data.toList == [104, 116, 116, 112, 115])
def rightB (m s p a : ByteArray) : Bool := ((((!(m.data.toList == []) && allB methB m) && schemeB s) && (p.data.toList.head? == some 47)) && allB plainC p) && allB plainC a
/-- A request as it comes. -/
def reqV (m s p a : ByteArray) (fv bv : Value) : Value := .agg #[.string m, .string s, .string p, .string a, fv, bv]
theorem sRight (m s p a : ByteArray) (fv bv : Value) {h : LHeap} : LCalls EC 84 [reqV m s p a fv bv] h fun v h' => v = .bool (rightB m s p a) ∧ Ext h h' := by
 refine LCalls.enter (lf := lf84) rfl rfl (by simp [lf84]) ?_
 unfold rightB reqV
 simp only [go_sem, lf84, ↓reduceIte]
 refine MG.cutr (fun fr hh => ∃ tl, fr = (1, .pointer (some ⟨h.size, 0, none⟩)) :: (3, .bool (schemeB s)) :: tl ∧ hh = h.push (.cells [.string m, .string s, .string p, .string a, fv, bv] true true)) ?_ ?_
 ·unfold schemeB
  cases h1 : (s.data.toList == [104, 116, 116, 112]) with
  | true =>
   simp only [go_sem, ↓reduceIte, h1, Bool.true_or]
   exact ⟨_, rfl⟩
  | false =>
   simp only [go_sem, ↓reduceIte, h1, Bool.false_or]
   exact ⟨_, rfl⟩
 ·rintro fr hh ⟨tl, rfl, e1⟩
  have X1 : Ext h hh := by rw [e1]; exact Ext.push _ _
  have g1 : hh.get h.size = some (.cells [.string m, .string s, .string p, .string a, fv, bv] true true) := by rw [e1]; simp
  have s1 : h.size < hh.size := by rw [e1]; simp
  clear e1
  cases hm : (m.data.toList == []) with
  | true =>
   simp only [go_sem, ↓reduceIte, g1, hm, Bool.not_true, Bool.false_and]
   exact X1
  | false =>
   simp only [go_sem, ↓reduceIte, g1, hm, Bool.not_false, Bool.true_and]
   refine MCall.by (sAllB m 116 methB (fun hb h hg c => sAll1m hg c)) ?_
   rintro v h2 ⟨rfl, X2⟩
   have g2 := (X2.get h.size s1).trans g1
   have s2 := Nat.lt_of_lt_of_le s1 X2.size
   have X12 := X1.trans X2
   cases hA : allB methB m with
   | false =>
    simp only [go_sem, ↓reduceIte, hA, Bool.false_and]
    exact X12
   | true =>
    cases hS : schemeB s with
    | false =>
     simp only [go_sem, ↓reduceIte, hA, hS, Bool.false_and, Bool.and_false, Bool.true_and]
     exact X12
    | true =>
     simp only [go_sem, ↓reduceIte, hA, hS, g2, Bool.true_and]
     refine MCall.by (sSlash p h2) ?_
     rintro v h3 ⟨rfl, rfl⟩
     cases hP : (p.data.toList.head? == some 47) with
     | false =>
      simp only [go_sem, ↓reduceIte, hP, Bool.false_and]
      exact X12
     | true =>
      simp only [go_sem, ↓reduceIte, hP, g2, Bool.true_and]
      refine MCall.by (sAllB p 118 plainC (fun hb h hg c => sAll1p hg c)) ?_
      rintro v h4 ⟨rfl, X4⟩
      have g4 := (X4.get h.size s2).trans g2
      cases hB : allB plainC p with
      | false =>
       simp only [go_sem, ↓reduceIte, hB, Bool.false_and]
       exact X12.trans X4
      | true =>
       simp only [go_sem, ↓reduceIte, hB, g4, Bool.true_and]
       refine MCall.by (sAllB a 118 plainC (fun hb h hg c => sAll1p hg c)) ?_
       rintro v h5 ⟨rfl, X5⟩
       simp only [go_sem, ↓reduceIte]
       exact (X12.trans X4).trans X5
end Go.E1

/-
 Layer 21: fields that may be sent, as lines.
-/
namespace Go.M
open Go.E1
/-- The first fault of some fields, or 0. -/
def errF : List Fld → Nat
 | [] => 0
 | f :: l => if wrongN f.1 f.2 ≠ 0 then wrongN f.1 f.2 else errF l
def lnOf (f : Fld) : Option Ln := if hopB f.1 f.2 then none else some ⟨f, sensB f.1⟩
def linesF (l : List Fld) : List Ln := l.filterMap lnOf
theorem errF_at : ∀ {l : List Fld} {i : Nat} {f : Fld}, l[i]? = some f → (∀ x ∈ l.take i, wrongN x.1 x.2 = 0) → wrongN f.1 f.2 ≠ 0 → errF l = wrongN f.1 f.2
 | [], _, _, h, _, _ => by simp at h
 | x :: l, 0, f, h, _, hw => by
  simp only [List.getElem?_cons_zero, Option.some.injEq] at h
  subst h
  simp [errF, hw]
 | x :: l, i + 1, f, h, hno, hw => by
  have h0 : wrongN x.1 x.2 = 0 := hno x (by simp)
  rw [errF, if_neg (by simp [h0])]
  exact errF_at (by simpa using h) (fun y hy => hno y (by simp [hy])) hw
theorem errF_zero : ∀ {l : List Fld}, (∀ x ∈ l, wrongN x.1 x.2 = 0) → errF l = 0
 | [], _ => rfl
 | x :: l, h => by
  rw [errF, if_neg (by simp [h x (by simp)])]
  exact errF_zero fun y hy => h y (by simp [hy])
theorem linesF_snoc (l : List Fld) (f : Fld) : linesF (l ++ [f]) = linesF l ++ (lnOf f).toList := by
 simp only [linesF, List.filterMap_append, List.filterMap_cons, List.filterMap_nil]
 cases lnOf f <;> rfl
theorem linesF_len (l : List Fld) : (linesF l).length ≤ l.length := List.length_filterMap_le _ _
end Go.M
namespace Go.E1
open Go Go.Proofs Go.M
set_option linter.unusedSimpArgs false

theorem lc_cel : Cel 3 lc := ⟨fun _ => rfl, fun _ => rfl, by omega⟩
def fc (f : Fld) : List Value := [.string f.1, .string f.2]
theorem fc_cel : Cel 2 fc := ⟨fun _ => rfl, fun _ => rfl, by omega⟩
/-- A list, wherever it stands. -/
def SL {α : Type} (k : Nat) (c : α → List Value) (h : LHeap) (v : Value) (l : List α) : Prop := (l = [] ∧ v = .slice none 0 0) ∨ ∃ b t r, v = .slice (some ⟨b, 0, none⟩) l.length k ∧ b < h.size ∧ h.get b = some (.cells (l.flatMap c) t r)
theorem GL.sl {α : Type} {k : Nat} {c : α → List Value} {h : LHeap} {v : Value} {l : List α} (g : GL k c h v l) : SL k c h v l := by
 rcases g with h1 | ⟨b, h1, h2, h3⟩
 ·exact .inl h1
 ·exact .inr ⟨b, true, true, h1, h2, h3⟩
theorem SL.len {α : Type} {k : Nat} {c : α → List Value} {q : EqF} {h hh : LHeap} {v : Value} {l : List α} (g : SL k c hh v l) : lexec q (.lenS v) h = some (.int .i64 l.length, h) := by
 rcases g with ⟨rfl, rfl⟩ | ⟨b, _, _, rfl, _⟩ <;> rfl
theorem SL.ext {α : Type} {k : Nat} {c : α → List Value} {h h' : LHeap} {v : Value} {l : List α} (g : SL k c h v l) (X : Ext h h') : SL k c h' v l := by
 rcases g with h1 | ⟨b, t, r, h1, h2, h3⟩
 ·exact .inl h1
 ·exact .inr ⟨b, t, r, h1, Nat.lt_of_lt_of_le h2 X.size, by rw [X.get b h2]; exact h3⟩
theorem SL.at {α : Type} {k : Nat} {c : α → List Value} {h : LHeap} {v : Value} {l : List α} (g : SL k c h v l) {i : Nat} {x : α} (hx : l[i]? = some x) : ∃ b t r, v = .slice (some ⟨b, 0, none⟩) l.length k ∧ b < h.size ∧ h.get b = some (.cells (l.flatMap c) t r) := by
 rcases g with ⟨rfl, _⟩ | h1
 ·simp at hx
 ·exact h1

theorem veqs_fc (a b : ByteArray) : veqs [Value.string a, Value.string b] [Value.string a, Value.string b] = true := by simp [veqs, veq]
theorem sFields {h : LHeap} {fv : Value} {l : List Fld} (F : SL 2 fc h fv l) (hl : l.length < 100000) (hs : ∀ f ∈ l, f.1.size < 4611686018427387904) :
  LCalls EC 85 [fv] h fun u h' => ∃ ov, u = .tuple #[ov, .int .i64 (errF l : Nat)] ∧ (if errF l = 0 then GL 3 lc h' ov (linesF l) ∧ (∀ b, blkOf ov = some b → h.size ≤ b) else ov = .slice none 0 0) ∧ Ext h h' := by
 refine LCalls.enter (lf := lf85) rfl rfl (by simp [lf85]) ?_
 have eL := fun hh => F.len (q := EC.q) (h := hh)
 simp only [go_sem, lf85, ↓reduceIte, eL]
 refine MC.cutb (fun fr hh => ∃ ov tl, fr = (4, ov) :: tl ∧ (∀ x ∈ l, wrongN x.1 x.2 = 0) ∧ GL 3 lc hh ov (linesF l) ∧ (∀ b, blkOf ov = some b → h.size ≤ b) ∧ Ext h hh) ?_ ?_
 ·refine MC.loop (fun m fr hh => ∃ i ov tl, m = l.length - i ∧ fr = (4, ov) :: (8, fv) :: (9, .int .i64 l.length) :: (10, .int .i64 (i : Nat)) :: tl ∧ i ≤ l.length ∧ (∀ x ∈ l.take i, wrongN x.1 x.2 = 0) ∧ GL 3 lc hh ov (linesF (l.take i)) ∧ (∀ b, blkOf ov = some b → h.size ≤ b) ∧ Ext h hh) l.length
   ⟨0, _, [], rfl, rfl, Nat.zero_le _, by simp, GL.nil, by simp, Ext.refl _⟩ ?_
  rintro m fr hh J ⟨i, ov, tl, rfl, rfl, hi, hno, G, hfr, X⟩ hJ
  by_cases hlt : i < l.length
  ·have d1 : (i : Int) < (l.length : Int) := by omega
   have d0 : (0 : Int) ≤ (i : Int) := by omega
   obtain ⟨f, hf⟩ : ∃ f, l[i]? = some f := ⟨l[i], by simp [hlt]⟩
   obtain ⟨b, t, r, rfl, hb, hg⟩ := F.at hf
   have hg' : hh.get b = some (.cells (l.flatMap fc) t r) := by rw [X.get b hb, hg]
   obtain ⟨k1, k2⟩ := fc_cel.get hf
   have k2' : i * 2 + 2 ≤ (l.flatMap fc).length := k2
   have w1 : IntKind.i64.wrap ((i : Int) + 1) = ((i + 1 : Nat) : Int) := by rw [IntWalk.i64_in _ (by omega)]; omega
   have hsz := hs f (List.mem_of_getElem? hf)
   simp only [fc] at k1
   have tk : l.take (i + 1) = l.take i ++ [f] := by rw [List.take_add_one, hf]; rfl
   simp only [go_sem, ↓reduceIte, d1, d0, Int.toNat_natCast, hg', k1, k2', hsz]
   have hX : ∀ {c c'}, Ext hh ((hh.push c).set hh.size c') := (Ext.push _ _).set (Nat.le_refl _) _
   by_cases hw : wrongN f.1 f.2 = 0
   ·have hno' : ∀ x ∈ l.take (i + 1), wrongN x.1 x.2 = 0 := by
     intro x hx
     rw [tk, List.mem_append] at hx
     rcases hx with hx | hx
     ·exact hno x hx
     ·rw [List.mem_singleton.1 hx]; exact hw
    cases hh2 : hopB f.1 f.2 with
    | true =>
     have hl2 : linesF (l.take (i + 1)) = linesF (l.take i) := by rw [tk, linesF_snoc]; simp [lnOf, hh2]
     simp only [go_sem, ↓reduceIte, hw, hh2, w1]
     exact hJ _ _ _ (by omega) ⟨i + 1, ov, _, rfl, rfl, by omega, hno', by rw [hl2]; exact G.ext hX, hfr, X.trans hX⟩
    | false =>
     have hl2 : linesF (l.take (i + 1)) = linesF (l.take i) ++ [⟨f, sensB f.1⟩] := by rw [tk, linesF_snoc]; simp [lnOf, hh2]
     have hll : (linesF (l.take i)).length ≤ i := Nat.le_trans (linesF_len _) (by rw [List.length_take]; omega)
     simp only [go_sem, ↓reduceIte, hw, hh2]
     generalize hh1 : (hh.push (LObj.cells [Value.string ⟨#[]⟩, Value.string ⟨#[]⟩] true true)).set hh.size (LObj.cells [Value.string f.1, Value.string f.2] true true) = h1
     have X1 : Ext hh h1 := by rw [← hh1]; exact hX
     have g1 : h1.get hh.size = some (.cells [.string f.1, .string f.2] true true) := by rw [← hh1]; simp
     have s1 : h1.size = hh.size + 1 := by rw [← hh1]; simp
     obtain ⟨ov', h2, ha, G2, sz, g2, n2⟩ := gl_append lc_cel (q := EC.q) (by' := 40) (G.ext X1) ⟨f, sensB f.1⟩ (by omega) (by omega)
     simp only [lc] at ha
     refine MC.dregion ?_
     simp only [go_sem, ↓reduceIte, g1, ha, w1, veqs_fc]
     have X2 : Ext h h2 := by
      refine ⟨by have := X.size; have := X1.size; omega, fun b hb => ?_⟩
      have := X.size
      rw [g2 b (by omega) (fun he => by have := hfr b he; omega), X1.get b (by omega), X.get b hb]
     refine hJ _ _ _ (by omega) ⟨i + 1, ov', _, rfl, rfl, by omega, hno', by rw [hl2]; exact G2, fun b hb => by have := n2 b hb; have := X.size; omega, X2⟩
   ·have q1 : ((wrongN f.1 f.2 : Int) != 0) = true := by simp; omega
    have he := errF_at hf hno hw
    simp only [go_sem, ↓reduceIte, q1]
    refine ⟨_, by rw [he], ?_, X.trans hX⟩
    rw [if_neg (by rw [he]; exact hw)]
  ·have d1 : ¬ (i : Int) < (l.length : Int) := by omega
   rw [List.take_of_length_le (by omega)] at hno G
   simp only [go_sem, ↓reduceIte, d1]
   exact ⟨_, _, rfl, hno, G, hfr, X⟩
 ·rintro fr hh ⟨ov, tl, rfl, hno, G, hfr, X⟩
  simp only [go_sem, ↓reduceIte]
  refine ⟨ov, ?_, ?_, X⟩
  ·rw [errF_zero hno]; rfl
  ·rw [if_pos (errF_zero hno)]; exact ⟨G, hfr⟩
end Go.E1

/-
 Layer 22: the lines of a request.
-/
namespace Go.M
open Go.E1
def headsL (m s p a : ByteArray) : List Ln := [⟨(⟨#[58, 109, 101, 116, 104, 111, 100]⟩, m), false⟩, ⟨(⟨#[58, 115, 99, 104, 101, 109, 101]⟩, s), false⟩, ⟨(⟨#[58, 112, 97, 116, 104]⟩, p), false⟩] ++ (if (a.data.toList == []) = true then [] else [⟨(⟨#[58, 97, 117, 116, 104, 111, 114, 105, 116, 121]⟩, a), false⟩])
def reqErr (m s p a : ByteArray) (l : List Fld) : Nat := if rightB m s p a then errF l else 31
end Go.M
namespace Go.E1
open Go Go.Proofs Go.M
set_option linter.unusedSimpArgs false

theorem gl_cat {α : Type} {k by' : Nat} {c : α → List Value} (C : Cel k c) {q : EqF} {hh : LHeap} {v w : Value} {l ys : List α} (g : GL k c hh v l) (hw : hh.firstCells k w = some (ys.length, ys.flatMap c)) (hn : l.length + ys.length < 1000000) (hb : by' ≤ 1000) :
  ∃ v' hh', lexec q (.append k by' v w) hh = some (v', hh') ∧ GL k c hh' v' (l ++ ys) ∧ hh.size ≤ hh'.size ∧ (∀ b, b < hh.size → blkOf v ≠ some b → hh'.get b = hh.get b) ∧ (∀ b, blkOf v' = some b → blkOf v = some b ∨ hh.size ≤ b) := by
 have hr : ∀ m, m ≤ 1000000 → roomOk m by' = true := fun m hm => by
  have : m * by' ≤ 1000000 * 1000 := Nat.mul_le_mul hm hb
  simp only [roomOk, Bool.and_eq_true, decide_eq_true_eq]
  omega
 by_cases h0 : ys.length = 0
 ·obtain rfl : ys = [] := List.length_eq_zero_iff.1 h0
  refine ⟨v, hh, ?_, by simpa using g, Nat.le_refl _, fun b _ _ => rfl, fun b hb => .inl hb⟩
  rcases g with ⟨rfl, rfl⟩ | ⟨b, rfl, h1, h2⟩
  ·exact x_append_zero (c := 0) hw
  ·have e1 : oneCells ([] : List Value) = true := rfl
   have e2 := hr (l.length + 0) (by simp at hn ⊢; omega)
   simp only [List.length_nil, List.flatMap_nil] at hw
   have e3 := C.flat_len l
   simp [lexec, hw, e1, e2, h2, e3]
   simpa using e2
 ·rcases g with ⟨rfl, rfl⟩ | ⟨b, rfl, h1, h2⟩
  ·refine ⟨_, _, x_append_none hw h0 (C.flat_one ys) (hr _ (by omega)), .inr ⟨hh.size, rfl, by simp, by simp⟩, by simp, fun b hb _ => by simp [show b ≠ hh.size by omega], fun b hb => .inr (by simp only [blkOf_some, Option.some.injEq] at hb; omega)⟩
  ·refine ⟨_, _, x_append_some hw h0 h2 (by rw [C.flat_len]; omega) (C.flat_one ys) (hr _ (by omega)), .inr ⟨hh.size, by rw [List.length_append], by simp, by simp⟩, by simp, fun i hi hne => by simp [show i ≠ hh.size by omega, show i ≠ b from fun h => hne (by rw [h]; rfl)], fun b hb => .inr (by simp only [blkOf_some, Option.some.injEq] at hb; omega)⟩


theorem GL.fst {α : Type} {k : Nat} {c : α → List Value} (C : Cel k c) {h : LHeap} {v : Value} {l : List α} (g : GL k c h v l) : h.firstCells k v = some (l.length, l.flatMap c) := by
 rcases g with ⟨rfl, rfl⟩ | ⟨b, rfl, h1, h2⟩
 ·rfl
 ·by_cases h0 : l.length = 0
  ·obtain rfl : l = [] := List.length_eq_zero_iff.1 h0
   simp [LHeap.firstCells]
  ·rw [first_some (cs := l.flatMap c) (t := true) (r := true) h2 (by rw [C.flat_len]; omega) h0, List.drop_zero, ← C.flat_len l, List.take_length]

theorem sHeads (m s p a : ByteArray) (fv bv : Value) {h : LHeap} : LCalls EC 86 [reqV m s p a fv bv] h fun v h' => GL 3 lc h' v (headsL m s p a) ∧ (∀ b, blkOf v = some b → h.size ≤ b) ∧ Ext h h' := by
 refine LCalls.enter (lf := lf86) rfl rfl (by simp [lf86]) ?_
 unfold reqV headsL
 have n1 : (h.size = h.size + 1) = False := by simp
 simp only [go_sem, lf86, ↓reduceIte, n1]
 generalize hq : (h.push (LObj.cells [Value.string m, Value.string s, Value.string p, Value.string a, fv, bv] true true)).push _ = h1
 have X1 : Ext h h1 := by rw [← hq]; exact (Ext.push _ _).trans (Ext.push _ _)
 have g0 : h1.get h.size = some (.cells [.string m, .string s, .string p, .string a, fv, bv] true true) := by rw [← hq]; simp [show h.size ≠ h.size + 1 by omega]
 have s1 : h1.size = h.size + 2 := by rw [← hq]; simp
 have G : GL 3 lc h1 (.slice (some ⟨h.size + 1, 0, none⟩) 3 3) [⟨(⟨#[58, 109, 101, 116, 104, 111, 100]⟩, m), false⟩, ⟨(⟨#[58, 115, 99, 104, 101, 109, 101]⟩, s), false⟩, ⟨(⟨#[58, 112, 97, 116, 104]⟩, p), false⟩] := by
  refine .inr ⟨h.size + 1, rfl, by omega, ?_⟩
  rw [← hq]
  simp [lc]
 cases ha : (a.data.toList == []) with
 | true =>
  simp only [go_sem, ↓reduceIte, ha, if_true, List.append_nil]
  exact ⟨G, fun b hb => by simp at hb; omega, X1⟩
 | false =>
  obtain ⟨v', h2, hap, G2, sz, g2, n2⟩ := gl_append lc_cel (q := EC.q) (by' := 40) G ⟨(⟨#[58, 97, 117, 116, 104, 111, 114, 105, 116, 121]⟩, a), false⟩ (by simp) (by omega)
  simp only [lc] at hap
  simp only [go_sem, ↓reduceIte, ha, g0, hap]
  refine ⟨G2, fun b hb => by have := n2 b hb; omega, ⟨by have := X1.size; omega, fun b hb => ?_⟩⟩
  rw [g2 b (by omega) (by simp; omega), X1.get b hb]

theorem headsL_len (m s p a : ByteArray) : (headsL m s p a).length ≤ 4 ∧ 3 ≤ (headsL m s p a).length := by
 unfold headsL
 split <;> simp

theorem sLines (m s p a : ByteArray) {fv : Value} (bv : Value) {l : List Fld} {h : LHeap} (F : SL 2 fc h fv l) (hl : l.length < 100000) (hs : ∀ f ∈ l, f.1.size < 4611686018427387904) :
  LCalls EC 61 [reqV m s p a fv bv] h fun u h' => ∃ ov, u = .tuple #[ov, .int .i64 (reqErr m s p a l : Nat)] ∧ (if reqErr m s p a l = 0 then GL 3 lc h' ov (headsL m s p a ++ linesF l) ∧ (∀ b, blkOf ov = some b → h.size ≤ b) else ov = .slice none 0 0) ∧ Ext h h' := by
 refine LCalls.enter (lf := lf61) rfl rfl (by simp [lf61]) ?_
 have er : ∀ hh : LHeap, reqV m s p a fv bv = .agg #[.string m, .string s, .string p, .string a, fv, bv] := fun _ => rfl
 unfold reqErr
 simp only [reqV, go_sem, lf61, ↓reduceIte]
 generalize hq : h.push (LObj.cells [Value.string m, Value.string s, Value.string p, Value.string a, fv, bv] true true) = h1
 have X1 : Ext h h1 := by rw [← hq]; exact Ext.push _ _
 have g1 : h1.get h.size = some (.cells [.string m, .string s, .string p, .string a, fv, bv] true true) := by rw [← hq]; simp
 have s1 : h1.size = h.size + 1 := by rw [← hq]; simp
 refine MCall.by (sRight m s p a fv bv) ?_
 rintro v h2 ⟨rfl, X2⟩
 have g2 := (X2.get h.size (by omega)).trans g1
 have X12 := X1.trans X2
 have s2 := X2.size
 cases hr : rightB m s p a with
 | false =>
  simp only [go_sem, ↓reduceIte]
  exact ⟨_, rfl, rfl, X12⟩
 | true =>
  simp only [go_sem, ↓reduceIte, g2]
  refine MCall.by (sFields (F.ext X12) hl hs) ?_
  rintro v h3 ⟨ov, rfl, ho, X3⟩
  have g3 := (X3.get h.size (by omega)).trans g2
  have X13 := X12.trans X3
  have s3 := X3.size
  by_cases he : errF l = 0
  ·rw [if_pos he] at ho
   have q0 : (((0 : Nat) : Int) != 0) = false := rfl
   simp only [go_sem, ↓reduceIte, he, q0, g3]
   refine MCall.by (sHeads m s p a fv bv) ?_
   rintro v h4 ⟨G4, f4, X4⟩
   have G3 := ho.1.ext X4
   have hc := G3.fst lc_cel
   have h45 := (headsL_len m s p a).1
   have hll := linesF_len l
   obtain ⟨v5, h5, ha, G5, s5, g5, n5⟩ := gl_cat lc_cel (q := EC.q) (by' := 40) G4 hc (by omega) (by omega)
   simp only [go_sem, ↓reduceIte, ha]
   have s4 := X4.size
   refine ⟨_, rfl, ⟨G5, fun b hb => ?_⟩, ⟨by have := X13.size; omega, fun b hb => ?_⟩⟩
   ·rcases n5 b hb with h6 | h6
    ·have := f4 b h6; omega
    ·omega
   ·rw [g5 b (by omega) (fun h6 => by have := f4 b h6; omega), X4.get b (by omega), X13.get b hb]
  ·rw [if_neg he] at ho
   subst ho
   have q1 : ((errF l : Int) != 0) = true := by simp; omega
   simp only [go_sem, ↓reduceIte, q1]
   exact ⟨_, rfl, by rw [if_neg he], X13⟩
end Go.E1

/-
 Joined by need.
-/
namespace Go.E1
open Go Go.Proofs Go.M
set_option linter.unusedSimpArgs false
def s5 (l : List Fld) : Nat := (l.map fun x => 5 + x.1.size + x.2.size).sum
theorem EC_q : EC.q = qOf qAll := by kernel_rfl
end Go.E1
namespace Go.M
open Go.E1
def fldsL (l : List Ln) : List Fld := l.map (·.f)
def ownBq (x : Ln) : Bool := x.f.1.data.toList.head? == some 58
def firstN {α : Type} (w : α → Nat) : List α → Nat
 | [] => 0
 | x :: l => if w x ≠ 0 then w x else firstN w l
def wLn (x : Ln) : Nat := if !nameB x.f.1 || hopB x.f.1 x.f.2 then 30 else wrongN x.f.1 x.f.2
theorem firstN_at {α : Type} {w : α → Nat} : ∀ {l : List α} {i : Nat} {f : α}, l[i]? = some f → (∀ x ∈ l.take i, w x = 0) → w f ≠ 0 → firstN w l = w f
 | [], _, _, h, _, _ => by simp at h
 | x :: l, 0, f, h, _, hw => by
  simp only [List.getElem?_cons_zero, Option.some.injEq] at h
  subst h
  simp [firstN, hw]
 | x :: l, i + 1, f, h, hno, hw => by
  have h0 : w x = 0 := hno x (by simp)
  rw [firstN, if_neg (by simp [h0])]
  exact firstN_at (by simpa using h) (fun y hy => hno y (by simp [hy])) hw
theorem firstN_zero {α : Type} {w : α → Nat} : ∀ {l : List α}, (∀ x ∈ l, w x = 0) → firstN w l = 0
 | [], _ => rfl
 | x :: l, h => by
  rw [firstN, if_neg (by simp [h x (by simp)])]
  exact firstN_zero fun y hy => h y (by simp [hy])
theorem firstN_all {α : Type} {w : α → Nat} : ∀ {l : List α}, firstN w l = 0 → ∀ x ∈ l, w x = 0
 | [], _, x, hx => by cases hx
 | y :: l, h, x, hx => by
  rw [firstN] at h
  split at h
  ·rename_i h1; exact absurd h h1
  ·rename_i h1
   rcases List.mem_cons.1 hx with rfl | hx
   ·omega
   ·exact firstN_all h x hx
theorem fldsL_len (l : List Ln) : (fldsL l).length = l.length := by simp [fldsL]
end Go.M
namespace Go.E1
open Go Go.Proofs Go.M
set_option linter.unusedSimpArgs false
/-- A list somewhere in a block. -/
def SA {α : Type} (k : Nat) (c : α → List Value) (h : LHeap) (v : Value) (l : List α) : Prop := (l = [] ∧ v = .slice none 0 0) ∨ ∃ b o cs t r, v = .slice (some ⟨b, o, none⟩) l.length k ∧ b < h.size ∧ h.get b = some (.cells cs t r) ∧ (cs.drop o).take (l.length * k) = l.flatMap c ∧ o + l.length * k ≤ cs.length
theorem SA.len {α : Type} {k : Nat} {c : α → List Value} {q : EqF} {h hh : LHeap} {v : Value} {l : List α} (g : SA k c hh v l) : lexec q (.lenS v) h = some (.int .i64 l.length, h) := by
 rcases g with ⟨rfl, rfl⟩ | ⟨b, _, _, _, _, rfl, _⟩ <;> rfl
theorem SA.ext {α : Type} {k : Nat} {c : α → List Value} {h h' : LHeap} {v : Value} {l : List α} (g : SA k c h v l) (X : Ext h h') : SA k c h' v l := by
 rcases g with h1 | ⟨b, o, cs, t, r, h1, h2, h3, h4⟩
 ·exact .inl h1
 ·exact .inr ⟨b, o, cs, t, r, h1, Nat.lt_of_lt_of_le h2 X.size, by rw [X.get b h2]; exact h3, h4⟩
theorem SA.at {α : Type} {k : Nat} {c : α → List Value} (C : Cel k c) {h : LHeap} {v : Value} {l : List α} (g : SA k c h v l) {i : Nat} {x : α} (hx : l[i]? = some x) :
  ∃ b o cs t r, v = .slice (some ⟨b, o, none⟩) l.length k ∧ b < h.size ∧ h.get b = some (.cells cs t r) ∧ (cs.drop (o + i * k)).take k = c x ∧ o + i * k + k ≤ cs.length := by
 rcases g with ⟨rfl, _⟩ | ⟨b, o, cs, t, r, h1, h2, h3, h4, h5⟩
 ·simp at hx
 ·have hi : i < l.length := by
   rcases Nat.lt_or_ge i l.length with q | q
   ·exact q
   ·simp [List.getElem?_eq_none q] at hx
  obtain ⟨k1, k2⟩ := C.get hx
  rw [C.flat_len] at k2
  refine ⟨b, o, cs, t, r, h1, h2, h3, ?_, by omega⟩
  rw [← k1, ← h4, List.drop_take, List.drop_drop, List.take_take, Nat.min_eq_left (by omega)]
/-- What is left behind the first ones. -/
theorem SA.tail {α : Type} {k : Nat} {c : α → List Value} (C : Cel k c) {h : LHeap} {b o n : Nat} {cs : List Value} {t r : Bool} {l : List α} (hn : n ≤ l.length) (h2 : b < h.size) (h3 : h.get b = some (.cells cs t r)) (h4 : (cs.drop o).take (l.length * k) = l.flatMap c) (h5 : o + l.length * k ≤ cs.length) :
  SA k c h (.slice (some ⟨b, o + n * k, none⟩) (l.length - n) k) (l.drop n) := by
 have e1 : n * k ≤ l.length * k := Nat.mul_le_mul_right _ hn
 have e2 : (l.length - n) * k = l.length * k - n * k := Nat.sub_mul ..
 refine .inr ⟨b, o + n * k, cs, t, r, by rw [List.length_drop], h2, h3, ?_, by rw [List.length_drop]; omega⟩
 have e3 : l.flatMap c = (l.take n).flatMap c ++ (l.drop n).flatMap c := by rw [← List.flatMap_append, List.take_append_drop]
 have e4 : ((l.take n).flatMap c).length = n * k := by rw [C.flat_len, List.length_take, Nat.min_eq_left hn]
 rw [List.length_drop, e2, ← List.drop_drop, ← List.drop_take, h4, e3, ← e4, List.drop_left]
theorem gl_append' {α : Type} {k by' : Nat} {c : α → List Value} (C : Cel k c) {q : EqF} {hh : LHeap} {v : Value} {l : List α} (g : GL k c hh v l) (x : α) (hr : roomOk (l.length + 1) by' = true) :
  ∃ v' hh', lexec q (.append k by' v (.slice (some ⟨hh.size, 0, none⟩) 1 k)) (hh.push (.cells (c x) true true)) = some (v', hh') ∧ GL k c hh' v' (l ++ [x]) ∧ hh.size ≤ hh'.size ∧
   (∀ b, b < hh.size → blkOf v ≠ some b → hh'.get b = hh.get b) ∧ (∀ b, blkOf v' = some b → hh.size ≤ b) := by
 have hf : (hh.push (.cells (c x) true true)).firstCells k (.slice (some ⟨hh.size, 0, none⟩) 1 k) = some (1, c x) := by
  rw [first_some (cs := c x) (t := true) (r := true) (by simp) (by rw [C.len]; omega) (by simp), List.drop_zero, Nat.one_mul]
  rw [← C.len x, List.take_length]
 rcases g with ⟨rfl, rfl⟩ | ⟨b, rfl, h3, h4⟩
 ·refine ⟨_, _, x_append_none hf (by simp) (C.one x) (by simpa using hr), .inr ⟨hh.size + 1, by simp, by simp, by simp⟩, by simp; omega, ?_, ?_⟩
  ·intro i hi _
   simp [show i ≠ hh.size + 1 by omega, show i ≠ hh.size by omega]
  ·intro b he
   simp only [LHeap.size_push, blkOf_some, Option.some.injEq] at he
   omega
 ·have hbn : b ≠ hh.size := by omega
  refine ⟨_, _, x_append_some (cs := l.flatMap c) (r := true) hf (by simp) (by simp [hbn, h4]) (by rw [C.flat_len]; omega) (C.one x) hr, .inr ⟨hh.size + 1, by simp, by simp, by simp⟩, by simp; omega, ?_, ?_⟩
  ·intro i hi hno
   have : i ≠ b := fun h => hno (by rw [h]; rfl)
   simp [show i ≠ hh.size + 1 by omega, show i ≠ hh.size by omega, this]
  ·intro b he
   simp only [LHeap.size_push, LHeap.size_set, blkOf_some, Option.some.injEq] at he
   omega
theorem room_fld {n : Nat} {l : List Ln} (hl : l.length * 40 ≤ reachBytes) (hn : n ≤ l.length) : roomOk n 32 = true := by
 have : reachBytes ≤ 140737488355328 := by decide
 simp only [roomOk, Bool.and_eq_true, decide_eq_true_eq]
 omega
theorem sDecFields {h : LHeap} {v : Value} {l : List Ln} (F : SA 3 lc h v l) (hl : l.length * 40 ≤ reachBytes) : LCalls EC 112 [v] h fun u h' => GL 2 fc h' u (fldsL l) ∧ (∀ b, blkOf u = some b → h.size ≤ b) ∧ Ext h h' := by
 refine LCalls.enter (lf := lf112) rfl rfl (by simp [lf112]) ?_
 have hrb : reachBytes ≤ 140737488355328 := by decide
 have eL := fun hh => F.len (q := EC.q) (h := hh)
 simp only [go_sem, lf112, ↓reduceIte, eL]
 refine MC.cutb (fun fr hh => ∃ ov tl, fr = (3, ov) :: tl ∧ GL 2 fc hh ov (fldsL l) ∧ (∀ b, blkOf ov = some b → h.size ≤ b) ∧ Ext h hh) ?_ ?_
 ·refine MC.loop (fun m fr hh => ∃ i ov tl, m = l.length - i ∧ fr = (3, ov) :: (6, v) :: (7, .int .i64 l.length) :: (8, .int .i64 (i : Nat)) :: tl ∧ i ≤ l.length ∧ GL 2 fc hh ov (fldsL (l.take i)) ∧ (∀ b, blkOf ov = some b → h.size ≤ b) ∧ Ext h hh) l.length
   ⟨0, _, [], rfl, rfl, Nat.zero_le _, GL.nil, by simp, Ext.refl _⟩ ?_
  rintro m fr hh J ⟨i, ov, tl, rfl, rfl, hi, G, hfr, X⟩ hJ
  by_cases hlt : i < l.length
  ·have d1 : (i : Int) < (l.length : Int) := by omega
   have d0 : (0 : Int) ≤ (i : Int) := by omega
   obtain ⟨x, hx⟩ : ∃ x, l[i]? = some x := ⟨l[i], by simp [hlt]⟩
   obtain ⟨b, o, cs, t, r, rfl, hb, hg, k1, k2⟩ := F.at lc_cel hx
   have hg' : hh.get b = some (.cells cs t r) := by rw [X.get b hb, hg]
   have w1 : IntKind.i64.wrap ((i : Int) + 1) = ((i + 1 : Nat) : Int) := by rw [IntWalk.i64_in _ (by omega)]; omega
   simp only [lc] at k1
   have tk : fldsL (l.take (i + 1)) = fldsL (l.take i) ++ [x.f] := by rw [List.take_add_one, hx]; simp [fldsL]
   have hX : ∀ {c c'}, Ext hh ((hh.push c).set hh.size c') := (Ext.push _ _).set (Nat.le_refl _) _
   obtain ⟨ov', h2, ha, G2, sz, g2, n2⟩ := gl_append' fc_cel (q := EC.q) (by' := 32) (G.ext (hX (c := LObj.cells [Value.string ⟨#[]⟩, Value.string ⟨#[]⟩, Value.bool false] true true) (c' := LObj.cells [Value.string x.f.1, Value.string x.f.2, Value.bool x.never] true true))) x.f
    (room_fld hl (by rw [fldsL_len, List.length_take]; omega))
   simp only [fc, LHeap.size_push, LHeap.size_set] at ha
   simp only [LHeap.size_push, LHeap.size_set] at sz g2 n2
   simp only [go_sem, ↓reduceIte, d1, d0, Int.toNat_natCast, hg', k1, k2, ha, w1]
   have X2 : Ext h h2 := by
    refine ⟨by have := X.size; omega, fun b hb => ?_⟩
    have := X.size
    rw [g2 b (by omega) (fun he => by have := hfr b he; omega), hX.get b (by omega), X.get b hb]
   refine hJ _ _ _ (by omega) ⟨i + 1, ov', _, rfl, rfl, by omega, by rw [tk]; exact G2, fun b hb => by have := n2 b hb; have := X.size; omega, X2⟩
  ·have d1 : ¬ (i : Int) < (l.length : Int) := by omega
   rw [List.take_of_length_le (by omega)] at G
   simp only [go_sem, ↓reduceIte, d1]
   exact ⟨_, _, rfl, G, hfr, X⟩
 ·rintro fr hh ⟨ov, tl, rfl, G, hfr, X⟩
  simp only [go_sem, ↓reduceIte]
  exact ⟨G, hfr, X⟩
theorem sCheck {h : LHeap} {v : Value} {l : List Ln} (F : SA 3 lc h v l) (hl : l.length < 1000000000000000) (hs : ∀ x ∈ l, x.f.1.size < 4611686018427387904) : LCalls EC 111 [v] h fun u h' => u = .int .i64 (firstN wLn l : Nat) ∧ Ext h h' := by
 refine LCalls.enter (lf := lf111) rfl rfl (by simp [lf111]) ?_
 have eL := fun hh => F.len (q := EC.q) (h := hh)
 simp only [go_sem, lf111, ↓reduceIte, eL]
 refine MC.cutb (fun fr hh => (∀ x ∈ l, wLn x = 0) ∧ Ext h hh) ?_ ?_
 ·refine MC.loop (fun m fr hh => ∃ i tl, m = l.length - i ∧ fr = (6, v) :: (7, .int .i64 l.length) :: (8, .int .i64 (i : Nat)) :: tl ∧ i ≤ l.length ∧ (∀ x ∈ l.take i, wLn x = 0) ∧ Ext h hh) l.length
   ⟨0, [], rfl, rfl, Nat.zero_le _, by simp, Ext.refl _⟩ ?_
  rintro m fr hh J ⟨i, tl, rfl, rfl, hi, hno, X⟩ hJ
  by_cases hlt : i < l.length
  ·have d1 : (i : Int) < (l.length : Int) := by omega
   have d0 : (0 : Int) ≤ (i : Int) := by omega
   obtain ⟨x, hx⟩ : ∃ x, l[i]? = some x := ⟨l[i], by simp [hlt]⟩
   obtain ⟨b, o, cs, t, r, rfl, hb, hg, k1, k2⟩ := F.at lc_cel hx
   have hg' : hh.get b = some (.cells cs t r) := by rw [X.get b hb, hg]
   have w1 : IntKind.i64.wrap ((i : Int) + 1) = ((i + 1 : Nat) : Int) := by rw [IntWalk.i64_in _ (by omega)]; omega
   have hsz := hs x (List.mem_of_getElem? hx)
   simp only [lc] at k1
   have hX : ∀ {c c'}, Ext hh ((hh.push c).set hh.size c') := (Ext.push _ _).set (Nat.le_refl _) _
   simp only [go_sem, ↓reduceIte, d1, d0, Int.toNat_natCast, hg', k1, k2, hsz]
   cases hn : nameB x.f.1 with
   | false =>
    have hw : wLn x = 30 := by simp [wLn, hn]
    have := firstN_at hx hno (by rw [hw]; decide)
    rw [hw] at this
    simp only [go_sem, ↓reduceIte, hn, this]
    exact X.trans hX
   | true =>
    cases hh2 : hopB x.f.1 x.f.2 with
    | true =>
     have hw : wLn x = 30 := by simp [wLn, hh2]
     have := firstN_at hx hno (by rw [hw]; decide)
     rw [hw] at this
     simp only [go_sem, ↓reduceIte, hn, hh2, this]
     exact X.trans hX
    | false =>
     have hw : wLn x = wrongN x.f.1 x.f.2 := by simp [wLn, hn, hh2]
     by_cases h0 : wrongN x.f.1 x.f.2 = 0
     ·have q0 : (((0 : Nat) : Int) != 0) = false := rfl
      simp only [go_sem, ↓reduceIte, hn, hh2, hsz, h0, q0, w1]
      refine hJ _ _ _ (by omega) ⟨i + 1, _, rfl, rfl, by omega, ?_, X.trans hX⟩
      intro y hy
      rw [List.take_add_one, hx, List.mem_append] at hy
      rcases hy with hy | hy
      ·exact hno y hy
      ·simp only [Option.toList_some, List.mem_singleton] at hy
       rw [hy, hw, h0]
     ·have q1 : ((wrongN x.f.1 x.f.2 : Int) != 0) = true := by simp; omega
      have := firstN_at hx hno (by rw [hw]; exact h0)
      rw [hw] at this
      simp only [go_sem, ↓reduceIte, hn, hh2, hsz, q1, this]
      exact X.trans hX
  ·have d1 : ¬ (i : Int) < (l.length : Int) := by omega
   rw [List.take_of_length_le (by omega)] at hno
   simp only [go_sem, ↓reduceIte, d1]
   exact ⟨hno, X⟩
 ·rintro fr hh ⟨hno, X⟩
  rw [firstN_zero hno]
  simp only [go_sem, ↓reduceIte]
  exact X
theorem sOwnR (x : Ln) (h : LHeap) : LCalls EC 150 [.agg #[.string x.f.1, .string x.f.2, .bool x.never]] h fun v h' => v = .bool (ownBq x) ∧ Ext h h' := by
 refine LCalls.enter (lf := lf150) rfl rfl (by simp [lf150]) ?_
 have hsz : x.f.1.data.toList.length = x.f.1.size := Array.length_toList
 unfold ownBq
 cases hL : x.f.1.data.toList with
 | nil =>
  have hb : (x.f.1.data.toList == []) = true := by rw [hL]; rfl
  have e : (([] : List UInt8).head? == some 58) = false := rfl
  simp only [go_sem, lf150, ↓reduceIte, hb, e]
  exact Ext.push _ _
 | cons c l =>
  have hb : (x.f.1.data.toList == []) = false := by rw [hL]; rfl
  have hc : x.f.1.data.toList[0]? = some c := by rw [hL]; rfl
  have hc' : x.f.1.data.toList[(0 : Int).toNat]? = some c := hc
  have d0 : (0 : Int) ≤ 0 := Int.le_refl _
  have hk : ((c.toNat : Int) == 58) = ((c :: l).head? == some (58 : UInt8)) := by
   simp only [List.head?_cons, Option.some_beq_some]
   by_cases h58 : c = 58
   ·subst h58; rfl
   ·have : ¬ c.toNat = 58 := fun e => h58 (UInt8.toNat_inj.1 e)
    rw [beq_eq_false_iff_ne.2 h58]
    simp; omega
  simp only [go_sem, lf150, ↓reduceIte, hb, d0, hc, hc', hk]
  exact Ext.push _ _
theorem sIdxLines {v : Value} {l : List Ln} {h : LHeap} (F : SA 3 lc h v l) (hl : l.length < 1000000000000000) :
  LCalls EC 178 [v, .func (.func 150) #[] #[]] h fun v h' => (∃ k : Int, v = .int .i64 k ∧ decide (k ≥ 0) = l.any ownBq) ∧ Ext h h' := by
 refine LCalls.enter (lf := lf178) rfl rfl (by simp [lf178]) ?_
 have eL := fun hh => F.len (q := EC.q) (h := hh)
 simp only [go_sem, lf178, ↓reduceIte, eL]
 refine MC.cutb (fun fr hh => l.any ownBq = false ∧ Ext h hh) ?_ ?_
 ·refine MC.loop (fun m fr hh => ∃ i tl, m = l.length - i ∧ fr = (0, v) :: (1, .func (.func 150) #[] #[]) :: (7, .int .i64 l.length) :: (8, .int .i64 (i : Nat)) :: tl ∧ i ≤ l.length ∧ (∀ e ∈ l.take i, ownBq e = false) ∧ Ext h hh) l.length
   ⟨0, [], rfl, rfl, Nat.zero_le _, by simp, Ext.refl _⟩ ?_
  rintro m fr hh J ⟨i, tl, rfl, rfl, hi, hno, X⟩ hJ
  by_cases hlt : i < l.length
  ·have d1 : (i : Int) < (l.length : Int) := by omega
   have d0 : (0 : Int) ≤ (i : Int) := by omega
   obtain ⟨x, hx⟩ : ∃ x, l[i]? = some x := ⟨l[i], by simp [hlt]⟩
   obtain ⟨b, o, cs, t, r, rfl, hb, hg, k1, k2⟩ := F.at lc_cel hx
   have hg' : hh.get b = some (.cells cs t r) := by rw [X.get b hb, hg]
   have w1 : IntKind.i64.wrap ((i : Int) + 1) = ((i + 1 : Nat) : Int) := by rw [IntWalk.i64_in _ (by omega)]; omega
   simp only [lc] at k1
   simp only [go_sem, ↓reduceIte, d1, d0, Int.toNat_natCast, hg', k1, k2]
   refine MCall.by (sOwnR x hh) ?_
   rintro v h' ⟨rfl, X'⟩
   cases hpe : ownBq x with
   | false =>
    simp only [go_sem, ↓reduceIte, w1]
    refine hJ _ _ _ (by omega) ⟨i + 1, _, rfl, rfl, by omega, ?_, X.trans X'⟩
    intro y hy
    rw [List.take_add_one, hx, List.mem_append] at hy
    rcases hy with hy | hy
    ·exact hno y hy
    ·simp only [Option.toList_some, List.mem_singleton] at hy
     rw [hy]; exact hpe
   | true =>
    simp only [go_sem, ↓reduceIte]
    refine ⟨⟨_, rfl, ?_⟩, X.trans X'⟩
    rw [List.any_eq_true.2 ⟨x, List.mem_of_getElem? hx, hpe⟩]
    exact decide_eq_true (by omega)
  ·have d1 : ¬ (i : Int) < (l.length : Int) := by omega
   rw [List.take_of_length_le (by omega)] at hno
   simp only [go_sem, ↓reduceIte, d1]
   exact ⟨List.any_eq_false.2 fun x hx => by rw [hno x hx]; decide, X⟩
 ·rintro fr hh ⟨hno, X⟩
  rw [hno]
  simp only [go_sem, ↓reduceIte]
  exact ⟨⟨_, rfl, rfl⟩, X⟩
theorem sAnyOwn {v : Value} {l : List Ln} {h : LHeap} (F : SA 3 lc h v l) (hl : l.length < 1000000000000000) :
  LCalls EC 149 [v, .func (.func 150) #[] #[]] h fun v h' => v = .bool (l.any ownBq) ∧ Ext h h' := by
 refine LCalls.enter (lf := lf149) rfl rfl (by simp [lf149]) ?_
 simp only [go_sem, lf149, ↓reduceIte]
 refine MCall.by (sIdxLines F hl) ?_
 rintro v h3 ⟨⟨k, rfl, hk⟩, X3⟩
 simp only [go_sem, ↓reduceIte, hk]
 exact X3
end Go.E1
namespace Go.M
open Go.E1
def nMeth : List UInt8 := [58, 109, 101, 116, 104, 111, 100]
def nSchm : List UInt8 := [58, 115, 99, 104, 101, 109, 101]
def nPath : List UInt8 := [58, 112, 97, 116, 104]
def nAuth : List UInt8 := [58, 97, 117, 116, 104, 111, 114, 105, 116, 121]
def hdA : List Ln → ByteArray × Nat
 | [] => (⟨#[]⟩, 0)
 | w :: _ => if (w.f.1.data.toList == nAuth) && !(w.f.2.data.toList == []) then (w.f.2, 1) else (⟨#[]⟩, 0)
theorem hdA_le (t : List Ln) : (hdA t).2 ≤ t.length := by
 cases t with
 | nil => exact Nat.le_refl _
 | cons w t => unfold hdA; dsimp only; split <;> simp
def hdT : List Ln → Option (ByteArray × ByteArray × ByteArray × ByteArray × Nat)
 | x :: y :: z :: t => if ((x.f.1.data.toList == nMeth) && (y.f.1.data.toList == nSchm) && (z.f.1.data.toList == nPath)) && !((t.drop (hdA t).2).any ownBq) then some (x.f.2, y.f.2, z.f.2, (hdA t).1, 3 + (hdA t).2) else none
 | _ => none
end Go.M
namespace Go.E1
open Go Go.Proofs Go.M
set_option linter.unusedSimpArgs false
def rcs (i : Nat) (x y z : ByteArray) : List Value := [.string (if 0 < i then x else ⟨#[]⟩), .string (if 1 < i then y else ⟨#[]⟩), .string (if 2 < i then z else ⟨#[]⟩), .string ⟨#[]⟩, .slice none 0 0, .slice none 0 0]
def zreq : List Value := [.string ⟨#[]⟩, .string ⟨#[]⟩, .string ⟨#[]⟩, .string ⟨#[]⟩, .slice none 0 0, .slice none 0 0]
theorem rcs0 (x y z : ByteArray) : rcs 0 x y z = [.string ⟨#[]⟩, .string ⟨#[]⟩, .string ⟨#[]⟩, .string ⟨#[]⟩, .slice none 0 0, .slice none 0 0] := rfl
theorem rcs1 (x y z : ByteArray) : rcs 1 x y z = [.string x, .string ⟨#[]⟩, .string ⟨#[]⟩, .string ⟨#[]⟩, .slice none 0 0, .slice none 0 0] := rfl
theorem rcs2 (x y z : ByteArray) : rcs 2 x y z = [.string x, .string y, .string ⟨#[]⟩, .string ⟨#[]⟩, .slice none 0 0, .slice none 0 0] := rfl
theorem rcs3 (x y z : ByteArray) : rcs 3 x y z = [.string x, .string y, .string z, .string ⟨#[]⟩, .slice none 0 0, .slice none 0 0] := rfl
theorem veqs_req (m s p a : ByteArray) : veqs [Value.string m, Value.string s, Value.string p, Value.string a, Value.slice none 0 0, Value.slice none 0 0] [Value.string m, Value.string s, Value.string p, Value.string a, Value.slice none 0 0, Value.slice none 0 0] = true := by simp [veqs, veq]
theorem sHeading {h : LHeap} {v : Value} {l : List Ln} (F : SL 3 lc h v l) (hl : l.length < 1000000000000000) :
  LCalls EC 110 [v] h fun u h' => ∃ m s p a n ok, u = .tuple #[reqV m s p a (.slice none 0 0) (.slice none 0 0), .int .i64 (n : Nat), .bool ok] ∧ (ok = true → hdT l = some (m, s, p, a, n) ∧ n ≤ l.length) ∧ (ok = false → hdT l = none) ∧ Ext h h' := by
 refine LCalls.enter (lf := lf110) rfl rfl (by simp [lf110]) ?_
 have eL := fun hh => F.len (q := EC.q) (h := hh)
 have n1 : (h.size = h.size + 1) = False := by simp
 by_cases h3 : l.length < 3
 ·have k0 : (l.length : Int) < 3 := by omega
  have hT : hdT l = none := by
   match l, h3 with
   | [], _ => rfl
   | [_], _ => rfl
   | [_, _], _ => rfl
  simp only [go_sem, lf110, ↓reduceIte, eL, k0, n1]
  exact ⟨⟨#[]⟩, ⟨#[]⟩, ⟨#[]⟩, ⟨#[]⟩, 0, false, rfl, fun e => (by cases e), fun _ => hT, ((Ext.push _ _).trans (Ext.push _ _)).set (Nat.le_refl _) _⟩
 have k0 : ¬ (l.length : Int) < 3 := by omega
 obtain ⟨x, y, z, t, rfl⟩ : ∃ x y z t, l = x :: y :: z :: t := by
  match l, h3 with
  | [], h3 => exact absurd (by decide) h3
  | [_], h3 => exact absurd (by simp) h3
  | [_, _], h3 => exact absurd (by simp) h3
  | x :: y :: z :: t, _ => exact ⟨x, y, z, t, rfl⟩
 ·rcases F with ⟨h0, _⟩ | ⟨b, t1, r1, rfl, hb, hg⟩
  ·cases h0
  generalize hcs : (x :: y :: z :: t).flatMap lc = cs at hg
  have hc0 : cs[0]? = some (.string x.f.1) := by rw [← hcs]; rfl
  have hc1 : cs[1]? = some (.string x.f.2) := by rw [← hcs]; rfl
  have hc3 : cs[3]? = some (.string y.f.1) := by rw [← hcs]; rfl
  have hc4 : cs[4]? = some (.string y.f.2) := by rw [← hcs]; rfl
  have hc6 : cs[6]? = some (.string z.f.1) := by rw [← hcs]; rfl
  have hc7 : cs[7]? = some (.string z.f.2) := by rw [← hcs]; rfl
  have k0 : ¬ ((t.length + 1 + 1 + 1 : Nat) : Int) < 3 := by omega
  simp only [go_sem, lf110, ↓reduceIte, eL, k0, n1]
  refine MC.cutb (fun fr hh => ∃ tl, fr = (0, .slice (some ⟨b, 0, none⟩) (x :: y :: z :: t).length 3) :: (2, .pointer (some ⟨h.size, 0, none⟩)) :: (5, .pointer (some ⟨h.size + 1, 0, none⟩)) :: tl ∧ Ext h hh ∧ h.size + 1 < hh.size ∧ hh.get h.size = some (.cells zreq true true) ∧ hh.get (h.size + 1) = some (.cells (rcs 3 x.f.2 y.f.2 z.f.2) true true) ∧ ((x.f.1.data.toList == nMeth) = true ∧ (y.f.1.data.toList == nSchm) = true ∧ (z.f.1.data.toList == nPath) = true)) ?_ ?_
  ·refine MC.loop (fun m fr hh => ∃ i tl, m = 3 - i ∧ i ≤ 3 ∧ fr = (0, .slice (some ⟨b, 0, none⟩) (x :: y :: z :: t).length 3) :: (2, .pointer (some ⟨h.size, 0, none⟩)) :: (5, .pointer (some ⟨h.size + 1, 0, none⟩)) :: (19, .slice (some ⟨h.size + 2, 0, none⟩) 3 2) :: (20, .int .i64 3) :: (21, .int .i64 (i : Nat)) :: tl ∧ Ext h hh ∧ h.size + 2 < hh.size ∧ hh.get h.size = some (.cells zreq true true) ∧ hh.get (h.size + 1) = some (.cells (rcs i x.f.2 y.f.2 z.f.2) true true) ∧
     hh.get (h.size + 2) = some (.cells [.string ⟨#[58, 109, 101, 116, 104, 111, 100]⟩, .pointer (some ⟨h.size + 1, 0, none⟩), .string ⟨#[58, 115, 99, 104, 101, 109, 101]⟩, .pointer (some ⟨h.size + 1, 1, none⟩), .string ⟨#[58, 112, 97, 116, 104]⟩, .pointer (some ⟨h.size + 1, 2, none⟩)] true true) ∧
     ((0 < i → (x.f.1.data.toList == nMeth) = true) ∧ (1 < i → (y.f.1.data.toList == nSchm) = true) ∧ (2 < i → (z.f.1.data.toList == nPath) = true))) 3 ?_ ?_
   ·refine ⟨0, [], rfl, by omega, rfl, ((Ext.push _ _).trans (Ext.push _ _)).trans (Ext.push _ _), by simp, ?_, ?_, ?_, fun h => (by cases h), fun h => (by cases h), fun h => (by cases h)⟩
    ·simp [zreq, show h.size ≠ h.size + 1 + 1 by omega]
    ·simp [rcs]
    ·simp
   rintro m fr hh J ⟨i, tl, rfl, hi, rfl, X, s1, g1, g2, g3, e1, e2, e3⟩ hJ
   have gb : hh.get b = some (.cells cs t1 r1) := by rw [X.get b hb, hg]
   have hX : ∀ {c c'}, Ext hh ((hh.push c).set hh.size c') := (Ext.push _ _).set (Nat.le_refl _) _
   have nb : (b = hh.size) = False := by have := X.size; simp; omega
   have m0 : (h.size = hh.size) = False := by simp; omega
   have m1 : (h.size + 1 = hh.size) = False := by simp; omega
   have m2 : (h.size + 2 = hh.size) = False := by simp; omega
   have nb1 : (b = h.size + 1) = False := by simp; omega
   rcases (by omega : i = 0 ∨ i = 1 ∨ i = 2 ∨ i = 3) with rfl | rfl | rfl | rfl
   ·have a0 : (0 : Int) ≤ 0 := by decide
    have a1 : (0 : Int) < 3 := by decide
    have a2 : (0 : Int) < ((t.length + 1 + 1 + 1 : Nat) : Int) := by omega
    have a3 : (0 : Int).toNat = 0 := rfl
    have a4 : IntKind.i64.wrap ((0 : Int) + 1) = 1 := by decide
    have a5 : IntKind.i64.wrap 1 = 1 := by decide
    have c0 : ((0 : Nat) : Int) = 0 := rfl
    rw [rcs0] at g2
    simp only [go_sem, ↓reduceIte, c0, a0, a1, a3, g3, List.drop_zero, List.drop_succ_cons, List.take_succ_cons, List.take_zero, Nat.zero_mul, Nat.zero_add, Nat.one_mul]
    generalize hq : (LHeap.set (LHeap.push hh _) hh.size _) = h2
    have Xq : Ext hh h2 := by rw [← hq]; exact hX
    have sq : h2.size = hh.size + 1 := by rw [← hq]; simp
    have gq : h2.get hh.size = some (.cells [.string ⟨#[58, 109, 101, 116, 104, 111, 100]⟩, .pointer (some ⟨h.size + 1, 0, none⟩)] true true) := by rw [← hq]; simp
    have gb' := (Xq.get b (by omega)).trans gb
    have g1' := (Xq.get h.size (by omega)).trans g1
    unfold zreq at g1'
    have g2' := (Xq.get (h.size + 1) (by omega)).trans g2
    have g3' := (Xq.get (h.size + 2) (by omega)).trans g3
    clear hq
    refine MC.dregion ?_
    cases hN : (x.f.1.data.toList == nMeth) with
    | false =>
     unfold nMeth at hN
     have hT : hdT (x :: y :: z :: t) = none := by simp only [hdT, nMeth, nSchm, nPath, hN, Bool.false_and, Bool.and_false]; rfl
     simp only [go_sem, ↓reduceIte, c0, a0, a2, a3, gb', gq, hc0, hc1, hc3, hc4, hc6, hc7, hN, g2', g1']
     exact ⟨_, _, _, _, 0, false, rfl, fun e => (by cases e), fun _ => hT, (X.trans Xq).set (Nat.le_refl _) _⟩
    | true =>
     have hN' := hN
     unfold nMeth at hN
     simp only [go_sem, ↓reduceIte, c0, a0, a2, a3, gb', gq, hc0, hc1, hc3, hc4, hc6, hc7, hN]
     refine MC.dregion ?_
     simp only [go_sem, ↓reduceIte, c0, a0, a2, a3, gb', gq, hc0, hc1, hc3, hc4, hc6, hc7, g2', a4, a5]
     refine hJ _ _ _ (by omega) ⟨1, _, rfl, by omega, rfl, (X.trans Xq).set (by omega) _, by simp; omega, ?_, ?_, ?_, ?_⟩
     ·simp [g1', zreq]
     ·simp [rcs]
     ·simp [g3']
     ·exact ⟨fun _ => hN', fun h => absurd h (by omega), fun h => absurd h (by omega)⟩
   ·have a0 : (0 : Int) ≤ 1 := by decide
    have a1 : (1 : Int) < 3 := by decide
    have a2 : (1 : Int) < ((t.length + 1 + 1 + 1 : Nat) : Int) := by omega
    have a3 : (1 : Int).toNat = 1 := rfl
    have a4 : IntKind.i64.wrap ((1 : Int) + 1) = 2 := by decide
    have a5 : IntKind.i64.wrap 2 = 2 := by decide
    have c0 : ((1 : Nat) : Int) = 1 := rfl
    rw [rcs1] at g2
    simp only [go_sem, ↓reduceIte, c0, a0, a1, a3, g3, List.drop_zero, List.drop_succ_cons, List.take_succ_cons, List.take_zero, Nat.zero_mul, Nat.zero_add, Nat.one_mul]
    generalize hq : (LHeap.set (LHeap.push hh _) hh.size _) = h2
    have Xq : Ext hh h2 := by rw [← hq]; exact hX
    have sq : h2.size = hh.size + 1 := by rw [← hq]; simp
    have gq : h2.get hh.size = some (.cells [.string ⟨#[58, 115, 99, 104, 101, 109, 101]⟩, .pointer (some ⟨h.size + 1, 1, none⟩)] true true) := by rw [← hq]; simp
    have gb' := (Xq.get b (by omega)).trans gb
    have g1' := (Xq.get h.size (by omega)).trans g1
    unfold zreq at g1'
    have g2' := (Xq.get (h.size + 1) (by omega)).trans g2
    have g3' := (Xq.get (h.size + 2) (by omega)).trans g3
    clear hq
    refine MC.dregion ?_
    cases hN : (y.f.1.data.toList == nSchm) with
    | false =>
     unfold nSchm at hN
     have hT : hdT (x :: y :: z :: t) = none := by simp only [hdT, nMeth, nSchm, nPath, hN, Bool.false_and, Bool.and_false]; rfl
     simp only [go_sem, ↓reduceIte, c0, a0, a2, a3, gb', gq, hc0, hc1, hc3, hc4, hc6, hc7, hN, g2', g1']
     exact ⟨_, _, _, _, 0, false, rfl, fun e => (by cases e), fun _ => hT, (X.trans Xq).set (Nat.le_refl _) _⟩
    | true =>
     have hN' := hN
     unfold nSchm at hN
     simp only [go_sem, ↓reduceIte, c0, a0, a2, a3, gb', gq, hc0, hc1, hc3, hc4, hc6, hc7, hN]
     refine MC.dregion ?_
     simp only [go_sem, ↓reduceIte, c0, a0, a2, a3, gb', gq, hc0, hc1, hc3, hc4, hc6, hc7, g2', a4, a5]
     refine hJ _ _ _ (by omega) ⟨2, _, rfl, by omega, rfl, (X.trans Xq).set (by omega) _, by simp; omega, ?_, ?_, ?_, ?_⟩
     ·simp [g1', zreq]
     ·simp [rcs]
     ·simp [g3']
     ·exact ⟨fun _ => e1 (by omega), fun _ => hN', fun h => absurd h (by omega)⟩
   ·have a0 : (0 : Int) ≤ 2 := by decide
    have a1 : (2 : Int) < 3 := by decide
    have a2 : (2 : Int) < ((t.length + 1 + 1 + 1 : Nat) : Int) := by omega
    have a3 : (2 : Int).toNat = 2 := rfl
    have a4 : IntKind.i64.wrap ((2 : Int) + 1) = 3 := by decide
    have a5 : IntKind.i64.wrap 3 = 3 := by decide
    have c0 : ((2 : Nat) : Int) = 2 := rfl
    rw [rcs2] at g2
    simp only [go_sem, ↓reduceIte, c0, a0, a1, a3, g3, List.drop_zero, List.drop_succ_cons, List.take_succ_cons, List.take_zero, Nat.zero_mul, Nat.zero_add, Nat.one_mul]
    generalize hq : (LHeap.set (LHeap.push hh _) hh.size _) = h2
    have Xq : Ext hh h2 := by rw [← hq]; exact hX
    have sq : h2.size = hh.size + 1 := by rw [← hq]; simp
    have gq : h2.get hh.size = some (.cells [.string ⟨#[58, 112, 97, 116, 104]⟩, .pointer (some ⟨h.size + 1, 2, none⟩)] true true) := by rw [← hq]; simp
    have gb' := (Xq.get b (by omega)).trans gb
    have g1' := (Xq.get h.size (by omega)).trans g1
    unfold zreq at g1'
    have g2' := (Xq.get (h.size + 1) (by omega)).trans g2
    have g3' := (Xq.get (h.size + 2) (by omega)).trans g3
    clear hq
    refine MC.dregion ?_
    cases hN : (z.f.1.data.toList == nPath) with
    | false =>
     unfold nPath at hN
     have hT : hdT (x :: y :: z :: t) = none := by simp only [hdT, nMeth, nSchm, nPath, hN, Bool.false_and, Bool.and_false]; rfl
     simp only [go_sem, ↓reduceIte, c0, a0, a2, a3, gb', gq, hc0, hc1, hc3, hc4, hc6, hc7, hN, g2', g1']
     exact ⟨_, _, _, _, 0, false, rfl, fun e => (by cases e), fun _ => hT, (X.trans Xq).set (Nat.le_refl _) _⟩
    | true =>
     have hN' := hN
     unfold nPath at hN
     simp only [go_sem, ↓reduceIte, c0, a0, a2, a3, gb', gq, hc0, hc1, hc3, hc4, hc6, hc7, hN]
     refine MC.dregion ?_
     simp only [go_sem, ↓reduceIte, c0, a0, a2, a3, gb', gq, hc0, hc1, hc3, hc4, hc6, hc7, g2', a4, a5]
     refine hJ _ _ _ (by omega) ⟨3, _, rfl, by omega, rfl, (X.trans Xq).set (by omega) _, by simp; omega, ?_, ?_, ?_, ?_⟩
     ·simp [g1', zreq]
     ·simp [rcs]
     ·simp [g3']
     ·exact ⟨fun _ => e1 (by omega), fun _ => e2 (by omega), fun _ => hN'⟩
   ·have a1 : ¬ (3 : Int) < 3 := by decide
    have c0 : ((3 : Nat) : Int) = 3 := rfl
    simp only [go_sem, ↓reduceIte, c0, a1]
    exact ⟨_, rfl, X, by omega, g1, g2, e1 (by omega), e2 (by omega), e3 (by omega)⟩
  ·rintro fr hh ⟨tl, rfl, X, s1, g1, g2, e1, e2, e3⟩
   rw [rcs3] at g2
   unfold zreq at g1
   have gb : hh.get b = some (.cells cs t1 r1) := by rw [X.get b hb, hg]
   rw [MC_seq]
   refine MC.cut (fun fr hc => ∃ tl, fr = (0, .slice (some ⟨b, 0, none⟩) (x :: y :: z :: t).length 3) :: (2, .pointer (some ⟨h.size, 0, none⟩)) :: (5, .pointer (some ⟨h.size + 1, 0, none⟩)) :: (8, .int .i64 3) :: tl ∧ hc = hh) ?_ ?_
   ·simp only [go_sem, ↓reduceIte]
    exact ⟨_, rfl⟩
   rintro fr hc ⟨tl, rfl, ec⟩
   rw [ec]
   clear ec hc
   rw [MC_seq]
   refine MC.cut (fun fr hc => ∃ tl, fr = (0, .slice (some ⟨b, 0, none⟩) (x :: y :: z :: t).length 3) :: (2, .pointer (some ⟨h.size, 0, none⟩)) :: (5, .pointer (some ⟨h.size + 1, 0, none⟩)) :: (8, .int .i64 ((3 + (hdA t).2 : Nat) : Int)) :: tl ∧ Ext h hc ∧ h.size + 1 < hc.size ∧ hc.get h.size = some (.cells [.string ⟨#[]⟩, .string ⟨#[]⟩, .string ⟨#[]⟩, .string ⟨#[]⟩, .slice none 0 0, .slice none 0 0] true true) ∧ hc.get (h.size + 1) = some (.cells [.string x.f.2, .string y.f.2, .string z.f.2, .string (hdA t).1, .slice none 0 0, .slice none 0 0] true true)) ?_ ?_
   ·cases t with
    | nil =>
     have k1 : ¬ ((3 : Int) < 3) := by decide
     have k2 : ¬ ((3 : Int) > 3) := by decide
     have k3 : ((0 + 1 + 1 + 1 : Nat) : Int) = 3 := rfl
     have k4 : ((3 : Nat) : Int) = 3 := rfl
     simp only [go_sem, ↓reduceIte, k3, k4, k1, k2, List.length_nil]
     exact ⟨_, rfl, X, s1, g1, g2⟩
    | cons w t' =>
     have k1 : ((3 : Int) < ((t'.length + 1 + 1 + 1 + 1 : Nat) : Int)) := by omega
     have k2 : (((t'.length + 1 + 1 + 1 + 1 : Nat) : Int) > 3) := by omega
     have a0 : (0 : Int) ≤ 3 := by decide
     have a3 : (3 : Int).toNat = 3 := rfl
     have hc9 : cs[9]? = some (.string w.f.1) := by rw [← hcs]; rfl
     have hc10 : cs[10]? = some (.string w.f.2) := by rw [← hcs]; rfl
     cases hN : (w.f.1.data.toList == nAuth) with
     | false =>
      have hA : hdA (w :: t') = (⟨#[]⟩, 0) := by simp only [hdA, hN, Bool.false_and]; rfl
      unfold nAuth at hN
      rw [hA]
      simp only [go_sem, ↓reduceIte, k1, k2, a0, a3, gb, hc9, hc10, hN]
      exact ⟨_, rfl, X, s1, g1, g2⟩
     | true =>
      cases hV : (w.f.2.data.toList == []) with
      | true =>
       have hA : hdA (w :: t') = (⟨#[]⟩, 0) := by simp only [hdA, hN, hV, Bool.not_true, Bool.and_false]; rfl
       unfold nAuth at hN
       rw [hA]
       simp only [go_sem, ↓reduceIte, k1, k2, a0, a3, gb, hc9, hc10, hN, hV]
       exact ⟨_, rfl, X, s1, g1, g2⟩
      | false =>
       have hA : hdA (w :: t') = (w.f.2, 1) := by simp only [hdA, hN, hV, Bool.not_false, Bool.and_true]; rfl
       unfold nAuth at hN
       have a4 : IntKind.i64.wrap ((3 : Int) + 1) = 4 := by decide
       have a5 : IntKind.i64.wrap 4 = 4 := by decide
       rw [hA]
       simp only [go_sem, ↓reduceIte, k1, k2, a0, a3, gb, hc9, hc10, hN, hV, g2, a4, a5]
       refine ⟨_, rfl, X.set (by omega) _, by simpa using s1, ?_⟩
       simp [g1]
   ·rintro fr hc ⟨tl, rfl, Xc, sc, g1, g2⟩
    have gb : hc.get b = some (.cells cs t1 r1) := by rw [Xc.get b hb, hg]
    have hk := hdA_le t
    have hlen : (x :: y :: z :: t).length = t.length + 1 + 1 + 1 := rfl
    have hsl : ∀ hh : LHeap, lexec EC.q (.slice 3 (.slice (some ⟨b, 0, none⟩) (t.length + 1 + 1 + 1) 3) (some (.int .i64 ((3 + (hdA t).2 : Nat) : Int))) none none) hh = some (.slice (some ⟨b, 0 + (3 + (hdA t).2) * 3, none⟩) (t.length + 1 + 1 + 1 - (3 + (hdA t).2)) 3, hh) := fun hh => x_slice_lo (q := EC.q) (h := hh) (e := 3) (b := b) (o := 0) (n := t.length + 1 + 1 + 1) (i := 3 + (hdA t).2) (k := .i64) (by omega)
    have F' := SA.tail (c := lc) lc_cel (b := b) (o := 0) (n := 3 + (hdA t).2) (cs := cs) (t := t1) (r := r1) (h := hc) (l := x :: y :: z :: t) (by omega) (by have := Xc.size; omega) gb (by rw [← hcs, List.drop_zero, ← lc_cel.flat_len, List.take_length]) (by rw [← hcs, lc_cel.flat_len]; omega)
    have hd : (x :: y :: z :: t).drop (3 + (hdA t).2) = t.drop (hdA t).2 := by rw [Nat.add_comm]; rfl
    rw [hd, hlen, Nat.zero_add] at F'
    have hT : hdT (x :: y :: z :: t) = if !((t.drop (hdA t).2).any ownBq) then some (x.f.2, y.f.2, z.f.2, (hdA t).1, 3 + (hdA t).2) else none := by simp only [hdT, e1, e2, e3, Bool.and_self, Bool.true_and]
    simp only [go_sem, ↓reduceIte]
    refine MC.dregion ?_
    simp only [go_sem, ↓reduceIte, g2, hsl]
    refine MDCall.by (sAnyOwn F' (by rw [List.length_drop]; simp only [List.length_cons] at hl; omega)) ?_
    rintro u h5 ⟨rfl, X5⟩
    have g1' := (X5.get h.size (by omega)).trans g1
    have g2' := (X5.get (h.size + 1) (by omega)).trans g2
    have X5' := Xc.trans X5
    simp only [go_sem, ↓reduceIte, g1', g2', veqs_req]
    cases hO : (t.drop (hdA t).2).any ownBq with
    | true =>
     rw [hO] at hT
     simp only [go_sem, ↓reduceIte, g1', g2', veqs_req]
     exact ⟨_, _, _, _, _, false, rfl, fun e => (by cases e), fun _ => hT, X5'.set (Nat.le_refl _) _⟩
    | false =>
     rw [hO] at hT
     simp only [go_sem, ↓reduceIte, g1', g2', veqs_req]
     exact ⟨_, _, _, _, _, true, rfl, fun _ => ⟨hT, by omega⟩, fun e => (by cases e), X5'.set (Nat.le_refl _) _⟩
end Go.E1
namespace Go.M
open Go.E1
def lnEqB (x y : Ln) : Bool := (x.f.1.data.toList == y.f.1.data.toList) && ((x.f.2.data.toList == y.f.2.data.toList) && ((x.never == y.never) && true))
theorem ba_eq {a b : ByteArray} (h : a.data.toList = b.data.toList) : a = b := by
 apply ByteArray.ext
 exact Array.toList_inj.1 h
theorem lnEqB_iff (x y : Ln) : lnEqB x y = true ↔ x = y := by
 unfold lnEqB
 simp only [Bool.and_eq_true, beq_iff_eq, and_true]
 constructor
 ·rintro ⟨h1, h2, h3⟩
  obtain ⟨⟨a, b⟩, n⟩ := x
  obtain ⟨⟨c, d⟩, m⟩ := y
  simp only at h1 h2 h3
  rw [ba_eq h1, ba_eq h2, h3]
 ·rintro rfl; exact ⟨rfl, rfl, rfl⟩
open Classical in
noncomputable def backE (l : List Ln) : Nat := match hdT l with
 | none => 32
 | some (m, s, p, a, n) => if rightB m s p a = false then 31 else if firstN wLn (l.drop n) ≠ 0 then firstN wLn (l.drop n) else if headsL m s p a ++ linesF (fldsL (l.drop n)) = l then 0 else 32
theorem errF_of_first {l : List Ln} (h : firstN wLn l = 0) : errF (fldsL l) = 0 := by
 refine errF_zero fun f hf => ?_
 obtain ⟨x, hx, rfl⟩ := List.mem_map.1 hf
 have := firstN_all h x hx
 unfold wLn at this
 split at this
 ·cases this
 ·exact this
end Go.M
namespace Go.E1
open Go Go.Proofs Go.M
set_option linter.unusedSimpArgs false
theorem q_line2 (x y : Ln) : EC.q 220 (.agg #[.string x.f.1, .string x.f.2, .bool x.never]) (.agg #[.string y.f.1, .string y.f.2, .bool y.never]) = some (lnEqB x y) := by
 have e : qAll.lookup 220 = some [.str, .str, .bool] := rfl
 rw [EC_q]
 simp only [qOf, e, cellsEq, leafEq, lnEqB]
theorem sEqLines {h : LHeap} {v w : Value} {l k : List Ln} (A : SL 3 lc h v l) (B : SL 3 lc h w k) (hl : l.length < 1000000000000000) :
  LCalls EC 113 [v, w] h fun u h' => (∃ r : Bool, u = .bool r ∧ (r = true ↔ l = k)) ∧ Ext h h' := by
 refine LCalls.enter (lf := lf113) rfl rfl (by simp [lf113]) ?_
 have eA := fun hh => A.len (q := EC.q) (h := hh)
 have eB := fun hh => B.len (q := EC.q) (h := hh)
 by_cases hne : l.length = k.length
 rotate_left
 ·have q0 : ((l.length : Int) != (k.length : Int)) = true := by simp; omega
  simp only [go_sem, lf113, ↓reduceIte, eA, eB, q0]
  exact ⟨⟨false, rfl, fun h => (by cases h), fun h => absurd (congrArg List.length h) hne⟩, Ext.refl _⟩
 have q0 : ((l.length : Int) != (k.length : Int)) = false := by simp; omega
 simp only [go_sem, lf113, ↓reduceIte, eA, eB, q0]
 refine MC.cutb (fun fr hh => l = k ∧ Ext h hh) ?_ ?_
 ·refine MC.loop (fun m fr hh => ∃ i tl, m = l.length - i ∧ fr = (0, v) :: (1, w) :: (12, .int .i64 l.length) :: (13, .int .i64 (i : Nat)) :: tl ∧ i ≤ l.length ∧ l.take i = k.take i ∧ Ext h hh) l.length ⟨0, [], rfl, rfl, Nat.zero_le _, rfl, Ext.refl _⟩ ?_
  rintro m fr hh J ⟨i, tl, rfl, rfl, hi, hsame, X⟩ hJ
  by_cases hlt : i < l.length
  ·have d3 : (i : Int) < (l.length : Int) := by omega
   have d3' : (i : Int) < (k.length : Int) := by omega
   have d4 : (0 : Int) ≤ (i : Int) := by omega
   have w1 : IntKind.i64.wrap ((i : Int) + 1) = ((i + 1 : Nat) : Int) := by rw [IntWalk.i64_in _ (by omega)]; omega
   obtain ⟨x, hx⟩ : ∃ x, l[i]? = some x := ⟨l[i], by simp [hlt]⟩
   obtain ⟨y, hy⟩ : ∃ y, k[i]? = some y := ⟨k[i], by simp [show i < k.length by omega]⟩
   obtain ⟨b1, t1, r1, rfl, hb1, hg1⟩ := A.at hx
   obtain ⟨b2, t2, r2, rfl, hb2, hg2⟩ := B.at hy
   obtain ⟨k1, k2⟩ := lc_cel.get hx
   obtain ⟨m1, m2⟩ := lc_cel.get hy
   have g1 : hh.get b1 = some (.cells (l.flatMap lc) t1 r1) := by rw [X.get b1 hb1, hg1]
   have g2 : hh.get b2 = some (.cells (k.flatMap lc) t2 r2) := by rw [X.get b2 hb2, hg2]
   simp only [lc] at k1 m1
   have hq := q_line2 x y
   simp only [go_sem, ↓reduceIte, d3]
   refine MC.dregion ?_
   cases hE : lnEqB x y with
   | true =>
    rw [hE] at hq
    have := (lnEqB_iff x y).1 hE
    simp only [go_sem, ↓reduceIte, d3, d3', d4, Int.toNat_natCast, g1, g2, k1, k2, m1, m2, hq, w1]
    exact hJ _ _ _ (by omega) ⟨i + 1, _, rfl, rfl, by omega, by rw [List.take_add_one, List.take_add_one, hsame, hx, hy, this], X⟩
   | false =>
    rw [hE] at hq
    simp only [go_sem, ↓reduceIte, d3, d3', d4, Int.toNat_natCast, g1, g2, k1, k2, m1, m2, hq, w1]
    refine ⟨⟨false, rfl, fun h => (by cases h), fun h => ?_⟩, X⟩
    subst h
    rw [hx] at hy
    cases hy
    rw [(lnEqB_iff x x).2 rfl] at hE
    cases hE
  ·have d3 : ¬ (i : Int) < (l.length : Int) := by omega
   rw [List.take_of_length_le (by omega), List.take_of_length_le (by omega)] at hsame
   simp only [go_sem, ↓reduceIte, d3]
   exact ⟨hsame, X⟩
 ·rintro fr hh ⟨hs, X⟩
  simp only [go_sem, ↓reduceIte]
  exact ⟨⟨true, rfl, fun _ => hs, fun _ => rfl⟩, X⟩
theorem sBack {h : LHeap} {v : Value} {l : List Ln} (F : SL 3 lc h v l) (hl : l.length < 100000) (hs : ∀ x ∈ l, x.f.1.size < 4611686018427387904) :
  LCalls EC 78 [v] h fun u h' => ∃ m s p a fv, u = .tuple #[reqV m s p a fv (.slice none 0 0), .int .i64 (backE l : Nat)] ∧ Ext h h' ∧ (∃ a0 n0 e0, fv = .slice a0 n0 e0) ∧ (backE l = 0 → ∃ n, hdT l = some (m, s, p, a, n) ∧ GL 2 fc h' fv (fldsL (l.drop n))) := by
 refine LCalls.enter (lf := lf78) rfl rfl (by simp [lf78]) ?_
 have eL := fun hh => F.len (q := EC.q) (h := hh)
 simp only [go_sem, lf78, ↓reduceIte]
 generalize hq : h.push (LObj.cells _ true true) = h1
 have X1 : Ext h h1 := by rw [← hq]; exact Ext.push _ _
 have g1 : h1.get h.size = some (.cells [.string ⟨#[]⟩, .string ⟨#[]⟩, .string ⟨#[]⟩, .string ⟨#[]⟩, .slice none 0 0, .slice none 0 0] true true) := by rw [← hq]; simp
 have s1 : h1.size = h.size + 1 := by rw [← hq]; simp
 clear hq
 refine MCall.by (sHeading (F.ext X1) (by omega)) ?_
 rintro u h2 ⟨m, s, p, a, n, ok, rfl, hok, hno, X2⟩
 have g2 := (X2.get h.size (by omega)).trans g1
 have s2 := X2.size
 have X12 := X1.trans X2
 have er : reqV m s p a (.slice none 0 0) (.slice none 0 0) = .agg #[.string m, .string s, .string p, .string a, .slice none 0 0, .slice none 0 0] := rfl
 have n1 : (h.size = h2.size) = False := by simp; omega
 have done : ∀ {hh : LHeap} {cs : LObj}, Ext h hh → Ext h (hh.set h.size cs) := fun X => X.set (Nat.le_refl _) _
 cases ok with
 | false =>
  have hT := hno rfl
  have e : backE l = 32 := by unfold backE; rw [hT]
  simp only [go_sem, ↓reduceIte, er, g2, n1]
  exact ⟨⟨#[]⟩, ⟨#[]⟩, ⟨#[]⟩, ⟨#[]⟩, .slice none 0 0, by rw [e]; rfl, done (X12.trans ((Ext.push _ _).set (Nat.le_refl _) _)), ⟨_, _, _, rfl⟩, fun h0 => by rw [e] at h0; cases h0⟩
 | true =>
  obtain ⟨hT, hn⟩ := hok rfl
  simp only [go_sem, ↓reduceIte, er, g2, n1]
  generalize hq : (LHeap.set (LHeap.push h2 _) h2.size _) = h3
  have X3 : Ext h2 h3 := by rw [← hq]; exact (Ext.push _ _).set (Nat.le_refl _) _
  have s3 : h3.size = h2.size + 1 := by rw [← hq]; simp
  have g3 := (X3.get h.size (by omega)).trans g2
  have r3 : h3.get h2.size = some (.cells [.string m, .string s, .string p, .string a, .slice none 0 0, .slice none 0 0] true true) := by rw [← hq]; simp
  clear hq
  have X13 := X12.trans X3
  refine MCall.by (sRight m s p a (.slice none 0 0) (.slice none 0 0)) ?_
  rintro u h4 ⟨rfl, X4⟩
  have g4 := (X4.get h.size (by omega)).trans g3
  have r4 := (X4.get h2.size (by omega)).trans r3
  have s4 := X4.size
  have X14 := X13.trans X4
  cases hr : rightB m s p a with
  | false =>
   have e : backE l = 31 := by unfold backE; rw [hT]; simp only [hr, if_true]
   simp only [go_sem, ↓reduceIte, g4]
   exact ⟨⟨#[]⟩, ⟨#[]⟩, ⟨#[]⟩, ⟨#[]⟩, .slice none 0 0, by rw [e]; rfl, done X14, ⟨_, _, _, rfl⟩, fun h0 => by rw [e] at h0; cases h0⟩
  | true =>
   obtain ⟨w, hsl, hSA⟩ : ∃ w, (∀ hh : LHeap, lexec EC.q (.slice 3 v (some (.int .i64 (n : Nat))) none none) hh = some (w, hh)) ∧ ∀ hh, Ext h hh → SA 3 lc hh w (l.drop n) := by
    rcases F with ⟨rfl, _⟩ | ⟨b, t1, r1, rfl, hb, hg⟩
    ·cases hT
    ·refine ⟨_, fun hh => x_slice_lo (q := EC.q) (h := hh) (e := 3) (b := b) (o := 0) (i := n) (k := .i64) hn, fun hh X => ?_⟩
     exact SA.tail lc_cel hn (by have := X.size; omega) (by rw [X.get b hb]; exact hg) (by rw [List.drop_zero, ← lc_cel.flat_len, List.take_length]) (by rw [lc_cel.flat_len]; omega)
   have hld : (l.drop n).length ≤ l.length := by rw [List.length_drop]; omega
   have hsd : ∀ x ∈ l.drop n, x.f.1.size < 4611686018427387904 := fun x hx => hs x (List.mem_of_mem_drop hx)
   have hrb : 4000000 ≤ reachBytes := by decide
   simp only [go_sem, ↓reduceIte, hsl]
   refine MCall.by (sCheck (hSA _ X14) (by omega) hsd) ?_
   rintro u h5 ⟨rfl, X5⟩
   have g5 := (X5.get h.size (by omega)).trans g4
   have r5 := (X5.get h2.size (by omega)).trans r4
   have s5 := X5.size
   have X15 := X14.trans X5
   by_cases h0 : firstN wLn (l.drop n) = 0
   ·have q0 : (((0 : Nat) : Int) != 0) = false := rfl
    simp only [go_sem, ↓reduceIte, h0, q0, hsl]
    refine MCall.by (sDecFields (hSA _ X15) (by omega)) ?_
    rintro fv h6 ⟨G, hf, X6⟩
    obtain ⟨a0, n0, e0, rfl⟩ := G.shape
    have g6 := (X6.get h.size (by omega)).trans g5
    have r6 := (X6.get h2.size (by omega)).trans r5
    have s6 := X6.size
    have X16 := X15.trans X6
    simp only [go_sem, ↓reduceIte, r6]
    generalize hq : h6.set h2.size _ = h7
    have r7 : h7.get h2.size = some (.cells [.string m, .string s, .string p, .string a, .slice a0 n0 e0, .slice none 0 0] true true) := by rw [← hq]; simp
    have g7 : h7.get h.size = some (.cells [.string ⟨#[]⟩, .string ⟨#[]⟩, .string ⟨#[]⟩, .string ⟨#[]⟩, .slice none 0 0, .slice none 0 0] true true) := by rw [← hq]; simp [show h.size ≠ h2.size by omega, g6]
    have X17 : Ext h h7 := by rw [← hq]; exact X16.set (by omega) _
    have s7 : h7.size = h6.size := by rw [← hq]; simp
    have G7 : GL 2 fc h7 (.slice a0 n0 e0) (fldsL (l.drop n)) := G.move (by omega) fun b hb => by
     have := hf b hb
     rw [← hq]; simp [show b ≠ h2.size by omega]
    clear hq
    have hE := errF_of_first h0
    have hRE : reqErr m s p a (fldsL (l.drop n)) = 0 := by simp [reqErr, hr, hE]
    have hfs : ∀ f ∈ fldsL (l.drop n), f.1.size < 4611686018427387904 := fun f hff => by
     obtain ⟨x, hx, rfl⟩ := List.mem_map.1 hff
     exact hsd x hx
    refine MCall.by (sLines m s p a (.slice none 0 0) G7.sl (by rw [fldsL_len]; omega) hfs) ?_
    rintro u h8 ⟨ov, rfl, ho, X8⟩
    have g8 := (X8.get h.size (by omega)).trans g7
    have r8 := (X8.get h2.size (by omega)).trans r7
    have s8 := X8.size
    have X18 := X17.trans X8
    rw [if_pos hRE] at ho
    obtain ⟨G8, f8⟩ := ho
    simp only [go_sem, ↓reduceIte]
    refine MCall.by (sEqLines G8.sl (F.ext X18) (by
     have := (headsL_len m s p a).1
     have := linesF_len (fldsL (l.drop n))
     rw [fldsL_len] at this
     rw [List.length_append]; omega)) ?_
    rintro u h9 ⟨⟨r, rfl, hr9⟩, X9⟩
    have g9 := (X9.get h.size (by omega)).trans g8
    have r9 := (X9.get h2.size (by omega)).trans r8
    have s9 := X9.size
    have X19 := X18.trans X9
    cases r with
    | false =>
     have e : backE l = 32 := by
      unfold backE; rw [hT]
      simp only [hr, h0]
      rw [if_neg (by decide), if_neg (by decide), if_neg (fun h => by have := hr9.2 h; cases this)]
     simp only [go_sem, ↓reduceIte, g9]
     exact ⟨⟨#[]⟩, ⟨#[]⟩, ⟨#[]⟩, ⟨#[]⟩, .slice none 0 0, by rw [e]; rfl, done X19, ⟨_, _, _, rfl⟩, fun h0 => by rw [e] at h0; cases h0⟩
    | true =>
     have e : backE l = 0 := by
      unfold backE; rw [hT]
      simp only [hr, h0]
      rw [if_neg (by decide), if_neg (by decide), if_pos (hr9.1 rfl)]
     simp only [go_sem, ↓reduceIte, g9, r9]
     refine ⟨m, s, p, a, .slice a0 n0 e0, by rw [e]; rfl, done X19, ⟨_, _, _, rfl⟩, fun _ => ⟨n, hT, ?_⟩⟩
     refine (G7.ext (X8.trans X9)).move (by simp) fun b hb => ?_
     have := hf b hb
     simp [show b ≠ h.size by omega]
   ·have q1 : ((firstN wLn (l.drop n) : Int) != 0) = true := by simp; omega
    have e : backE l = firstN wLn (l.drop n) := by
     unfold backE; rw [hT]
     simp only [hr]
     rw [if_neg (by decide), if_pos h0]
    simp only [go_sem, ↓reduceIte, q1, g5]
    exact ⟨⟨#[]⟩, ⟨#[]⟩, ⟨#[]⟩, ⟨#[]⟩, .slice none 0 0, by rw [e]; rfl, done X15, ⟨_, _, _, rfl⟩, fun h1 => by rw [e] at h1; exact absurd h1 h0⟩
end Go.E1
