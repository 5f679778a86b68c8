/-
  Texts joined: RqA, RqB, RqC, RqD.
-/
import Derived.Test.YtdbjklgnhbmlaaaGreatKi
import Derived.Test.YtdbjklgnhbmlaaaGreatKe
/-
  Layer 22: may a request be, without its fields?
-/
namespace Go.E1
open Go Go.Proofs Go.M
set_option linter.unusedSimpArgs false

/-- The first byte that is so, or -1, of bytes that lie at a block's beginning. -/
theorem sIdxBytes {b : Nat} (l : List UInt8) (p : UInt8 → Bool) (g : FuncId) (cap : Array Value) {h : LHeap} (hpg : EC.prim g = none)
    (hb : ∃ t r, h.get b = some (.cells (l.map fun b => .int .u8 b.toNat) t r)) (hlt : b < h.size) (hcall : ∀ c ∈ l, ∀ h', Ext h h' → LCalls EC g (.int .u8 c.toNat :: cap.toList) h' fun v h'' => v = .bool (p c) ∧ Ext h' h'')
    (hlen : l.length < 4611686018427387904) : LCalls EC 137 [.slice (some ⟨b, 0, none⟩) l.length 1, .func (.func g) #[] cap] h fun v h' => (∃ k : Int, v = .int .i64 k ∧ decide (k ≥ 0) = l.any p) ∧ Ext h h' := by
  refine LCalls.enter (lf := lf137) rfl rfl (by simp [lf137]) ?_
  simp only [go_sem, lf137, ↓reduceIte]
  refine MC.loop (fun m fr hh => ∃ i tl, fr = (0, .slice (some ⟨b, 0, none⟩) l.length 1) :: (1, .func (.func g) #[] cap) :: (7, .int .i64 l.length) :: (8, .int .i64 (i : Nat)) :: tl ∧ i ≤ l.length ∧ m = l.length - i ∧ (∀ e ∈ l.take i, p e = false) ∧ Ext h hh) l.length
    ⟨0, [], rfl, Nat.zero_le _, rfl, by simp, Ext.refl _⟩ ?_
  rintro m fr hh J ⟨i, tl, rfl, hi, rfl, hno, hX⟩ hJ
  simp only [go_sem, ↓reduceIte]
  by_cases hlt' : i < l.length
  · have d1 : (i : Int) < (l.length : Int) := by omega
    have d0 : (0 : Int) ≤ (i : Int) := by omega
    obtain ⟨t, r, hg⟩ := hb
    have hg' : hh.get b = some (.cells (l.map fun b => .int .u8 b.toNat) t r) := by rw [hX.get b hlt, hg]
    obtain ⟨c, hc⟩ : ∃ c, l[i]? = some c := ⟨l[i], by simp [hlt']⟩
    have hcc : (l.map fun b : UInt8 => Value.int .u8 b.toNat)[i]? = some (.int .u8 c.toNat) := by rw [List.getElem?_map, hc]; rfl
    have w1 : IntKind.i64.wrap ((i : Int) + 1) = ((i + 1 : Nat) : Int) := by rw [IntWalk.i64_in _ (by omega)]; omega
    simp only [go_sem, ↓reduceIte, d1, d0, hg', Int.toNat_natCast, Nat.mul_one, hcc, hpg]
    refine MCall.by (hcall c (List.mem_of_getElem? hc) hh hX) ?_
    rintro v h' ⟨rfl, hX'⟩
    cases hpe : p c
    · simp only [go_sem, ↓reduceIte, w1]
      refine hJ _ _ _ (by omega) ⟨i + 1, _, rfl, by omega, rfl, ?_, hX.trans hX'⟩
      intro x hx
      rw [List.take_add_one, List.mem_append] at hx
      rcases hx with hx | hx
      · exact hno x hx
      · rw [hc] at hx
        simp only [Option.toList_some, List.mem_singleton] at hx
        rw [hx]; exact hpe
    · simp only [go_sem, ↓reduceIte]
      refine ⟨⟨_, rfl, ?_⟩, hX.trans hX'⟩
      rw [List.any_eq_true.2 ⟨c, List.mem_of_getElem? hc, hpe⟩]
      exact decide_eq_true (by omega)
  · have d1 : ¬ (i : Int) < (l.length : Int) := by omega
    simp only [go_sem, ↓reduceIte, d1]
    refine ⟨⟨_, rfl, ?_⟩, hX⟩
    rw [List.take_of_length_le (by omega)] at hno
    have : l.any p = false := List.any_eq_false.2 fun x hx => by rw [hno x hx]; decide
    rw [this]; rfl

def allB (p : UInt8 → Bool) (a : ByteArray) : Bool := decide (a.size ≤ 4096) && a.data.toList.all p
theorem u8_in (c : UInt8) : (0 : Int) ≤ (c.toNat : Int) ∧ (c.toNat : Int) < 256 := by have := c.toNat_lt; omega
theorem u8_in0 (c : UInt8) : (0 : Int) ≤ (c.toNat : Int) := by omega
theorem u8_in1 (c : UInt8) : (c.toNat : Int) < 256 := (u8_in c).2
theorem u8_back (c : UInt8) : c.toNat.toUInt8 = c := by simp
theorem sAll1m {hb : Nat} {h : LHeap} (hg : ∃ t r, h.get hb = some (.cells [.func (.func 81) #[] #[]] t r)) (c : UInt8) :
    LCalls EC 110 [.int .u8 c.toNat, .pointer (some ⟨hb, 0, none⟩)] h fun v h' => v = .bool (!methB c) ∧ Ext h h' := by
  refine LCalls.enter (lf := lf110) rfl rfl (by simp [lf110]) ?_
  obtain ⟨t, r, hg⟩ := hg
  simp only [go_sem, lf110, ↓reduceIte, hg, u8_in0, u8_in1, u8_back, Int.toNat_natCast, and_self]
  exact Ext.refl _

theorem sAll1p {hb : Nat} {h : LHeap} (hg : ∃ t r, h.get hb = some (.cells [.func (.func 83) #[] #[]] t r)) (c : UInt8) :
    LCalls EC 110 [.int .u8 c.toNat, .pointer (some ⟨hb, 0, none⟩)] h fun v h' => v = .bool (!plainC c) ∧ Ext h h' := by
  refine LCalls.enter (lf := lf110) rfl rfl (by simp [lf110]) ?_
  obtain ⟨t, r, hg⟩ := hg
  simp only [go_sem, lf110, ↓reduceIte, hg, u8_in0, u8_in1, u8_back, Int.toNat_natCast, and_self]
  exact Ext.refl _

theorem sAllB (a : ByteArray) (g : FuncId) (p : UInt8 → Bool) (hcall : ∀ (hb : Nat) (h : LHeap), (∃ t r, h.get hb = some (.cells [.func (.func g) #[] #[]] t r)) → ∀ c : UInt8, LCalls EC 110 [.int .u8 c.toNat, .pointer (some ⟨hb, 0, none⟩)] h fun v h' => v = .bool (!p c) ∧ Ext h h') {h : LHeap} :
    LCalls EC 80 [.string a, .func (.func g) #[] #[]] h fun v h' => v = .bool (allB p a) ∧ Ext h h' := by
  refine LCalls.enter (lf := lf80) rfl rfl (by simp [lf80]) ?_
  have hsz : a.data.toList.length = a.size := Array.length_toList
  unfold allB
  by_cases e1 : a.size ≤ 4096
  · have d1 : (a.size : Int) ≤ 4096 := by omega
    simp only [go_sem, lf80, ↓reduceIte, d1, e1]
    generalize hh2 : ((h.push (LObj.cells [Value.func (Fn.func g) #[] #[]] true true)).push (LObj.cells (List.map (fun b => Value.int IntKind.u8 (b.toNat : Int)) a.data.toList) true true)) = h2
    have X2 : Ext h h2 := by rw [← hh2]; exact (Ext.push _ _).trans (Ext.push _ _)
    have g1 : h2.get (h.size + 1) = some (.cells (a.data.toList.map fun b => .int .u8 b.toNat) true true) := by rw [← hh2]; simp
    have g0 : h2.get h.size = some (.cells [.func (.func g) #[] #[]] true true) := by rw [← hh2]; simp [show h.size ≠ h.size + 1 by omega]
    have s2 : h2.size = h.size + 2 := by rw [← hh2]; simp
    refine MCall.by (R := fun v h' => v = .bool (a.data.toList.any fun c => !p c) ∧ Ext h2 h') ?_ ?_
    · refine LCalls.enter (lf := lf109) rfl rfl (by simp [lf109]) ?_
      simp only [go_sem, lf109, ↓reduceIte]
      have := sIdxBytes (b := h.size + 1) a.data.toList (fun c => !p c) 110 #[.pointer (some ⟨h.size, 0, none⟩)] (h := h2) rfl ⟨true, true, g1⟩ (by omega) (fun c _ h' X => hcall _ _ ⟨true, true, by rw [X.get _ (by omega)]; exact g0⟩ c) (by omega)
      rw [hsz] at this
      refine MCall.by this ?_
      rintro v h3 ⟨⟨k, rfl, hk⟩, X3⟩
      simp only [go_sem, ↓reduceIte, hk]
      exact X3
    · rintro v h3 ⟨rfl, X3⟩
      have e : (a.data.toList.any fun c => !p c) = !(a.data.toList.all p) := by
        rw [List.not_all_eq_any_not]
      rw [e]
      simp only [go_sem, ↓reduceIte, Bool.not_not]
      exact X2.trans X3
  · have d1 : ¬ (a.size : Int) ≤ 4096 := by omega
    simp only [go_sem, lf80, ↓reduceIte, d1, e1]
    exact Ext.push _ _

theorem x_sub_hi {q : EqF} {h : LHeap} {l : Bytes} {j : Nat} {k : IntKind} (hj : j ≤ l.length) : lexec q (.sliceStr (.string (toBA l)) none (some (.int k (j : Nat)))) h = some (.string (toBA (l.take j)), h) := by
  have e : (toBA l).extract 0 j = toBA (l.take j) := by
    apply ByteArray.ext
    rw [ByteArray.data_extract]
    simp [toBA]
  simp only [lexec, lo1]
  simp [hj, e, toBA_size]
theorem sSlash (a : ByteArray) (h : LHeap) : LCalls EC 82 [.string a, .string ⟨#[47]⟩] h fun v h' => v = .bool (a.data.toList.head? == some 47) ∧ h' = h := by
  refine LCalls.enter (lf := lf82) rfl rfl (by simp [lf82]) ?_
  simp only [go_sem, lf82, ↓reduceIte]
  refine MCall.by (R := fun v h' => v = .bool (a.data.toList.head? == some 47) ∧ h' = h) ?_ ?_
  · refine LCalls.enter (lf := lf111) rfl rfl (by simp [lf111]) ?_
    have hsz : a.data.toList.length = a.size := Array.length_toList
    cases hl : a.data.toList with
    | nil =>
      rw [hl] at hsz
      have d1 : ¬ (1 : Int) ≤ (a.size : Int) := by rw [← hsz]; decide
      simp only [go_sem, lf111, ↓reduceIte, d1]
      rfl
    | cons c l =>
      rw [hl] at hsz
      have hs1 : a.size = l.length + 1 := hsz.symm
      have d1 : (1 : Int) ≤ (a.size : Int) := by omega
      have hx : lexec EC.q (.sliceStr (.string a) none (some (.int .i64 1))) h = some (.string (toBA [c]), h) := by
        have := x_sub_hi (q := EC.q) (h := h) (l := a.data.toList) (j := 1) (k := .i64) (by rw [hl]; simp)
        rw [hl] at this
        have e : toBA (c :: l) = a := by rw [← hl]; rfl
        rw [e] at this
        simpa using this
      simp only [go_sem, lf111, ↓reduceIte, d1, hx]
      refine congrArg Value.bool ?_
      show ([c] == [47]) = (some c == some 47)
      by_cases h47 : c = 47
      · subst h47; rfl
      · have e1 : ([c] == ([47] : List UInt8)) = false := by simpa using h47
        have e2 : (some c == some (47 : UInt8)) = false := by simpa using h47
        rw [e1, e2]
  · rintro v h1 ⟨rfl, rfl⟩
    simp only [go_sem, ↓reduceIte]

/-- At a guard, what holds behind the region. -/
theorem MG.cutr {E : Env} {x : Option Value} {w' : Bool} {d : Option Nat} {a : LAct} {r : List LOper} {ks : List Nat} {b : LCode} {k : Cont} {fr : Fr} {h : LHeap} {Q : Value → LHeap → Prop} (J : Fr → LHeap → Prop) (w : MG E x w' d a r ks (.inv J k) fr h Q) (hb : ∀ fr h, J fr h → MC E b k fr h Q) : MG E x w' d a r ks (.code b k) fr h Q :=
  w.cont (kont_cut hb)
def schemeB (s : ByteArray) : Bool := (s.data.toList == [104, 116, 116, 112]) || (s.data.toList == [104, 116, 116, 112, 115])
def rightB (m s p a : ByteArray) : Bool := ((((!(m.data.toList == []) && allB methB m) && schemeB s) && (p.data.toList.head? == some 47)) && allB plainC p) && allB plainC a
/-- A request as it comes. -/
def reqV (m s p a : ByteArray) (fv bv : Value) : Value := .agg #[.string m, .string s, .string p, .string a, fv, bv]
theorem sRight (m s p a : ByteArray) (fv bv : Value) {h : LHeap} : LCalls EC 48 [reqV m s p a fv bv] h fun v h' => v = .bool (rightB m s p a) ∧ Ext h h' := by
  refine LCalls.enter (lf := lf48) rfl rfl (by simp [lf48]) ?_
  unfold rightB reqV
  simp only [go_sem, lf48, ↓reduceIte]
  refine MG.cutr (fun fr hh => ∃ tl, fr = (1, .pointer (some ⟨h.size, 0, none⟩)) :: (3, .bool (schemeB s)) :: tl ∧ hh = h.push (.cells [.string m, .string s, .string p, .string a, fv, bv] true true)) ?_ ?_
  · unfold schemeB
    cases h1 : (s.data.toList == [104, 116, 116, 112]) with
    | true =>
      simp only [go_sem, ↓reduceIte, h1, Bool.true_or]
      exact ⟨_, rfl⟩
    | false =>
      simp only [go_sem, ↓reduceIte, h1, Bool.false_or]
      exact ⟨_, rfl⟩
  · rintro fr hh ⟨tl, rfl, e1⟩
    have X1 : Ext h hh := by rw [e1]; exact Ext.push _ _
    have g1 : hh.get h.size = some (.cells [.string m, .string s, .string p, .string a, fv, bv] true true) := by rw [e1]; simp
    have s1 : h.size < hh.size := by rw [e1]; simp
    clear e1
    cases hm : (m.data.toList == []) with
    | true =>
      simp only [go_sem, ↓reduceIte, g1, hm, Bool.not_true, Bool.false_and]
      exact X1
    | false =>
      simp only [go_sem, ↓reduceIte, g1, hm, Bool.not_false, Bool.true_and]
      refine MCall.by (sAllB m 81 methB (fun hb h hg c => sAll1m hg c)) ?_
      rintro v h2 ⟨rfl, X2⟩
      have g2 := (X2.get h.size s1).trans g1
      have s2 := Nat.lt_of_lt_of_le s1 X2.size
      have X12 := X1.trans X2
      cases hA : allB methB m with
      | false =>
        simp only [go_sem, ↓reduceIte, hA, Bool.false_and]
        exact X12
      | true =>
        cases hS : schemeB s with
        | false =>
          simp only [go_sem, ↓reduceIte, hA, hS, Bool.false_and, Bool.and_false, Bool.true_and]
          exact X12
        | true =>
          simp only [go_sem, ↓reduceIte, hA, hS, g2, Bool.true_and]
          refine MCall.by (sSlash p h2) ?_
          rintro v h3 ⟨rfl, rfl⟩
          cases hP : (p.data.toList.head? == some 47) with
          | false =>
            simp only [go_sem, ↓reduceIte, hP, Bool.false_and]
            exact X12
          | true =>
            simp only [go_sem, ↓reduceIte, hP, g2, Bool.true_and]
            refine MCall.by (sAllB p 83 plainC (fun hb h hg c => sAll1p hg c)) ?_
            rintro v h4 ⟨rfl, X4⟩
            have g4 := (X4.get h.size s2).trans g2
            cases hB : allB plainC p with
            | false =>
              simp only [go_sem, ↓reduceIte, hB, Bool.false_and]
              exact X12.trans X4
            | true =>
              simp only [go_sem, ↓reduceIte, hB, g4, Bool.true_and]
              refine MCall.by (sAllB a 83 plainC (fun hb h hg c => sAll1p hg c)) ?_
              rintro v h5 ⟨rfl, X5⟩
              simp only [go_sem, ↓reduceIte]
              exact (X12.trans X4).trans X5
end Go.E1

/-
  Layer 21: fields that may be sent, as lines.
-/
namespace Go.M
open Go.E1
/-- The first fault of some fields, or 0. -/
def errF : List Fld → Nat
  | [] => 0
  | f :: l => if wrongN f.1 f.2 ≠ 0 then wrongN f.1 f.2 else errF l
def lnOf (f : Fld) : Option Ln := if hopB f.1 f.2 then none else some ⟨f, sensB f.1⟩
def linesF (l : List Fld) : List Ln := l.filterMap lnOf
theorem errF_at : ∀ {l : List Fld} {i : Nat} {f : Fld}, l[i]? = some f → (∀ x ∈ l.take i, wrongN x.1 x.2 = 0) → wrongN f.1 f.2 ≠ 0 → errF l = wrongN f.1 f.2
  | [], _, _, h, _, _ => by simp at h
  | x :: l, 0, f, h, _, hw => by
    simp only [List.getElem?_cons_zero, Option.some.injEq] at h
    subst h
    simp [errF, hw]
  | x :: l, i + 1, f, h, hno, hw => by
    have h0 : wrongN x.1 x.2 = 0 := hno x (by simp)
    rw [errF, if_neg (by simp [h0])]
    exact errF_at (by simpa using h) (fun y hy => hno y (by simp [hy])) hw
theorem errF_zero : ∀ {l : List Fld}, (∀ x ∈ l, wrongN x.1 x.2 = 0) → errF l = 0
  | [], _ => rfl
  | x :: l, h => by
    rw [errF, if_neg (by simp [h x (by simp)])]
    exact errF_zero fun y hy => h y (by simp [hy])
theorem linesF_snoc (l : List Fld) (f : Fld) : linesF (l ++ [f]) = linesF l ++ (lnOf f).toList := by
  simp only [linesF, List.filterMap_append, List.filterMap_cons, List.filterMap_nil]
  cases lnOf f <;> rfl
theorem linesF_len (l : List Fld) : (linesF l).length ≤ l.length := List.length_filterMap_le _ _
end Go.M
namespace Go.E1
open Go Go.Proofs Go.M
set_option linter.unusedSimpArgs false

theorem lc_cel : Cel 3 lc := ⟨fun _ => rfl, fun _ => rfl, by omega⟩
def fc (f : Fld) : List Value := [.string f.1, .string f.2]
theorem fc_cel : Cel 2 fc := ⟨fun _ => rfl, fun _ => rfl, by omega⟩
/-- A list, wherever it stands. -/
def SL {α : Type} (k : Nat) (c : α → List Value) (h : LHeap) (v : Value) (l : List α) : Prop := (l = [] ∧ v = .slice none 0 0) ∨ ∃ b t r, v = .slice (some ⟨b, 0, none⟩) l.length k ∧ b < h.size ∧ h.get b = some (.cells (l.flatMap c) t r)
theorem GL.sl {α : Type} {k : Nat} {c : α → List Value} {h : LHeap} {v : Value} {l : List α} (g : GL k c h v l) : SL k c h v l := by
  rcases g with h1 | ⟨b, h1, h2, h3⟩
  · exact .inl h1
  · exact .inr ⟨b, true, true, h1, h2, h3⟩
theorem SL.len {α : Type} {k : Nat} {c : α → List Value} {q : EqF} {h hh : LHeap} {v : Value} {l : List α} (g : SL k c hh v l) : lexec q (.lenS v) h = some (.int .i64 l.length, h) := by
  rcases g with ⟨rfl, rfl⟩ | ⟨b, _, _, rfl, _⟩ <;> rfl
theorem SL.ext {α : Type} {k : Nat} {c : α → List Value} {h h' : LHeap} {v : Value} {l : List α} (g : SL k c h v l) (X : Ext h h') : SL k c h' v l := by
  rcases g with h1 | ⟨b, t, r, h1, h2, h3⟩
  · exact .inl h1
  · exact .inr ⟨b, t, r, h1, Nat.lt_of_lt_of_le h2 X.size, by rw [X.get b h2]; exact h3⟩
theorem SL.at {α : Type} {k : Nat} {c : α → List Value} {h : LHeap} {v : Value} {l : List α} (g : SL k c h v l) {i : Nat} {x : α} (hx : l[i]? = some x) : ∃ b t r, v = .slice (some ⟨b, 0, none⟩) l.length k ∧ b < h.size ∧ h.get b = some (.cells (l.flatMap c) t r) := by
  rcases g with ⟨rfl, _⟩ | h1
  · simp at hx
  · exact h1

theorem veqs_fc (a b : ByteArray) : veqs [Value.string a, Value.string b] [Value.string a, Value.string b] = true := by simp [veqs, veq]
theorem sFields {h : LHeap} {fv : Value} {l : List Fld} (F : SL 2 fc h fv l) (hl : l.length < 100000) (hs : ∀ f ∈ l, f.1.size < 4611686018427387904) :
    LCalls EC 20 [fv] h fun u h' => ∃ ov, u = .tuple #[ov, .int .i64 (errF l : Nat)] ∧ (if errF l = 0 then GL 3 lc h' ov (linesF l) ∧ (∀ b, blkOf ov = some b → h.size ≤ b) else ov = .slice none 0 0) ∧ Ext h h' := by
  refine LCalls.enter (lf := lf20) rfl rfl (by simp [lf20]) ?_
  have eL := fun hh => F.len (q := EC.q) (h := hh)
  simp only [go_sem, lf20, ↓reduceIte, eL]
  refine MC.cutb (fun fr hh => ∃ ov tl, fr = (4, ov) :: tl ∧ (∀ x ∈ l, wrongN x.1 x.2 = 0) ∧ GL 3 lc hh ov (linesF l) ∧ (∀ b, blkOf ov = some b → h.size ≤ b) ∧ Ext h hh) ?_ ?_
  · refine MC.loop (fun m fr hh => ∃ i ov tl, m = l.length - i ∧ fr = (4, ov) :: (8, fv) :: (9, .int .i64 l.length) :: (10, .int .i64 (i : Nat)) :: tl ∧ i ≤ l.length ∧ (∀ x ∈ l.take i, wrongN x.1 x.2 = 0) ∧ GL 3 lc hh ov (linesF (l.take i)) ∧ (∀ b, blkOf ov = some b → h.size ≤ b) ∧ Ext h hh) l.length
      ⟨0, _, [], rfl, rfl, Nat.zero_le _, by simp, GL.nil, by simp, Ext.refl _⟩ ?_
    rintro m fr hh J ⟨i, ov, tl, rfl, rfl, hi, hno, G, hfr, X⟩ hJ
    by_cases hlt : i < l.length
    · have d1 : (i : Int) < (l.length : Int) := by omega
      have d0 : (0 : Int) ≤ (i : Int) := by omega
      obtain ⟨f, hf⟩ : ∃ f, l[i]? = some f := ⟨l[i], by simp [hlt]⟩
      obtain ⟨b, t, r, rfl, hb, hg⟩ := F.at hf
      have hg' : hh.get b = some (.cells (l.flatMap fc) t r) := by rw [X.get b hb, hg]
      obtain ⟨k1, k2⟩ := fc_cel.get hf
      have k2' : i * 2 + 2 ≤ (l.flatMap fc).length := k2
      have w1 : IntKind.i64.wrap ((i : Int) + 1) = ((i + 1 : Nat) : Int) := by rw [IntWalk.i64_in _ (by omega)]; omega
      have hsz := hs f (List.mem_of_getElem? hf)
      simp only [fc] at k1
      have tk : l.take (i + 1) = l.take i ++ [f] := by rw [List.take_add_one, hf]; rfl
      simp only [go_sem, ↓reduceIte, d1, d0, Int.toNat_natCast, hg', k1, k2', hsz]
      have hX : ∀ {c c'}, Ext hh ((hh.push c).set hh.size c') := (Ext.push _ _).set (Nat.le_refl _) _
      by_cases hw : wrongN f.1 f.2 = 0
      · have hno' : ∀ x ∈ l.take (i + 1), wrongN x.1 x.2 = 0 := by
          intro x hx
          rw [tk, List.mem_append] at hx
          rcases hx with hx | hx
          · exact hno x hx
          · rw [List.mem_singleton.1 hx]; exact hw
        cases hh2 : hopB f.1 f.2 with
        | true =>
          have hl2 : linesF (l.take (i + 1)) = linesF (l.take i) := by rw [tk, linesF_snoc]; simp [lnOf, hh2]
          simp only [go_sem, ↓reduceIte, hw, hh2, w1]
          exact hJ _ _ _ (by omega) ⟨i + 1, ov, _, rfl, rfl, by omega, hno', by rw [hl2]; exact G.ext hX, hfr, X.trans hX⟩
        | false =>
          have hl2 : linesF (l.take (i + 1)) = linesF (l.take i) ++ [⟨f, sensB f.1⟩] := by rw [tk, linesF_snoc]; simp [lnOf, hh2]
          have hll : (linesF (l.take i)).length ≤ i := Nat.le_trans (linesF_len _) (by rw [List.length_take]; omega)
          simp only [go_sem, ↓reduceIte, hw, hh2]
          generalize hh1 : (hh.push (LObj.cells [Value.string ⟨#[]⟩, Value.string ⟨#[]⟩] true true)).set hh.size (LObj.cells [Value.string f.1, Value.string f.2] true true) = h1
          have X1 : Ext hh h1 := by rw [← hh1]; exact hX
          have g1 : h1.get hh.size = some (.cells [.string f.1, .string f.2] true true) := by rw [← hh1]; simp
          have s1 : h1.size = hh.size + 1 := by rw [← hh1]; simp
          obtain ⟨ov', h2, ha, G2, sz, g2, n2⟩ := gl_append lc_cel (q := EC.q) (by' := 40) (G.ext X1) ⟨f, sensB f.1⟩ (by omega) (by omega)
          simp only [lc] at ha
          refine MC.dregion ?_
          simp only [go_sem, ↓reduceIte, g1, ha, w1, veqs_fc]
          have X2 : Ext h h2 := by
            refine ⟨by have := X.size; have := X1.size; omega, fun b hb => ?_⟩
            have := X.size
            rw [g2 b (by omega) (fun he => by have := hfr b he; omega), X1.get b (by omega), X.get b hb]
          refine hJ _ _ _ (by omega) ⟨i + 1, ov', _, rfl, rfl, by omega, hno', by rw [hl2]; exact G2, fun b hb => by have := n2 b hb; have := X.size; omega, X2⟩
      · have q1 : ((wrongN f.1 f.2 : Int) != 0) = true := by simp; omega
        have he := errF_at hf hno hw
        simp only [go_sem, ↓reduceIte, q1]
        refine ⟨_, by rw [he], ?_, X.trans hX⟩
        rw [if_neg (by rw [he]; exact hw)]
    · have d1 : ¬ (i : Int) < (l.length : Int) := by omega
      rw [List.take_of_length_le (by omega)] at hno G
      simp only [go_sem, ↓reduceIte, d1]
      exact ⟨_, _, rfl, hno, G, hfr, X⟩
  · rintro fr hh ⟨ov, tl, rfl, hno, G, hfr, X⟩
    simp only [go_sem, ↓reduceIte]
    refine ⟨ov, ?_, ?_, X⟩
    · rw [errF_zero hno]; rfl
    · rw [if_pos (errF_zero hno)]; exact ⟨G, hfr⟩
end Go.E1

/-
  Layer 22: the lines of a request.
-/
namespace Go.M
open Go.E1
def headsL (m s p a : ByteArray) : List Ln := [⟨(⟨#[58, 109, 101, 116, 104, 111, 100]⟩, m), false⟩, ⟨(⟨#[58, 115, 99, 104, 101, 109, 101]⟩, s), false⟩, ⟨(⟨#[58, 112, 97, 116, 104]⟩, p), false⟩] ++ (if (a.data.toList == []) = true then [] else [⟨(⟨#[58, 97, 117, 116, 104, 111, 114, 105, 116, 121]⟩, a), false⟩])
def reqErr (m s p a : ByteArray) (l : List Fld) : Nat := if rightB m s p a then errF l else 31
end Go.M
namespace Go.E1
open Go Go.Proofs Go.M
set_option linter.unusedSimpArgs false

theorem gl_cat {α : Type} {k by' : Nat} {c : α → List Value} (C : Cel k c) {q : EqF} {hh : LHeap} {v w : Value} {l ys : List α} (g : GL k c hh v l) (hw : hh.firstCells k w = some (ys.length, ys.flatMap c)) (hn : l.length + ys.length < 1000000) (hb : by' ≤ 1000) :
    ∃ v' hh', lexec q (.append k by' v w) hh = some (v', hh') ∧ GL k c hh' v' (l ++ ys) ∧ hh.size ≤ hh'.size ∧ (∀ b, b < hh.size → blkOf v ≠ some b → hh'.get b = hh.get b) ∧ (∀ b, blkOf v' = some b → blkOf v = some b ∨ hh.size ≤ b) := by
  have hr : ∀ m, m ≤ 1000000 → roomOk m by' = true := fun m hm => by
    have : m * by' ≤ 1000000 * 1000 := Nat.mul_le_mul hm hb
    simp only [roomOk, Bool.and_eq_true, decide_eq_true_eq]
    omega
  by_cases h0 : ys.length = 0
  · obtain rfl : ys = [] := List.length_eq_zero_iff.1 h0
    refine ⟨v, hh, ?_, by simpa using g, Nat.le_refl _, fun b _ _ => rfl, fun b hb => .inl hb⟩
    rcases g with ⟨rfl, rfl⟩ | ⟨b, rfl, h1, h2⟩
    · exact x_append_zero (c := 0) hw
    · have e1 : oneCells ([] : List Value) = true := rfl
      have e2 := hr (l.length + 0) (by simp at hn ⊢; omega)
      simp only [List.length_nil, List.flatMap_nil] at hw
      have e3 := C.flat_len l
      simp [lexec, hw, e1, e2, h2, e3]
      simpa using e2
  · rcases g with ⟨rfl, rfl⟩ | ⟨b, rfl, h1, h2⟩
    · refine ⟨_, _, x_append_none hw h0 (C.flat_one ys) (hr _ (by omega)), .inr ⟨hh.size, rfl, by simp, by simp⟩, by simp, fun b hb _ => by simp [show b ≠ hh.size by omega], fun b hb => .inr (by simp only [blkOf_some, Option.some.injEq] at hb; omega)⟩
    · refine ⟨_, _, x_append_some hw h0 h2 (by rw [C.flat_len]; omega) (C.flat_one ys) (hr _ (by omega)), .inr ⟨hh.size, by rw [List.length_append], by simp, by simp⟩, by simp, fun i hi hne => by simp [show i ≠ hh.size by omega, show i ≠ b from fun h => hne (by rw [h]; rfl)], fun b hb => .inr (by simp only [blkOf_some, Option.some.injEq] at hb; omega)⟩


theorem GL.fst {α : Type} {k : Nat} {c : α → List Value} (C : Cel k c) {h : LHeap} {v : Value} {l : List α} (g : GL k c h v l) : h.firstCells k v = some (l.length, l.flatMap c) := by
  rcases g with ⟨rfl, rfl⟩ | ⟨b, rfl, h1, h2⟩
  · rfl
  · by_cases h0 : l.length = 0
    · obtain rfl : l = [] := List.length_eq_zero_iff.1 h0
      simp [LHeap.firstCells]
    · rw [first_some (cs := l.flatMap c) (t := true) (r := true) h2 (by rw [C.flat_len]; omega) h0, List.drop_zero, ← C.flat_len l, List.take_length]

theorem sHeads (m s p a : ByteArray) (fv bv : Value) {h : LHeap} : LCalls EC 49 [reqV m s p a fv bv] h fun v h' => GL 3 lc h' v (headsL m s p a) ∧ (∀ b, blkOf v = some b → h.size ≤ b) ∧ Ext h h' := by
  refine LCalls.enter (lf := lf49) rfl rfl (by simp [lf49]) ?_
  unfold reqV headsL
  have n1 : (h.size = h.size + 1) = False := by simp
  simp only [go_sem, lf49, ↓reduceIte, n1]
  generalize hq : (h.push (LObj.cells [Value.string m, Value.string s, Value.string p, Value.string a, fv, bv] true true)).push _ = h1
  have X1 : Ext h h1 := by rw [← hq]; exact (Ext.push _ _).trans (Ext.push _ _)
  have g0 : h1.get h.size = some (.cells [.string m, .string s, .string p, .string a, fv, bv] true true) := by rw [← hq]; simp [show h.size ≠ h.size + 1 by omega]
  have s1 : h1.size = h.size + 2 := by rw [← hq]; simp
  have G : GL 3 lc h1 (.slice (some ⟨h.size + 1, 0, none⟩) 3 3) [⟨(⟨#[58, 109, 101, 116, 104, 111, 100]⟩, m), false⟩, ⟨(⟨#[58, 115, 99, 104, 101, 109, 101]⟩, s), false⟩, ⟨(⟨#[58, 112, 97, 116, 104]⟩, p), false⟩] := by
    refine .inr ⟨h.size + 1, rfl, by omega, ?_⟩
    rw [← hq]
    simp [lc]
  cases ha : (a.data.toList == []) with
  | true =>
    simp only [go_sem, ↓reduceIte, ha, if_true, List.append_nil]
    exact ⟨G, fun b hb => by simp at hb; omega, X1⟩
  | false =>
    obtain ⟨v', h2, hap, G2, sz, g2, n2⟩ := gl_append lc_cel (q := EC.q) (by' := 40) G ⟨(⟨#[58, 97, 117, 116, 104, 111, 114, 105, 116, 121]⟩, a), false⟩ (by simp) (by omega)
    simp only [lc] at hap
    simp only [go_sem, ↓reduceIte, ha, g0, hap]
    refine ⟨G2, fun b hb => by have := n2 b hb; omega, ⟨by have := X1.size; omega, fun b hb => ?_⟩⟩
    rw [g2 b (by omega) (by simp; omega), X1.get b hb]

theorem headsL_len (m s p a : ByteArray) : (headsL m s p a).length ≤ 4 ∧ 3 ≤ (headsL m s p a).length := by
  unfold headsL
  split <;> simp

theorem sLines (m s p a : ByteArray) {fv : Value} (bv : Value) {l : List Fld} {h : LHeap} (F : SL 2 fc h fv l) (hl : l.length < 100000) (hs : ∀ f ∈ l, f.1.size < 4611686018427387904) :
    LCalls EC 15 [reqV m s p a fv bv] h fun u h' => ∃ ov, u = .tuple #[ov, .int .i64 (reqErr m s p a l : Nat)] ∧ (if reqErr m s p a l = 0 then GL 3 lc h' ov (headsL m s p a ++ linesF l) ∧ (∀ b, blkOf ov = some b → h.size ≤ b) else ov = .slice none 0 0) ∧ Ext h h' := by
  refine LCalls.enter (lf := lf15) rfl rfl (by simp [lf15]) ?_
  have er : ∀ hh : LHeap, reqV m s p a fv bv = .agg #[.string m, .string s, .string p, .string a, fv, bv] := fun _ => rfl
  unfold reqErr
  simp only [reqV, go_sem, lf15, ↓reduceIte]
  generalize hq : h.push (LObj.cells [Value.string m, Value.string s, Value.string p, Value.string a, fv, bv] true true) = h1
  have X1 : Ext h h1 := by rw [← hq]; exact Ext.push _ _
  have g1 : h1.get h.size = some (.cells [.string m, .string s, .string p, .string a, fv, bv] true true) := by rw [← hq]; simp
  have s1 : h1.size = h.size + 1 := by rw [← hq]; simp
  refine MCall.by (sRight m s p a fv bv) ?_
  rintro v h2 ⟨rfl, X2⟩
  have g2 := (X2.get h.size (by omega)).trans g1
  have X12 := X1.trans X2
  have s2 := X2.size
  cases hr : rightB m s p a with
  | false =>
    simp only [go_sem, ↓reduceIte]
    exact ⟨_, rfl, rfl, X12⟩
  | true =>
    simp only [go_sem, ↓reduceIte, g2]
    refine MCall.by (sFields (F.ext X12) hl hs) ?_
    rintro v h3 ⟨ov, rfl, ho, X3⟩
    have g3 := (X3.get h.size (by omega)).trans g2
    have X13 := X12.trans X3
    have s3 := X3.size
    by_cases he : errF l = 0
    · rw [if_pos he] at ho
      have q0 : (((0 : Nat) : Int) != 0) = false := rfl
      simp only [go_sem, ↓reduceIte, he, q0, g3]
      refine MCall.by (sHeads m s p a fv bv) ?_
      rintro v h4 ⟨G4, f4, X4⟩
      have G3 := ho.1.ext X4
      have hc := G3.fst lc_cel
      have h45 := (headsL_len m s p a).1
      have hll := linesF_len l
      obtain ⟨v5, h5, ha, G5, s5, g5, n5⟩ := gl_cat lc_cel (q := EC.q) (by' := 40) G4 hc (by omega) (by omega)
      simp only [go_sem, ↓reduceIte, ha]
      have s4 := X4.size
      refine ⟨_, rfl, ⟨G5, fun b hb => ?_⟩, ⟨by have := X13.size; omega, fun b hb => ?_⟩⟩
      · rcases n5 b hb with h6 | h6
        · have := f4 b h6; omega
        · omega
      · rw [g5 b (by omega) (fun h6 => by have := f4 b h6; omega), X4.get b (by omega), X13.get b hb]
    · rw [if_neg he] at ho
      subst ho
      have q1 : ((errF l : Int) != 0) = true := by simp; omega
      simp only [go_sem, ↓reduceIte, q1]
      exact ⟨_, rfl, by rw [if_neg he], X13⟩
end Go.E1

/-
  Layer 22's statements: what comes in, and whether it may be gone through.
-/
namespace Go.E1
open Go Go.Proofs Go.M
set_option linter.unusedSimpArgs false

theorem cells_fld : Tryz.prog.cellsOf 33 = 2 := by kernel_rfl
theorem LRd_fld {h : LHeap} {n : Nat} {cs : List Value} (hl : LRd Tryz.prog h n 33 cs) : ∃ f : Fld, cs = [.string f.1, .string f.2] ∧ f.1.size ≤ reachBytes ∧ f.2.size ≤ reachBytes := by
  obtain ⟨m, parts, _, h1, h2, h3⟩ := LRd_struct Tryz.underlying33 hl
  match parts, h2 with
  | [p, q], _ =>
    obtain ⟨a, rfl, ha⟩ := LRd_string Tryz.underlying9 (h3 0 _ p rfl rfl).2
    obtain ⟨b, rfl, hb⟩ := LRd_string Tryz.underlying9 (h3 1 _ q rfl rfl).2
    exact ⟨(a, b), h1, ha, hb⟩
def RchF (l : List Fld) : Prop := l.length ≤ reachBytes ∧ ∀ x ∈ l, x.1.size ≤ reachBytes ∧ x.2.size ≤ reachBytes
theorem LRd_flds {h : LHeap} {n : Nat} {cs : List Value} (hl : LRd Tryz.prog h n 22 cs) : ∃ v l, cs = [v] ∧ SL 2 fc h v l ∧ RchF l := by
  rcases LRd_slice Tryz.underlying22 hl with rfl | ⟨b, len, css, m, rfl, rfl, h1, h2, h3, h4, h5⟩
  · exact ⟨_, [], rfl, .inl ⟨rfl, rfl⟩, by simp, by simp⟩
  · rw [cells_fld] at h5 ⊢
    have key : ∀ (css : List (List Value)), (∀ c ∈ css, c.length = 2 ∧ LRd Tryz.prog h m 33 c) → ∃ l : List Fld, css.flatten = l.flatMap fc ∧ l.length = css.length ∧ ∀ x ∈ l, x.1.size ≤ reachBytes ∧ x.2.size ≤ reachBytes := by
      intro css
      induction css with
      | nil => intro _; exact ⟨[], rfl, rfl, by simp⟩
      | cons c css ih =>
        intro hc
        obtain ⟨l, h6, h7, h8⟩ := ih fun x hx => hc x (List.mem_cons_of_mem _ hx)
        obtain ⟨x, rfl, hx⟩ := LRd_fld (hc c (List.mem_cons_self ..)).2
        exact ⟨x :: l, by rw [List.flatten_cons, h6]; rfl, by simp [h7], fun y hy => (List.mem_cons.1 hy).elim (fun e => e ▸ hx) (h8 y)⟩
    obtain ⟨l, h6, h7, h8⟩ := key css h5
    exact ⟨_, l, rfl, .inr ⟨b, _, _, by rw [h7, h3], h1, by rw [h2, h6]⟩, by omega, h8⟩
theorem LRd_body {h : LHeap} {n : Nat} {cs : List Value} (hl : LRd Tryz.prog h n 23 cs) : ∃ v k, cs = [v] ∧ (∀ q h', lexec q (.lenS v) h' = some (.int .i64 (k : Nat), h')) ∧ k ≤ reachBytes := by
  rcases LRd_slice Tryz.underlying23 hl with rfl | ⟨b, len, css, m, rfl, rfl, h1, h2, h3, h4, h5⟩
  · exact ⟨_, 0, rfl, fun _ _ => rfl, by simp⟩
  · exact ⟨_, len, rfl, fun _ _ => rfl, h4⟩
theorem larg_req {h : LHeap} {n : Nat} {lv : Value} (hl : LArg Tryz.prog h n 25 lv) : ∃ m s p a fv bv l k, lv = reqV m s p a fv bv ∧ SL 2 fc h fv l ∧ RchF l ∧ (∀ q h', lexec q (.lenS bv) h' = some (.int .i64 (k : Nat), h')) ∧ k ≤ reachBytes ∧ m.size ≤ reachBytes ∧ s.size ≤ reachBytes ∧ p.size ≤ reachBytes ∧ a.size ≤ reachBytes := by
  rcases hl with ⟨g1, hl⟩ | ⟨g1, hl⟩
  · obtain ⟨⟨av⟩, rfl, hl⟩ := hl
    obtain ⟨_, parts, _, h1, h2, h3⟩ := LRd_struct Tryz.underlying25 hl
    match parts, h2 with
    | [p0, p1, p2, p3, p4, p5], _ =>
      obtain ⟨m, rfl, hm⟩ := LRd_string Tryz.underlying9 (h3 0 _ p0 rfl rfl).2
      obtain ⟨s, rfl, hs⟩ := LRd_string Tryz.underlying9 (h3 1 _ p1 rfl rfl).2
      obtain ⟨p, rfl, hp⟩ := LRd_string Tryz.underlying9 (h3 2 _ p2 rfl rfl).2
      obtain ⟨a, rfl, ha⟩ := LRd_string Tryz.underlying9 (h3 3 _ p3 rfl rfl).2
      obtain ⟨fv, l, rfl, hF, hR⟩ := LRd_flds (h3 4 _ p4 rfl rfl).2
      obtain ⟨bv, k, rfl, hB, hk⟩ := LRd_body (h3 5 _ p5 rfl rfl).2
      refine ⟨m, s, p, a, fv, bv, l, k, ?_, hF, hR, hB, hk, hm, hs, hp, ha⟩
      rw [show av = [.string m, .string s, .string p, .string a, fv, bv] from h1]
      rfl
  · simp [isAggP, Tryz.underlying25] at g1

/-! ### How much -/
def s5 (l : List Fld) : Nat := (l.map fun x => 5 + x.1.size + x.2.size).sum
theorem s5_append (a b : List Fld) : s5 (a ++ b) = s5 a + s5 b := by simp [s5]
theorem s5_cons (y : Fld) (l : List Fld) : s5 (y :: l) = (5 + y.1.size + y.2.size) + s5 l := by simp [s5]
theorem s5_take (l : List Fld) (i : Nat) : s5 (l.take i) ≤ s5 l := by
  conv => rhs; rw [← List.take_append_drop i l]
  rw [s5_append]; omega
theorem s5_mem {l : List Fld} {x : Fld} (h : x ∈ l) : 5 + x.1.size + x.2.size ≤ s5 l := by
  induction l with
  | nil => cases h
  | cons y l ih =>
    rw [s5_cons]
    rcases List.mem_cons.1 h with rfl | h
    · omega
    · have := ih h; omega
theorem s5_len (l : List Fld) : 5 * l.length ≤ s5 l := by
  induction l with
  | nil => simp
  | cons y l ih => rw [s5_cons, List.length_cons]; omega
def smallF (l : List Fld) : Bool := decide (s5 l ≤ 1000)

theorem sSmallF {h : LHeap} {v : Value} {l : List Fld} (S : SL 2 fc h v l) (hl : RchF l) :
    LCalls EC 23 [v] h fun u h' => u = .bool (smallF l) ∧ Ext h h' := by
  refine LCalls.enter (lf := lf23) rfl rfl (by simp [lf23]) ?_
  have el := fun h => S.len (q := EC.q) (h := h)
  have hrb : reachBytes < 2 ^ 47 := reachBytes_lt
  have hll := hl.1
  simp only [go_sem, lf23, ↓reduceIte, el]
  refine MC.cutb (fun fr hh => Ext h hh ∧ s5 l ≤ 1000) ?_ ?_
  · refine MC.loop (fun m fr hh => ∃ i, m = l.length - i ∧ i ≤ l.length ∧ fr = [(3, .int .i64 (s5 (l.take i) : Int)), (6, v), (7, .int .i64 (l.length : Int)), (8, .int .i64 (i : Int))] ∧ Ext h hh ∧ s5 (l.take i) ≤ 1000) l.length ⟨0, rfl, Nat.zero_le _, rfl, Ext.refl _, by simp [s5]⟩ ?_
    rintro m fr hh J ⟨i, rfl, hi, rfl, X, hs⟩ hJ
    by_cases hlt : i < l.length
    · obtain ⟨x, h3⟩ : ∃ x, l[i]? = some x := ⟨l[i], by simp [hlt]⟩
      obtain ⟨b, t, r, rfl, h1, h2⟩ := S.at h3
      obtain ⟨h4, hle⟩ := fc_cel.get h3
      simp only [fc] at h4
      have c0 : (0 : Int) ≤ (i : Int) := by omega
      have c1 : (i : Int) < (l.length : Int) := by omega
      have h2' : hh.get b = some (.cells (l.flatMap fc) t r) := by rw [X.get b h1]; exact h2
      have htk : s5 (l.take (i + 1)) = s5 (l.take i) + (5 + x.1.size + x.2.size) := by rw [List.take_add_one, h3, s5_append]; simp [s5]
      have hX : ∀ {c c'}, Ext hh ((hh.push c).set hh.size c') := (Ext.push _ _).set (Nat.le_refl _) _
      obtain ⟨hz1, hz2⟩ := hl.2 x (List.mem_of_getElem? h3)
      have w1 : IntKind.i64.wrap (5 + (x.1.size : Int)) = ((5 + x.1.size : Nat) : Int) := by rw [IntWalk.i64_in _ (by omega)]; omega
      have w2 : IntKind.i64.wrap (((5 + x.1.size : Nat) : Int) + (x.2.size : Int)) = ((5 + x.1.size + x.2.size : Nat) : Int) := by rw [IntWalk.i64_in _ (by omega)]; omega
      have w4 : IntKind.i64.wrap ((s5 (l.take i) : Int) + ((5 + x.1.size + x.2.size : Nat) : Int)) = (s5 (l.take (i + 1)) : Int) := by rw [IntWalk.i64_in _ (by omega), htk]; omega
      have w3 : IntKind.i64.wrap ((i : Int) + 1) = ((i + 1 : Nat) : Int) := by rw [IntWalk.i64_in _ (by omega)]; omega
      by_cases hbig : 1000 < s5 (l.take (i + 1))
      · have c3 : (1000 : Int) < (s5 (l.take (i + 1)) : Int) := by omega
        have hb : smallF l = false := by
          have := s5_take l (i + 1)
          simp only [smallF, decide_eq_false_iff_not]; omega
        simp only [go_sem, ↓reduceIte, c0, c1, h2', hle, h4, w1, w2, w4, c3, Int.toNat_natCast]
        rw [hb]
        exact ⟨rfl, X.trans hX⟩
      · have c3 : ¬ (1000 : Int) < (s5 (l.take (i + 1)) : Int) := by omega
        simp only [go_sem, ↓reduceIte, c0, c1, h2', hle, h4, w1, w2, w4, c3, w3, Int.toNat_natCast]
        exact hJ (l.length - (i + 1)) _ _ (by omega) ⟨i + 1, rfl, by omega, rfl, X.trans hX, by omega⟩
    · have c1 : ¬ (i : Int) < (l.length : Int) := by omega
      obtain rfl : i = l.length := by omega
      simp only [go_sem, ↓reduceIte, c1]
      rw [List.take_length] at hs
      exact ⟨X, hs⟩
  · rintro fr hh ⟨X, hs⟩
    have hb : smallF l = true := decide_eq_true hs
    rw [hb]
    simp only [go_sem, ↓reduceIte]
    exact X

def wordsB (m s p a : ByteArray) (l : List Fld) (k : Nat) : Bool := ((((decide (m.size < 5000) && decide (s.size < 5000)) && decide (p.size < 5000)) && decide (a.size < 5000)) && smallF l) && decide (k < 5000)
theorem sWords (m s p a : ByteArray) {fv bv : Value} {l : List Fld} {k : Nat} {h : LHeap} (F : SL 2 fc h fv l) (hl : RchF l) (hb : ∀ q h', lexec q (.lenS bv) h' = some (.int .i64 (k : Nat), h')) :
    LCalls EC 13 [reqV m s p a fv bv] h fun u h' => u = .bool (wordsB m s p a l k) ∧ Ext h h' := by
  refine LCalls.enter (lf := lf13) rfl rfl (by simp [lf13]) ?_
  unfold wordsB
  simp only [reqV, go_sem, lf13, ↓reduceIte]
  generalize hq : h.push (LObj.cells [Value.string m, Value.string s, Value.string p, Value.string a, fv, bv] true true) = h1
  have X1 : Ext h h1 := by rw [← hq]; exact Ext.push _ _
  have g1 : h1.get h.size = some (.cells [.string m, .string s, .string p, .string a, fv, bv] true true) := by rw [← hq]; simp
  have s1 : h1.size = h.size + 1 := by rw [← hq]; simp
  by_cases em : m.size < 5000
  rotate_left
  · have dm : ¬ (m.size : Int) < 5000 := by omega
    simp only [go_sem, ↓reduceIte, g1, em, dm, decide_true, decide_false, Bool.false_and, Bool.true_and, Bool.and_false, Bool.and_true]
    exact X1
  have dm : (m.size : Int) < 5000 := by omega
  by_cases es : s.size < 5000
  rotate_left
  · have ds : ¬ (s.size : Int) < 5000 := by omega
    simp only [go_sem, ↓reduceIte, g1, em, dm, es, ds, decide_true, decide_false, Bool.false_and, Bool.true_and, Bool.and_false, Bool.and_true]
    exact X1
  have ds : (s.size : Int) < 5000 := by omega
  by_cases ep : p.size < 5000
  rotate_left
  · have dp : ¬ (p.size : Int) < 5000 := by omega
    simp only [go_sem, ↓reduceIte, g1, em, dm, es, ds, ep, dp, decide_true, decide_false, Bool.false_and, Bool.true_and, Bool.and_false, Bool.and_true]
    exact X1
  have dp : (p.size : Int) < 5000 := by omega
  by_cases ea : a.size < 5000
  rotate_left
  · have da : ¬ (a.size : Int) < 5000 := by omega
    simp only [go_sem, ↓reduceIte, g1, em, dm, es, ds, ep, dp, ea, da, decide_true, decide_false, Bool.false_and, Bool.true_and, Bool.and_false, Bool.and_true]
    exact X1
  have da : (a.size : Int) < 5000 := by omega
  simp only [go_sem, ↓reduceIte, g1, em, dm, es, ds, ep, dp, ea, da, decide_true, decide_false, Bool.false_and, Bool.true_and, Bool.and_false, Bool.and_true]
  refine MCall.by (sSmallF (F.ext X1) hl) ?_
  rintro u h2 ⟨rfl, X2⟩
  have g2 := (X2.get h.size (by omega)).trans g1
  cases hsm : smallF l with
  | false =>
    simp only [go_sem, ↓reduceIte, decide_true, decide_false, Bool.false_and, Bool.true_and, Bool.and_false, Bool.and_true]
    exact X1.trans X2
  | true =>
    by_cases ek : k < 5000
    · have dk : (k : Int) < 5000 := by omega
      simp only [go_sem, ↓reduceIte, g2, hb, ek, dk, decide_true, decide_false, Bool.false_and, Bool.true_and, Bool.and_false, Bool.and_true]
      exact X1.trans X2
    · have dk : ¬ (k : Int) < 5000 := by omega
      simp only [go_sem, ↓reduceIte, g2, hb, ek, dk, decide_true, decide_false, Bool.false_and, Bool.true_and, Bool.and_false, Bool.and_true]
      exact X1.trans X2

theorem words_in {m s p a : ByteArray} {l : List Fld} {k : Nat} (h : wordsB m s p a l k = true) : m.size < 5000 ∧ s.size < 5000 ∧ p.size < 5000 ∧ a.size < 5000 ∧ s5 l ≤ 1000 ∧ k < 5000 := by
  unfold wordsB smallF at h
  simp only [Bool.and_eq_true, decide_eq_true_eq] at h
  obtain ⟨⟨⟨⟨⟨h1, h2⟩, h3⟩, h4⟩, h5⟩, h6⟩ := h
  exact ⟨h1, h2, h3, h4, h5, h6⟩
end Go.E1
