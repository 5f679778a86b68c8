/-
 ViewGrows: the walk of the law.
-/
import Derived.Test.YtmafdmpmilhnfaaGreatDoorKo
namespace Go.E1
open Go Go.Proofs Go.M
set_option linter.unusedSimpArgs false

theorem toBA_app (a b : Bytes) : toBA a ++ toBA b = toBA (a ++ b) := by
 apply ByteArray.ext
 simp [toBA]
theorem SL.first {α : Type} {k : Nat} {c : α → List Value} (C : Cel k c) {h : LHeap} {v : Value} {l : List α} (S : SL k c h v l) : h.firstCells k v = some (l.length, l.flatMap c) := by
 rcases S with ⟨rfl, rfl⟩ | ⟨b, t, r, rfl, h1, h2⟩
 ·rfl
 ·by_cases h0 : l.length = 0
  ·obtain rfl : l = [] := List.length_eq_zero_iff.1 h0
   simp [LHeap.firstCells]
  ·rw [first_some h2 (by rw [C.flat_len]; omega) h0, List.drop_zero, ← C.flat_len, List.take_length]
theorem gl_cat {α : Type} {k by' : Nat} {c : α → List Value} (C : Cel k c) {q : EqF} {hh : LHeap} {v w : Value} {l m : List α} (g : GL k c hh v l) (hw : hh.firstCells k w = some (m.length, m.flatMap c)) (hr : ∀ n, n ≤ l.length + m.length → roomOk n by' = true) :
  ∃ v' hh', lexec q (.append k by' v w) hh = some (v', hh') ∧ GL k c hh' v' (l ++ m) ∧ hh.size ≤ hh'.size ∧ (∀ b, b < hh.size → blkOf v ≠ some b → hh'.get b = hh.get b) ∧ (∀ b, blkOf v' = some b → blkOf v = some b ∨ hh.size ≤ b) := by
 by_cases h0 : m.length = 0
 ·obtain rfl : m = [] := List.length_eq_zero_iff.1 h0
  refine ⟨v, hh, ?_, by simpa using g, Nat.le_refl _, fun _ _ _ => rfl, fun b hb => .inl hb⟩
  rcases g with ⟨rfl, rfl⟩ | ⟨b, rfl, h2, h3⟩
  ·exact x_append_zero (c := 0) hw
  ·have e1 : oneCells (([] : List α).flatMap c) = true := rfl
   have e2 := hr (l.length + 0) (by simp)
   simp only [List.length_nil] at hw
   have e3 := C.flat_len l
   simp [lexec, hw, e1, e2, h3, e3]
   exact ⟨e1, by simpa using e2⟩
 ·rcases g with ⟨rfl, rfl⟩ | ⟨b, rfl, h2, h3⟩
  ·refine ⟨_, _, x_append_none hw h0 (C.flat_one m) (hr _ (by simp)), .inr ⟨hh.size, rfl, by simp, by simp⟩, by simp, fun b hb _ => by simp [show b ≠ hh.size by omega], fun b hb => .inr (by simp only [blkOf_some, Option.some.injEq] at hb; omega)⟩
  ·refine ⟨_, _, x_append_some hw h0 h3 (by rw [C.flat_len]; omega) (C.flat_one m) (hr _ (Nat.le_refl _)), .inr ⟨hh.size, by rw [List.length_append], by simp, by simp [List.flatMap_append]⟩, by simp, fun i hi hne => by simp [show i ≠ hh.size by omega, show i ≠ b from fun h => hne (by rw [h]; rfl)], fun b hb => .inr (by simp only [blkOf_some, Option.some.injEq] at hb; omega)⟩

theorem plcO_append (T t : Int) (a b : List OutR) : plcO T t (a ++ b) = plcO T t a ++ (plcO T t b).map fun x => (x.1, x.2.1 + (outsB a).length, x.2.2) := by
 unfold plcO
 split
 ·rfl
 ·rw [plcs_append, plcs_shift]
theorem plcO_le (T t : Int) (l : List OutR) : (plcO T t l).length ≤ l.length := by
 unfold plcO
 split
 ·simp
 ·exact plcs_le T t l 0

theorem plcs_pos (T t : Int) : ∀ (l : List OutR) (p : Nat), ∀ y ∈ plcs T t p l, y.2.1 + y.2.2 ≤ p + (outsB l).length
 | [], p, y, hy => by simp [plcs] at hy
 | x :: l, p, y, hy => by
  have e : (outsB (x :: l)).length = x.c.length + x.s.length + (outsB l).length := by simp [outsB, Nat.add_assoc]
  rw [plcs] at hy
  rcases List.mem_append.1 hy with hy | hy
  ·unfold plcAt at hy
   split at hy
   ·simp only [List.mem_singleton] at hy
    subst hy
    simp only
    omega
   ·simp at hy
  ·have := plcs_pos T t l _ y hy
   omega
theorem plcO_pos (T t : Int) (l : List OutR) : ∀ y ∈ plcO T t l, y.2.1 + y.2.2 ≤ (outsB l).length := by
 unfold plcO
 split
 ·simp
 ·intro y hy
  have := plcs_pos T t l 0 y hy
  omega
theorem sViewGrows {h : LHeap} {va vb : Value} {la lb : List OutR} (A : SL 8 oc h va la) (B : SL 8 oc h vb lb) (hba : ∀ r ∈ la, OutOk h r) (hbb : ∀ r ∈ lb, OutOk h r) (hla : la.length * 96 ≤ reachBytes) (hlb : lb.length * 96 ≤ reachBytes) (T t : Int) :
  LCalls EC 5 [.agg #[va, vb, .int .i64 t, .int .i64 T]] h fun u _ => u = .bool true := by
 have hrb : reachBytes ≤ 140737488355328 := by decide
 refine LCalls.enter (lf := lf5) rfl rfl (by simp [lf5]) ?_
 obtain ⟨xa, na, ea, rfl⟩ : ∃ a n e, va = .slice a n e := by rcases A with ⟨_, rfl⟩ | ⟨b, _, _, rfl, _⟩ <;> exact ⟨_, _, _, rfl⟩
 obtain ⟨xb, nb, eb, rfl⟩ : ∃ a n e, vb = .slice a n e := by rcases B with ⟨_, rfl⟩ | ⟨b, _, _, rfl, _⟩ <;> exact ⟨_, _, _, rfl⟩
 simp only [go_sem, lf5, ↓reduceIte]
 generalize hq : LHeap.push _ _ = h0
 have X0 : Ext h h0 := by rw [← hq]; exact Ext.push _ _
 have g0 : h0.get h.size = some (.cells [.slice xa na ea, .slice xb nb eb, .int .i64 t, .int .i64 T] true true) := by rw [← hq]; simp [Value.cells]
 clear hq
 refine MC.dregion ?_
 simp only [go_sem, ↓reduceIte, g0]
 have A0 := A.ext X0
 have B0 := B.ext X0
 have ha0 : ∀ r ∈ la, OutOk h0 r := fun r hr => (hba r hr).ext X0
 have hb0 : ∀ r ∈ lb, OutOk h0 r := fun r hr => (hbb r hr).ext X0
 refine MCall.by (sSmallO A0 ha0 hla) ?_
 rintro u h1 ⟨⟨r, rfl, hr⟩, X1⟩
 cases r with
 | false => simp only [go_sem, ↓reduceIte]
 | true =>
  have hsa := hr rfl
  simp only [go_sem, ↓reduceIte]
  have A1 := A0.ext X1
  have B1 := B0.ext X1
  have ha1 : ∀ r ∈ la, OutOk h1 r := fun r hr => (ha0 r hr).ext X1
  have hb1 : ∀ r ∈ lb, OutOk h1 r := fun r hr => (hb0 r hr).ext X1
  refine MCall.by (sSmallO B1 hb1 hlb) ?_
  rintro u h2 ⟨⟨r, rfl, hr⟩, X2⟩
  cases r with
  | false => simp only [go_sem, ↓reduceIte]
  | true =>
   have hsb := hr rfl
   have hna := len_sum la
   have hnb := len_sum lb
   have A2 := A1.ext X2
   have B2 := B1.ext X2
   have ha2 : ∀ r ∈ la, OutOk h2 r := fun r hr => (ha1 r hr).ext X2
   have hb2 : ∀ r ∈ lb, OutOk h2 r := fun r hr => (hb1 r hr).ext X2
   have room : ∀ n, n ≤ 100000 → roomOk n 96 = true := fun n hn => by simp only [roomOk, Bool.and_eq_true, decide_eq_true_eq]; omega
   have G2 : GL 8 oc (h2.push (.cells [] true true)) (.slice (some ⟨h2.size, 0, none⟩) 0 8) [] := .inr ⟨h2.size, rfl, by simp, by simp⟩
   have XP : Ext h2 (h2.push (.cells [] true true)) := Ext.push _ _
   obtain ⟨v3, h3, e3, G3, s3, o3, w3⟩ := gl_cat (by' := 96) oc_cel (q := EC.q) G2 ((A2.ext XP).first oc_cel) (fun n hn => room n (by simp at hn; omega))
   have X3 : Ext h2 h3 := ⟨by simp at s3; omega, fun b hb => by rw [o3 b (by simp; omega) (by simp; omega)]; simp [show b ≠ h2.size by omega]⟩
   obtain ⟨v4, h4, e4, G4, s4, o4, w4⟩ := gl_cat (by' := 96) oc_cel (q := EC.q) G3 ((B2.ext X3).first oc_cel) (fun n hn => room n (by simp at hn; omega))
   have hv3 : ∀ b, blkOf v3 = some b → h2.size ≤ b := fun b e => by
    rcases w3 b e with q | q
    ·simp at q; omega
    ·simp at q; omega
   have X4 : Ext h2 h4 := ⟨by have := X3.size; omega, fun b hb => (o4 b (by have := X3.size; omega) (fun e => by have := hv3 b e; omega)).trans (X3.get b hb)⟩
   rw [List.nil_append] at G4
   have A4 := A2.ext X4
   have B4 := B2.ext X4
   have ha4 : ∀ r ∈ la, OutOk h4 r := fun r hr => (ha2 r hr).ext X4
   have hb4 : ∀ r ∈ lb, OutOk h4 r := fun r hr => (hb2 r hr).ext X4
   have Z4 := G4.sl
   have hz4 : ∀ r ∈ la ++ lb, OutOk h4 r := fun r hr => (List.mem_append.1 hr).elim (ha4 r) (hb4 r)
   have hsz : sumO (la ++ lb) ≤ 6000 := by rw [sumO_append]; omega
   simp only [go_sem, ↓reduceIte, lfill, e3, e4, Nat.zero_mul, Nat.zero_le]
   refine MC.dregion ?_
   simp only [go_sem, ↓reduceIte]
   refine MDCall.by (sVBytes Z4 hz4 (by omega)) ?_
   rintro uz h5 ⟨OZ, X5⟩
   have eZ5 := OZ.bytes.strV (q := EC.q)
   simp only [go_sem, ↓reduceIte, eZ5]
   refine MDCall.by (sVBytes (A4.ext X5) (fun r hr => (ha4 r hr).ext X5) (by omega)) ?_
   rintro ua h6 ⟨OA, X6⟩
   have eZ6 := (OZ.ext X6).bytes.strV (q := EC.q)
   have eA6 := OA.bytes.strV (q := EC.q)
   simp only [go_sem, ↓reduceIte, eZ5, eZ6, eA6]
   refine MDCall.by (sVBytes ((B4.ext X5).ext X6) (fun r hr => ((hb4 r hr).ext X5).ext X6) (by omega)) ?_
   rintro ub h7 ⟨OB, X7⟩
   have eZ7 := ((OZ.ext X6).ext X7).bytes.strV (q := EC.q)
   have eA7 := (OA.ext X7).bytes.strV (q := EC.q)
   have eB7 := OB.bytes.strV (q := EC.q)
   have hol := outs_le la
   have hob := outs_le lb
   have hsum : (toBA (outsB la)).size + (toBA (outsB lb)).size ≤ 4611686018427387904 := by rw [toBA_size, toBA_size]; omega
   have hcat : toBA (outsB la) ++ toBA (outsB lb) = toBA (outsB (la ++ lb)) := by rw [toBA_app, outsB_append]
   simp only [go_sem, ↓reduceIte, eZ5, eZ6, eZ7, eA6, eA7, eB7, hsum, hcat, beq_self_eq_true, Bool.not_true]
   have X47 := (X5.trans X6).trans X7
   refine MCall.by (sPlaces (A4.ext X47) (fun r hr => (ha4 r hr).ext X47) (by omega) T t) ?_
   rintro ux h8 ⟨PX, _, X8⟩
   simp only [go_sem, ↓reduceIte]
   have X48 := X47.trans X8
   refine MCall.by (sPlaces (B4.ext X48) (fun r hr => (hb4 r hr).ext X48) (by omega) T t) ?_
   rintro uy h9 ⟨PY, _, X9⟩
   simp only [go_sem, ↓reduceIte]
   have X49 := X48.trans X9
   refine MCall.by (sPlaces (Z4.ext X49) (fun r hr => (hz4 r hr).ext X49) (by omega) T t) ?_
   rintro uz' h10 ⟨PZ, _, X10⟩
   have X410 := X49.trans X10
   have PX10 := PX.ext (X9.trans X10)
   have PY10 := PY.ext X10
   have eX := fun hh => PX.len (q := EC.q) (h := hh)
   have eY := fun hh => PY.len (q := EC.q) (h := hh)
   have eZ := fun hh => PZ.len (q := EC.q) (h := hh)
   have hpa := plcO_append T t la lb
   have hpla := plcO_le T t la
   have hplb := plcO_le T t lb
   have hlen : (plcO T t (la ++ lb)).length = (plcO T t la).length + (plcO T t lb).length := by rw [hpa, List.length_append, List.length_map]
   have w1 : IntKind.i64.wrap (((plcO T t la).length : Int) + ((plcO T t lb).length : Int)) = ((plcO T t (la ++ lb)).length : Int) := by rw [IntWalk.i64_in _ (by omega), hlen]; omega
   have q0 : (((plcO T t (la ++ lb)).length : Int) != ((plcO T t (la ++ lb)).length : Int)) = false := by simp
   simp only [go_sem, ↓reduceIte, eX, eY, eZ, w1, q0]
   refine MC.loop (fun m fr hh => ∃ i, m = (plcO T t (la ++ lb)).length - i ∧ i ≤ (plcO T t (la ++ lb)).length ∧ fr = [(3, .slice xa na ea), (8, ux), (9, uy), (67, uz'), (68, .int .i64 ((plcO T t (la ++ lb)).length : Nat)), (69, .int .i64 (i : Nat))] ∧ Ext h10 hh) (plcO T t (la ++ lb)).length
    ⟨0, rfl, Nat.zero_le _, rfl, Ext.refl _⟩ ?_
   rintro m fr hh J ⟨i, rfl, hi, rfl, X⟩ hJ
   by_cases hlt : i < (plcO T t (la ++ lb)).length
   ·obtain ⟨x, hx⟩ : ∃ x, (plcO T t (la ++ lb))[i]? = some x := ⟨(plcO T t (la ++ lb))[i], by simp [hlt]⟩
    obtain ⟨b, rfl, g1, g2⟩ := PZ.at hx
    obtain ⟨k1, k2⟩ := pc_cel.get hx
    simp only [pc] at k1
    have d0 : (0 : Int) ≤ (i : Int) := by omega
    have e1 : (i : Int) < ((plcO T t (la ++ lb)).length : Int) := by omega
    have hg : hh.get b = _ := (X.get _ g1).trans g2
    have hnb : ¬ b = hh.size := by have := X.size; omega
    have hnn : ¬ hh.size = hh.size + 1 := by omega
    have w2 : IntKind.i64.wrap ((i : Int) + 1) = ((i + 1 : Nat) : Int) := by rw [IntWalk.i64_in _ (by omega)]; omega
    simp only [go_sem, ↓reduceIte, d0, e1, Int.toNat_natCast, hg, k1, k2, hnb, lfill]
    generalize hq : LHeap.set _ (hh.size + 1) _ = h12
    have hsz12 : h12.size = hh.size + 2 := by rw [← hq]; simp
    have X12 : Ext hh h12 := by rw [← hq]; exact ((((Ext.push _ _).set (Nat.le_refl _) _).trans (Ext.push _ _)).set (by simp) _)
    have gp : h12.get hh.size = some (.cells [.int .i64 x.1, .int .i64 (x.2.1 : Nat), .int .i64 (x.2.2 : Nat)] true true) := by rw [← hq]; simp
    have gw : h12.get (hh.size + 1) = some (.cells [.int .i64 0, .int .i64 0, .int .i64 0] true true) := by rw [← hq]; simp
    have XX := X.trans X12
    clear hq
    by_cases hix : i < (plcO T t la).length
    ·have e2 : (i : Int) < ((plcO T t la).length : Int) := by omega
     have hx2 : (plcO T t la)[i]? = some x := by rw [hpa, List.getElem?_append_left hix] at hx; exact hx
     obtain ⟨b2, rfl, f1, f2⟩ := PX10.at hx2
     obtain ⟨m1, m2⟩ := pc_cel.get hx2
     simp only [pc] at m1
     have hg2 : h12.get b2 = _ := (XX.get _ f1).trans f2
     have hnb2 : ¬ b2 = hh.size + 1 := by have := X.size; omega
     have hqp := q_place x.1 ((x.2.1 : Nat) : Int) ((x.2.2 : Nat) : Int)
     simp only [go_sem, ↓reduceIte, d0, e2, eX, decide_true, Int.toNat_natCast, hg2, m1, m2, gp, gw, hnn, hnb2, hqp, Bool.not_true, w2]
     exact hJ _ _ _ (by omega) ⟨i + 1, rfl, by omega, rfl, XX.set (by have := X.size; omega) _⟩
    ·have e2 : ¬ (i : Int) < ((plcO T t la).length : Int) := by omega
     have hx2 : ((plcO T t lb).map fun x => (x.1, x.2.1 + (outsB la).length, x.2.2))[i - (plcO T t la).length]? = some x := by rw [hpa, List.getElem?_append_right (by omega)] at hx; exact hx
     rw [List.getElem?_map] at hx2
     obtain ⟨y, hy, hxy⟩ := Option.map_eq_some_iff.1 hx2
     obtain ⟨b2, rfl, f1, f2⟩ := PY10.at hy
     obtain ⟨m1, m2⟩ := pc_cel.get hy
     simp only [pc] at m1
     subst hxy
     have hg2 : h12.get b2 = _ := (XX.get _ f1).trans f2
     have hnb2 : ¬ b2 = hh.size + 1 := by have := X.size; omega
     have w4 : IntKind.i64.wrap ((i : Int) - ((plcO T t la).length : Int)) = ((i - (plcO T t la).length : Nat) : Int) := by rw [IntWalk.i64_in _ (by omega)]; omega
     have d2 : (0 : Int) ≤ ((i - (plcO T t la).length : Nat) : Int) := by omega
     have e4 : ((i - (plcO T t la).length : Nat) : Int) < ((plcO T t lb).length : Int) := by omega
     simp only [go_sem, ↓reduceIte, d2, e2, e4, eX, decide_false, Int.toNat_natCast, hg2, m1, m2, gp, gw, hnn, hnb2, w4]
     generalize hq : LHeap.set _ (hh.size + 1) _ = h13
     have X13 : Ext hh h13 := by rw [← hq]; exact X12.set (by omega) _
     have hsz13 : h13.size = hh.size + 2 := by rw [← hq]; simp [hsz12]
     have gp13 : h13.get hh.size = _ := (by rw [← hq]; simp : h13.get hh.size = h12.get hh.size).trans gp
     have gw13 : h13.get (hh.size + 1) = some (.cells [.int .i64 y.1, .int .i64 (y.2.1 : Nat), .int .i64 (y.2.2 : Nat)] true true) := by rw [← hq]; simp [hsz12]
     clear hq
     have XA := (X410.trans X).trans X13
     refine MC.dregion ?_
     simp only [go_sem, ↓reduceIte, gw13]
     refine MDCall.by (sVSum (A4.ext XA) (fun r hr => (ha4 r hr).ext XA) (by omega)) ?_
     rintro u14 h14 ⟨rfl, X14⟩
     have gp14 : h14.get hh.size = _ := (X14.get _ (by omega)).trans gp13
     have gw14 : h14.get (hh.size + 1) = _ := (X14.get _ (by omega)).trans gw13
     have hyb : y.2.1 + (outsB la).length < 4611686018427387904 := by have := plcO_pos T t lb y (List.mem_of_getElem? hy); omega
     have w5 : IntKind.i64.wrap (((y.2.1 : Nat) : Int) + (((outsB la).length : Nat) : Int)) = ((y.2.1 + (outsB la).length : Nat) : Int) := by rw [IntWalk.i64_in _ (by omega)]; omega
     have hqp := q_place y.1 ((y.2.1 + (outsB la).length : Nat) : Int) ((y.2.2 : Nat) : Int)
     simp only [go_sem, ↓reduceIte, gw13, gw14, gp14, hnn, w5, hqp, Bool.not_true, w2]
     exact hJ _ _ _ (by omega) ⟨i + 1, rfl, by omega, rfl, (X.trans (X13.trans X14)).set (by have := X.size; omega) _⟩
   ·have e1 : ¬ (i : Int) < ((plcO T t (la ++ lb)).length : Int) := by omega
    simp only [go_sem, ↓reduceIte, e1]

theorem larg_parts {h : LHeap} {n : Nat} {lv : Value} (hl : LArg Tryz.prog h n 46 lv) : ∃ va vb la lb t T, lv = .agg #[va, vb, .int .i64 t, .int .i64 T] ∧ (SL 8 oc h va la ∧ (∀ r ∈ la, OutOk h r) ∧ la.length * 96 ≤ reachBytes) ∧ (SL 8 oc h vb lb ∧ (∀ r ∈ lb, OutOk h r) ∧ lb.length * 96 ≤ reachBytes) := by
 rcases hl with ⟨g1, hl⟩ | ⟨g1, hl⟩
 ·obtain ⟨⟨av⟩, rfl, hl⟩ := hl
  obtain ⟨_, parts, _, h1, h2, h3⟩ := LRd_struct Tryz.underlying46 hl
  match parts, h2 with
  | [p0, p1, p2, p3], _ =>
   obtain ⟨va, la, rfl, ha⟩ := LRd_outs (h3 0 _ p0 rfl rfl).2
   obtain ⟨vb, lb, rfl, hb⟩ := LRd_outs (h3 1 _ p1 rfl rfl).2
   obtain ⟨t, rfl, _⟩ := LRd_int Tryz.underlying3 (h3 2 _ p2 rfl rfl).2
   obtain ⟨T, rfl, _⟩ := LRd_int Tryz.underlying3 (h3 3 _ p3 rfl rfl).2
   refine ⟨va, vb, la, lb, t, T, ?_, ha, hb⟩
   rw [show av = [va, vb, .int .i64 t, .int .i64 T] from h1]
 ·simp [isAggP, Tryz.underlying46] at g1
theorem lawGrows (h : LHeap) (lvs : List Value) (hl : LArgs Tryz.prog h 6 [46] lvs) : LCalls EC 5 lvs h fun v _ => v = .bool true := by
 obtain ⟨v0, r0, rfl, h0, hr0⟩ := LArgs_cons hl
 obtain rfl := LArgs_nil hr0
 obtain ⟨va, vb, la, lb, t, T, rfl, ⟨A, ha, hla⟩, ⟨B, hb, hlb⟩⟩ := larg_parts h0
 exact sViewGrows A B ha hb hla hlb T t
end Go.E1
