/-
  Texts joined: SrtC, SrtD, SrtE, SrtF, SrtG.
-/
import Derived.Test.YtmafdmpmilhnfaaGreatDoorKj
import Derived.Stop.RegionWithIn
import Derived.Test.YtmafdmpmilhnfaaGreatDoorKh
import Derived.Test.YtmafdmpmilhnfaaGreatDoorKe
/-
  The iterator over a tenant's live streams: which numbers it tells.
-/
namespace Go.E1
open Go Go.Proofs Go.RowKit Go.Maps Go.Sort Go.Shelf

/-- Whose stream a number is. -/
def ownI (id tn : Int) : Int := if 1 ≤ id ∧ id ≤ 2147483647 ∧ id % 2 = 1 ∧ 1 ≤ tn ∧ tn ≤ 64 then (id / 2) % tn else 0

set_option maxRecDepth 100000 in
set_option maxHeartbeats 1000000 in
theorem of1_gives {H : Type} (n : Nat) (hn : 2 ≤ n) (Bo io Bt it B off b nn : Nat) (t tn : Int) (D0 : DataW H) {R : Value → Option (DataW H × List MemPlace)} (w : World) (hBo : Bo < w.heap.size) (hBt : Bt < w.heap.size) (hB : B < w.heap.size)
    (ho : w.cell? ⟨Bo, io, none⟩ = some (.pointer (some ⟨B, off, none⟩))) (ht : w.cell? ⟨Bt, it, none⟩ = some (.int .i64 t)) (hm : w.cell? ⟨B, off + 8, none⟩ = some (.map (some b)))
    (hwn : ∀ W (id : Int) m, Below w.heap.size w W → CallsIn Fence.wide m Tryz.prog 98 #[.pointer (some ⟨B, off, none⟩), .int .i64 id] W fun e W' => e = .returned (.int .i64 (ownI id tn)) ∧ Below W.heap.size W W')
    (hown : w.ownsMap Tryz.prog 3 R b nn D0) :
    SeqB Fence.wide n Tryz.prog 164 #[.pointer (some ⟨Bo, io, none⟩), .pointer (some ⟨Bt, it, none⟩)] (fun ss => ∃ all : List Int, all.Perm (intKeys D0) ∧ ss = all.filter fun id => ownI id tn == t) (Maps.size D0) w := fun l J W hW hJ hB0 hY h0 => by
  have hownW : W.ownsMap Tryz.prog 3 R b nn D0 := by
    have hbl := hown.lt
    obtain ⟨es, clock, hb, Ft, hs, hD⟩ := hown
    exact ⟨es, clock, (hW.block b hbl).trans hb, Ft, hs, hD⟩
  have cO : ∀ W', Below w.heap.size w W' → W'.cell? ⟨Bo, io, none⟩ = some (.pointer (some ⟨B, off, none⟩)) := fun W' h => (h.cell (p := ⟨Bo, io, none⟩) hBo).trans ho
  have cT : ∀ W', Below w.heap.size w W' → W'.cell? ⟨Bt, it, none⟩ = some (.int .i64 t) := fun W' h => (h.cell (p := ⟨Bt, it, none⟩) hBt).trans ht
  have cM : ∀ W', Below w.heap.size w W' → W'.cell? ⟨B, off + 8, none⟩ = some (.map (some b)) := fun W' h => (h.cell (p := ⟨B, off + 8, none⟩) hB).trans hm
  have cO1 := cO W hW
  have cM1 := cM W hW
  refine callsIn_of_wp Tryz.func164 rfl trivial ?_ rfl
  simp only [Tryz.ntmps164, List.size_toArray, List.length_cons, List.length_nil, Nat.reduceAdd, Nat.reduceSub, Array.replicate_succ, Array.replicate_zero, List.push_toArray, List.append_toArray, List.nil_append, List.cons_append]
  gi_wp2_with (first
    | (gi_at_range; refine wpListIn_range_own _ rfl _ 148 rfl 3 231 (int_keyed Tryz.underlying3) Tryz.underlying148 _ b nn _ rfl hownW ?_; intro w0 hrg0 hg0 hs0)
    | gi_in)
  go_frame
  gi_loopw [4] (fun _ wr => ∃ (left : Lit → Bool) (cnt : Nat) (all : List Int), wr.ranges Tryz.prog 3 R b W.heap.size nn D0 left cnt ∧ (all.filter fun id => ownI id tn == t).length + cnt ≤ Maps.size D0 ∧ CollectedI D0 left all ∧ J (all.filter fun id => ownI id tn == t) wr)
    (fun _ wr => wr.rangeLeft b W.heap.size)
  case atStart =>
    exact ⟨_, _, [], hrg0, by simp, CollectedI.start D0, hJ [] W w0 none h0 hg0 (fun r e => by cases e)⟩
  case round =>
    obtain ⟨left, cnt, all, hrg, hcs, hC, hJs⟩ := hrel
    gi_wp2_with (first
      | (gi_at_next; refine wpListIn_next_ranges _ rfl _ rfl 3 (int_keyed Tryz.underlying3) R encZ id (fun key kl hk => by obtain ⟨x, hx, _⟩ := Maps.keyOf_i64 Tryz.underlying3 hk; exact ⟨x, hx⟩) (fun v _ _ => ⟨v, rfl⟩) b W.heap.size nn _ _ _ rfl hrg ?_ ?_)
      | gi_in)
    · intro hc0 hl0
      gi_wp2
      go_end0
      exact ⟨⟨_, rfl⟩, _, ⟨all, hC.perm hownW (int_keyed Tryz.underlying3) Tryz.underlying3 hl0, rfl⟩, hJs⟩
    · intro x c kl yd yp w2 cnt2 hkey hlk hv hat hrg2 hlt hg2 hs2 hen
      obtain ⟨x', ex, rfl, _⟩ := Maps.keyOf_i64 Tryz.underlying3 hkey
      obtain rfl : x = x' := encZ_inj ex
      have hJ2 : J (all.filter fun id => ownI id tn == t) w2 := hJ _ wr w2 (some W.heap.size) hJs hg2 (fun r e => by cases e; exact ⟨Nat.le_refl _, hrg.iter_walk⟩)
      have hb2 := hB0 _ _ hJ2
      have cO2 := cO w2 hb2
      have cT2 := cT w2 hb2
      have hgd : w2.grownBy w2.drew none := ⟨rfl, rfl, rfl, Nat.le_refl _, fun _ _ _ => rfl⟩
      have hbd : Below w.heap.size w w2.drew := hb2.drew
      have hwd := fun m => hwn w2.drew x m hbd
      have behind : ∀ w3, Below w2.drew.heap.size w2.drew w3 → Below w.heap.size w w3 ∧ J (all.filter fun id => ownI id tn == t) w3 ∧ KeepsWalks w2 w3 := by
        intro w3 hb3
        have hg : w2.grownBy w3 none := ⟨hb3.os, hb3.tape, hb3.output, hb3.size, fun k hk _ => hb3.block k hk⟩
        refine ⟨hb2.grown hg hb2.size (fun k e => by cases e), hJ _ w2 w3 none hJ2 hg (fun r e => by cases e), ⟨hb3.size, fun k o hk _ => (hb3.block k (Array.getElem?_eq_some_iff.1 hk).1).trans hk⟩⟩
      clear hs2
      gi_wp2
      by_cases hot : ownI x tn = t
      · have hot' : (ownI x tn == t) = true := by simp [hot]
        gi_region_with (first
          | (refine ⟨trivial, fun _ => by omega, (hwd _).mono ?_⟩
             rintro e w3 ⟨rfl, hb3⟩
             obtain ⟨hb3', hJ3, hkw⟩ := behind w3 hb3
             have cT3 := cT w3 hb3'
             have hrg3 := hrg2.of_walks hkw
             obtain ⟨fn, tmps, assign, body, hy, hR⟩ := hY _ x w3 hJ3 (by omega))
          | (refine ⟨fun _ => by omega, hR.mono ?_⟩
             rintro e W3 ⟨rfl, hJ4, hk4⟩))
        all_goals
          have hrg4 := hrg3.of_walks hk4
          have hfl : (all ++ [x]).filter (fun id => ownI id tn == t) = all.filter (fun id => ownI id tn == t) ++ [x] := by
            rw [List.filter_append, List.filter_cons_of_pos (by simpa using hot), List.filter_nil]
          gi_wp2
          refine ⟨⟨_, _, _, _, _, _, _, _, _, _, _, _, _, _, _, _, ⟨_, cnt2, all ++ [x], hrg4, by rw [hfl]; simp; omega, hC.step hlk hat, by rw [hfl]; exact hJ4⟩, rfl⟩, ?_⟩
          rw [hrg4.left_eq, hrg.left_eq]; exact hlt
      · have hot' : (ownI x tn == t) = false := by simp [hot]
        first
        | gi_region_with (first
          | (refine ⟨trivial, fun _ => by omega, (hwd _).mono ?_⟩
             rintro e w3 ⟨rfl, hb3⟩
             obtain ⟨hb3', hJ3, hkw⟩ := behind w3 hb3
             have cT3 := cT w3 hb3'
             have hrg3 := hrg2.of_walks hkw)
          | refine ⟨fun f h => (nomatch h), ?_⟩)
        | fail "no region"
        all_goals
          have hfl : (all ++ [x]).filter (fun id => ownI id tn == t) = all.filter (fun id => ownI id tn == t) := by
            rw [List.filter_append, List.filter_cons_of_neg (by simpa using hot), List.filter_nil, List.append_nil]
          gi_wp2
          refine ⟨⟨_, _, _, _, _, _, _, _, _, _, _, _, _, _, _, _, ⟨_, cnt2, all ++ [x], hrg3, by rw [hfl]; omega, hC.step hlk hat, by rw [hfl]; exact hJ3⟩, rfl⟩, ?_⟩
          rw [hrg3.left_eq, hrg.left_eq]; exact hlt
end Go.E1

/-
  Whose stream a number is: the program's own answer.
-/
namespace Go.E1
open Go Go.Proofs

def ownB (id tn : Int) : Bool := decide (1 ≤ id) && decide (id ≤ 2147483647) && decide (id % 2 = 1) && decide (1 ≤ tn) && decide (tn ≤ 64)

theorem and_one (n : Nat) (h : n < 4294967296) : andI .i64 (n : Int) 1 = ((n % 2 : Nat) : Int) := by
  have e : ∀ x : Nat, BitVec.ofInt IntKind.i64.bits (x : Int) = BitVec.ofNat IntKind.i64.bits x := fun x => by simp
  unfold andI
  rw [show (1 : Int) = ((1 : Nat) : Int) from rfl, e, e]
  have h1 : (BitVec.ofNat IntKind.i64.bits n &&& BitVec.ofNat IntKind.i64.bits 1).toNat = n &&& 1 := by
    simp only [BitVec.toNat_and, BitVec.toNat_ofNat]
    rw [Nat.mod_eq_of_lt (by show n < 2 ^ 64; omega), Nat.mod_eq_of_lt (by decide)]
  rw [h1, Nat.and_one_is_mod]
  exact IntWalk.i64_in _ (by omega)

theorem cSome (h : LHeap) (tn : Int) : LCalls EI 55 [.int .i64 tn] h fun v h' => v = .bool (decide (1 ≤ tn) && decide (tn ≤ 64)) ∧ h' = h := by
  refine LCalls.enter (lf := lf55) rfl rfl (by simp [lf55]) ?_
  by_cases h1 : 1 ≤ tn <;> simp only [go_sem, lf55, h1, ↓reduceIte, decide_true, decide_false, Bool.true_and, Bool.false_and]

theorem cRegOwner (h : LHeap) (id tn : Int) : LCalls EI 30 [.int .i64 id, .int .i64 tn] h fun v h' => v = .tuple #[.int .i64 (ownI id tn), .bool (ownB id tn)] ∧ h' = h := by
  refine LCalls.enter (lf := lf30) rfl rfl (by simp [lf30]) ?_
  by_cases h1 : id < 1
  · have e : ownI id tn = 0 := if_neg (by omega)
    have e2 : ownB id tn = false := by simp [ownB]; omega
    simp only [go_sem, lf30, h1, ↓reduceIte, decide_true, e, e2]
  · by_cases h2 : id > 2147483647
    · have e : ownI id tn = 0 := if_neg (by omega)
      have e2 : ownB id tn = false := by simp [ownB]; omega
      simp only [go_sem, lf30, h1, h2, ↓reduceIte, decide_true, decide_false, e, e2]
    · obtain ⟨n, rfl⟩ := Int.eq_ofNat_of_zero_le (show 0 ≤ id by omega)
      have ha := and_one n (by omega)
      by_cases h3 : n % 2 = 0
      · have e : ownI n tn = 0 := if_neg (by omega)
        have e2 : ownB n tn = false := by simp [ownB]; omega
        have h3' : ((n % 2 : Nat) : Int) = 0 := by omega
        simp only [go_sem, lf30, h1, h2, ha, h3', ↓reduceIte, decide_true, decide_false, e, e2]
      · have h3' : ¬ ((n % 2 : Nat) : Int) = 0 := by omega
        have hb : ((((n % 2 : Nat) : Int)) == 0) = false := by simp; omega
        simp only [go_sem, lf30, h1, h2, ha, hb, ↓reduceIte, decide_true, decide_false]
        refine MCall.by (cSome _ tn) ?_
        rintro v h' ⟨rfl, rfl⟩
        by_cases h4 : 1 ≤ tn ∧ tn ≤ 64
        · have e : ownI n tn = (n / 2 : Int).tmod tn := by
            rw [ownI, if_pos (by omega), Int.tmod_eq_emod_of_nonneg (by omega)]
          have e2 : ownB n tn = true := by simp [ownB]; omega
          have hq : IntKind.i64.wrap ((n : Int).tdiv 2) = (n : Int) / 2 := by
            rw [Int.tdiv_eq_ediv_of_nonneg (by omega)]
            exact IntWalk.i64_in _ (by omega)
          have hz : ¬ tn = 0 := by omega
          simp only [go_sem, h4, hq, hz, ↓reduceIte, decide_true, Bool.and_self, Bool.not_true, e, e2]
        · have e : ownI n tn = 0 := if_neg (by omega)
          have e2 : ownB n tn = false := by simp [ownB]; omega
          have hs : (decide (1 ≤ tn) && decide (tn ≤ 64)) = false := by simp; omega
          simp only [go_sem, lf30, hs, ↓reduceIte, decide_true, decide_false, Bool.not_false, e, e2]
/-- The one cell that the owner's call looks at. -/
def oneH (tn : Int) : LHeap := LHeap.empty.push (.cells [.int .i64 tn] false false)
theorem cOwner (id tn : Int) : LCalls EI 98 [.pointer (some ⟨0, 0, none⟩), .int .i64 id] (oneH tn) fun v _ => v = .int .i64 (ownI id tn) := by
  refine LCalls.enter (lf := lf98) rfl rfl (by simp [lf98]) ?_
  have hg : (oneH tn).load1 0 0 = some (.int .i64 tn) := rfl
  simp only [go_sem, lf98, ↓reduceIte, hg]
  refine MCall.by (cRegOwner _ id tn) ?_
  rintro v h' ⟨rfl, rfl⟩
  simp only [go_sem, ↓reduceIte]

theorem hr_one {W : World} (hG : GlW W) {B off : Nat} {tn : Int} {c : Array Value} {e : TypeId} {fz : Nat × Nat} (hB : W.heap[B]? = some (.cells c e fz)) (hc : c[off]? = some (.int .i64 tn)) : HR (only (some ⟨B, off, c.size⟩)) (oneH tn) W := by
  have hlt : B < W.heap.size := (Array.getElem?_eq_some_iff.1 hB).1
  have hol : off < c.size := (Array.getElem?_eq_some_iff.1 hc).1
  have ro : ∀ b pl, only (some ⟨B, off, c.size⟩) b = some pl → b = 0 ∧ pl = ⟨B, off, c.size⟩ := fun b pl h => by
    unfold only at h
    split at h
    · rename_i e; exact ⟨e, (Option.some.inj h).symm⟩
    · cases h
  refine ⟨⟨fun b pl h => ?_, fun b pl h => ?_, fun b d pl ql h k hne _ => ?_, fun b pl h => ?_⟩, fun g cs hg => ⟨hG g cs hg, fun b pl h _ => ?_⟩⟩
  · obtain ⟨rfl, _⟩ := ro b pl h; exact Nat.zero_lt_one
  · obtain ⟨rfl, rfl⟩ := ro b pl h
    refine ⟨c, e, fz, hB, rfl, hol, (nomatch ·), fun i v hi => ?_, (nomatch ·)⟩
    cases i with
    | zero => cases hi; exact ⟨_, hc, .int _ _⟩
    | succ i => cases hi
  · exact absurd ((ro b pl h).1.trans (ro d ql k).1.symm) hne
  · obtain ⟨_, rfl⟩ := ro b pl h; exact hlt
  · obtain ⟨rfl, _⟩ := ro b pl h; rfl

theorem owner_in {W : World} (hG : GlW W) {B off : Nat} {tn : Int} (hc : W.cell? ⟨B, off, none⟩ = some (.int .i64 tn)) (id : Int) (m : Nat) :
    CallsIn Fence.wide m Tryz.prog 98 #[.pointer (some ⟨B, off, none⟩), .int .i64 id] W fun e W' => e = .returned (.int .i64 (ownI id tn)) ∧ RowKit.Below W.heap.size W W' := by
  obtain ⟨c, e, fz, hB, hcc⟩ : ∃ c e fz, W.heap[B]? = some (.cells c e fz) ∧ c[off]? = some (.int .i64 tn) := by
    unfold World.cell? at hc
    split at hc
    · rename_i c e fz h; exact ⟨c, e, fz, h, by simpa using hc⟩
    · cases hc
  have hr := hr_one hG hB hcc
  obtain ⟨v, h', ⟨_, hs⟩, rfl⟩ := (cOwner id tn).sound EI_ok
  refine callsIn_wide.2 ((hs _ W #[.pointer (some ⟨B, off, none⟩), .int .i64 id] hr ?_).mono ?_)
  · exact VRs.cons (.ptr (pl := ⟨B, off, c.size⟩) (o := 0) rfl) (VRs.cons (.int _ _) (.nil _))
  · rintro e' W' ⟨ν', v', rfl, hv', _, hst⟩
    cases hv'
    refine ⟨rfl, hst.below fun b pl h => ?_⟩
    unfold only at h
    split at h
    · rename_i e; subst e; rfl
    · cases h
end Go.E1

/-
  A map whose keys are whole numbers, as the shelf's contracts on ranges want it.
-/
namespace Go.E1
open Go Go.Proofs Go.Maps Go.WideElems

def Rone : Value → Option (DataW Unit × List MemPlace) := fun _ => some (.lit (.bool true), [])

theorem keyOf_int (n : Int) (h : -9223372036854775808 ≤ n ∧ n ≤ 9223372036854775807) : keyOf Tryz.prog 3 (.int .i64 n) = some (.int .i64 n) := by
  have hw : (Lit.int .i64 n).wf = true := by
    have h1 : IntKind.i64.min = -9223372036854775808 := rfl
    have h2 : IntKind.i64.max = 9223372036854775807 := rfl
    simp only [Lit.wf, h1, h2, Bool.and_eq_true, decide_eq_true_eq]
    exact h
  simp [keyOf, Tryz.underlying3, mapKey, hw]

theorem owns_ints {w : World} {b : Nat} {es : Array MapEntry} {clock : Nat} (hb : w.heap[b]? = some (.map es clock)) (hS : MapKept.Stamped es clock) (ks : List Int) (hk : es.toList.map (·.key) = ks.map (Value.int .i64 ·))
    (hw : ∀ k ∈ ks, -9223372036854775808 ≤ k ∧ k ≤ 9223372036854775807) (hsz : ks.length ≤ 1000000) :
    ∃ D : DataW Unit, w.ownsMap Tryz.prog 3 Rone b ks.length D ∧ (intKeys D).Perm ks ∧ Maps.size D = ks.length := by
  have hlen : es.size = ks.length := by have := congrArg List.length hk; simpa using this
  refine ⟨.map ((es.toList.map (rg Tryz.prog 3 Rone)).foldr DataW.insert []), ⟨es, clock, hb, ⟨by rw [hlen]; simp only [maxLen]; omega, hS, ?_⟩, by omega, rfl⟩, ?_, ?_⟩
  · intro x hx
    obtain ⟨i, hi, rfl⟩ := List.getElem_of_mem hx
    have hki : (es.toList[i]).key = .int .i64 (ks[i]'(by simpa [hlen] using hi)) := by
      have := congrArg (·[i]?) hk
      simp only [List.getElem?_map] at this
      rw [List.getElem?_eq_getElem hi, List.getElem?_eq_getElem (by simpa [hlen] using hi)] at this
      simpa using this
    refine ⟨(.int .i64 (ks[i]'(by simpa [hlen] using hi)), .lit (.bool true)), ?_⟩
    unfold rd
    rw [hki, keyOf_int _ (hw _ (List.getElem_mem _))]
    rfl
  · unfold intKeys
    refine ((WideShapes.sorted_perm _).map _).trans ?_
    rw [List.map_map]
    refine List.Perm.of_eq ?_
    apply List.ext_getElem?
    intro i
    rw [List.getElem?_map]
    have := congrArg (·[i]?) hk
    simp only [List.getElem?_map] at this
    cases he : es.toList[i]? with
    | none =>
      rw [he] at this
      cases hki : ks[i]? with
      | none => rfl
      | some k => rw [hki] at this; cases this
    | some x =>
      rw [he] at this
      cases hki : ks[i]? with
      | none => rw [hki] at this; cases this
      | some k =>
        rw [hki] at this
        have hx : x.key = .int .i64 k := by simpa using this
        simp only [Option.map_some, Function.comp_apply, Option.some.injEq]
        unfold rg rd
        rw [hx, keyOf_int _ (hw _ (List.mem_of_getElem? hki))]
        rfl
  · rw [Maps.size_eq, (WideShapes.sorted_perm _).length_eq]
    simp [hlen]
end Go.E1

/-
  slices.Sorted over a tenant's live streams, as a primitive.
-/
namespace Go.E1
open Go Go.Proofs

def insI (x : Int) : List Int → List Int
  | [] => [x]
  | y :: r => if x ≤ y then x :: y :: r else y :: insI x r
def isortI (l : List Int) : List Int := l.foldr insI []
theorem insI_perm (x : Int) : ∀ l, (insI x l).Perm (x :: l)
  | [] => .refl _
  | y :: r => by
    unfold insI
    split
    · exact .refl _
    · exact ((insI_perm x r).cons y).trans (.swap x y r)
theorem isortI_perm : ∀ l, (isortI l).Perm l
  | [] => .refl _
  | x :: l => (insI_perm x _).trans ((isortI_perm l).cons x)
theorem insI_sorted (x : Int) : ∀ l : List Int, l.Pairwise (· ≤ ·) → (insI x l).Pairwise (· ≤ ·)
  | [], _ => by simp [insI]
  | y :: r, h => by
    unfold insI
    rw [List.pairwise_cons] at h
    split
    · rename_i hxy
      refine List.pairwise_cons.2 ⟨fun a ha => ?_, List.pairwise_cons.2 h⟩
      rcases List.mem_cons.1 ha with rfl | ha
      · exact hxy
      · have := h.1 a ha; omega
    · rename_i hxy
      refine List.pairwise_cons.2 ⟨fun a ha => ?_, insI_sorted x r h.2⟩
      rcases List.mem_cons.1 ((insI_perm x r).mem_iff.1 ha) with rfl | ha
      · omega
      · exact h.1 a ha
theorem isortI_sorted : ∀ l, (isortI l).Pairwise (· ≤ ·)
  | [] => .nil
  | x :: l => insI_sorted x _ (isortI_sorted l)
theorem sort_eq {l m : List Int} (h : l.Perm m) : l.mergeSort (fun x y => decide (x ≤ y)) = isortI m := by
  refine List.Perm.eq_of_pairwise (le := fun a b : Int => a ≤ b) (fun a b _ _ h1 h2 => by omega) ?_ (isortI_sorted m) ((List.mergeSort_perm _ _).trans (h.trans (isortI_perm m).symm))
  have := List.pairwise_mergeSort (le := fun x y : Int => decide (x ≤ y)) (fun a b c h1 h2 => by simp at *; omega) (fun a b => by simp; omega) l
  exact this.imp (by simp)

def mkeys : List (Value × Value) → Option (List Int)
  | [] => some []
  | (.int .i64 n, _) :: r => if -9223372036854775808 ≤ n ∧ n ≤ 9223372036854775807 then (mkeys r).map (n :: ·) else none
  | _ => none

/-- A new block that was made outside of the engine. -/
theorem HR.newRow {ν : Inj} {h : LHeap} {w w' : World} (hr : HR ν h w) (hb : RowKit.Below w.heap.size w w') {B : Nat} {c : Array Value} {e : TypeId} (h1 : w.heap.size ≤ B) (h2 : w'.heap[B]? = some (.cells c e (0, 0))) {cs : List Value} (hlen : cs.length ≤ c.size)
    (hv : ∀ (i : Nat) v, cs[i]? = some v → ∃ v', c[i]? = some v' ∧ VR ν v v') :
    HR (ν.put h.size ⟨B, 0, c.size⟩) (h.push (.cells cs true true)) w' ∧ Step ν h w (ν.put h.size ⟨B, 0, c.size⟩) (h.push (.cells cs true true)) w' := by
  obtain ⟨k1, k2⟩ := hr.below hb
  have hlt : B < w'.heap.size := (Array.getElem?_eq_some_iff.1 h2).1
  have hle := Inj.le_put (pl := ⟨B, 0, c.size⟩) hr.fresh
  have old : ∀ b pl, (ν.put h.size ⟨B, 0, c.size⟩) b = some pl → b ≠ h.size → ν b = some pl := fun b pl hb hne => by simpa [Inj.put, hne] using hb
  have new : ∀ pl, (ν.put h.size ⟨B, 0, c.size⟩) h.size = some pl → pl = ⟨B, 0, c.size⟩ := fun pl hb => by rw [Inj.put_same] at hb; exact (Option.some.inj hb).symm
  refine hr.of0 ⟨⟨?_, ?_, ?_, ?_⟩, ⟨hle, hb.os, hb.tape, hb.output, hb.size, by simp, fun B' hB' _ => hb.block B' hB', ?_, fun x hx hn => ⟨by simp [Inj.put, Nat.ne_of_lt hx, hn], by simp [Nat.ne_of_lt hx]⟩⟩⟩
  · intro b pl hp
    by_cases e : b = h.size
    · simp [e]
    · have := hr.dom b pl (old b pl hp e); simp; omega
  · intro b pl hp
    by_cases e : b = h.size
    · subst e
      have := new pl hp; subst this
      simp only [LHeap.get_push, if_pos]
      exact ⟨c, _, (0, 0), h2, rfl, by simpa using hlen, fun _ => rfl, fun i v hi => let ⟨v', a, b⟩ := hv i v hi; ⟨v', by simpa using a, b.mono hle⟩, fun _ => .inl rfl⟩
    · have hp' := old b pl hp e
      simp only [LHeap.get_push, e, if_false]
      exact (k1.obj b pl hp').mono hle rfl
  · intro b d pl ql hp hq hne hB
    by_cases e : b = h.size
    · subst e
      have := new pl hp; subst this
      have := hr.real d ql (old d ql hq (Ne.symm hne))
      simp at hB; omega
    · by_cases e' : d = h.size
      · subst e'
        have := new ql hq; subst this
        have := hr.real b pl (old b pl hp e)
        simp at hB; omega
      · simp only [LHeap.get_push, e, e', if_false]
        exact hr.sep b d pl ql (old b pl hp e) (old d ql hq e') hne hB
  · intro b pl hp
    by_cases e : b = h.size
    · subst e
      have := new pl hp; subst this
      exact hlt
    · exact k1.real b pl (old b pl hp e)
  · intro b pl hp hw hlt'
    by_cases e : b = h.size
    · subst e
      have := new pl hp; subst this
      simp at hlt'; omega
    · simp only [LHeap.get_push, e, if_false] at hw
      exact ⟨b, pl, old b pl hp e, rfl, hw⟩
end Go.E1

/-
  slices.Sorted over a tenant's live streams, as a primitive: it is sound.
-/
namespace Go.E1
open Go Go.Proofs Go.Maps Go.Sort Go.Shelf

noncomputable def sortedP : List Value → LHeap → Option (Value × LHeap)
  | [.func (.func f) ⟨[]⟩ ⟨[.pointer (some ⟨bo, 0, none⟩), .pointer (some ⟨bt, 0, none⟩)]⟩], h =>
    if f = 164 then
      match h.load1 bo 0, h.load1 bt 0 with
      | some (.pointer (some ⟨b, o, none⟩)), some (.int .i64 t) => match h.load1 b o, h.load1 b (o + 8) with
        | some (.int .i64 tn), some (.map (some r)) => match h.get r with
          | some (.map es) => match mkeys es with
            | some ks => if ks.length ≤ 1000000 then
                (match isortI (ks.filter fun id => ownI id tn == t) with
                | [] => some (.slice none 0 0, h)
                | x :: l => some (.slice (some ⟨h.size, 0, none⟩) (l.length + 1) 1, h.push (.cells ((x :: l).map (Value.int .i64 ·)) true true)))
              else none
            | none => none
          | _ => none
        | _, _ => none
      | _, _ => none
    else none
  | _, _ => none

theorem mkeys_spec : ∀ {es : List (Value × Value)} {ks : List Int} {ν : Inj} {L : List MapEntry}, mkeys es = some ks → EntR ν es L → L.map (·.key) = ks.map (Value.int .i64 ·) ∧ ∀ k ∈ ks, -9223372036854775808 ≤ k ∧ k ≤ 9223372036854775807
  | [], ks, ν, L, h, hR => by
    cases h
    have : L = [] := List.eq_nil_of_length_eq_zero (by have := hR.1; simpa using this.symm)
    subst this
    exact ⟨rfl, fun k hk => nomatch hk⟩
  | e :: es, ks, ν, [], h, hR => by have := hR.1; simp at this
  | e :: es, ks, ν, e' :: L, h, hR => by
    obtain ⟨key, val⟩ := e
    unfold mkeys at h
    split at h
    · rename_i heq; cases heq
    · rename_i n v r heq
      cases heq
      split at h
      · rename_i hn
        obtain ⟨ks', hks, rfl⟩ := Option.map_eq_some_iff.1 h
        obtain ⟨i1, i2⟩ := mkeys_spec hks hR.tail
        have hk := (hR.2 0 (.int .i64 n, val) e' rfl rfl).1.int_inv
        refine ⟨by simp only [List.map_cons, hk, i1], fun k hk' => ?_⟩
        rcases List.mem_cons.1 hk' with rfl | hk'
        · exact hn
        · exact i2 k hk'
      · cases h
    · cases h

set_option maxHeartbeats 1000000 in
theorem sortedP_sound {args : List Value} {h h' : LHeap} {v : Value} (hx : sortedP args h = some (v, h')) : Sound Tryz.prog 163 args h v h' := by
  refine ⟨⟨_, Tryz.func163, of_decide_eq_true (by kernel_rfl), by kernel_rfl⟩, fun ν w args' hr hargs => ?_⟩
  unfold sortedP at hx
  split at hx
  rotate_left
  · cases hx
  rename_i f bo bt
  split at hx
  rotate_left
  · cases hx
  rename_i hf
  subst hf
  split at hx
  rotate_left
  · cases hx
  rename_i b o t ho ht
  split at hx
  rotate_left
  · cases hx
  rename_i tn r htn hm
  split at hx
  rotate_left
  · cases hx
  rename_i es hg
  split at hx
  rotate_left
  · cases hx
  rename_i ks hks
  split at hx
  rotate_left
  · cases hx
  rename_i hlen
  obtain ⟨f', l1, e1, hfv, hl1⟩ := hargs.cons_inv
  have := hl1.nil_inv
  subst this
  cases hfv with
  | @func _ _ c' hcs hcv =>
    obtain ⟨c'⟩ := c'
    have hvr : VRs ν [.pointer (some ⟨bo, 0, none⟩), .pointer (some ⟨bt, 0, none⟩)] c' := ⟨by simpa using hcs, fun i a a' p q => hcv i a a' (by simpa using p) (by simpa using q)⟩
    obtain ⟨p1, l2, rfl, hp1, hl2⟩ := hvr.cons_inv
    obtain ⟨p2, l3, rfl, hp2, hl3⟩ := hl2.cons_inv
    have := hl3.nil_inv
    subst this
    obtain ⟨plo, hbo, rfl⟩ := hp1.ptr_inv
    obtain ⟨plt, hbt, rfl⟩ := hp2.ptr_inv
    obtain ⟨xo, co, vo⟩ := hr.load1 ho hbo
    obtain ⟨plb, hbb, rfl⟩ := vo.ptr_inv
    obtain ⟨xt, ct, vt⟩ := hr.load1 ht hbt
    have := vt.int_inv; subst this
    obtain ⟨xn, cn, vn⟩ := hr.load1 htn hbb
    have := vn.int_inv; subst this
    obtain ⟨xm, cm, vm⟩ := hr.load1 hm hbb
    obtain ⟨plr, hbr, rfl⟩ : ∃ pl, ν r = some pl ∧ xm = .map (some pl.B) := by cases vm with | map hp => exact ⟨_, hp, rfl⟩
    have hob := hr.obj r plr hbr
    rw [hg] at hob
    obtain ⟨ents, clock, g1, g2, gs⟩ := hob
    obtain ⟨hk1, hk2⟩ := mkeys_spec hks g2.ent
    obtain ⟨D, hown, hperm, hsz⟩ := owns_ints g1 gs ks hk1 hk2 hlen
    have hG := hr.glW
    have hBo : plo.B < w.heap.size := hr.real _ _ hbo
    have hBt : plt.B < w.heap.size := hr.real _ _ hbt
    have hBb : plb.B < w.heap.size := hr.real _ _ hbb
    have cm' : w.cell? ⟨plb.B, plb.base + o + 8, none⟩ = some (.map (some plr.B)) := by rw [Nat.add_assoc]; exact cm
    have hwn : ∀ W (id : Int) m, RowKit.Below w.heap.size w W → CallsIn Fence.wide m Tryz.prog 98 #[.pointer (some ⟨plb.B, plb.base + o, none⟩), .int .i64 id] W fun e W' => e = .returned (.int .i64 (ownI id tn)) ∧ RowKit.Below W.heap.size W W' := fun W id m hb =>
      owner_in (W := W) (fun g cs hg => by
        obtain ⟨c, e, fz, q1, q2, q3⟩ := hG g cs hg
        exact ⟨c, e, fz, (hb.block g (Array.getElem?_eq_some_iff.1 q1).1).trans q1, q2, q3⟩) ((hb.cell (p := ⟨plb.B, plb.base + o, none⟩) hBb).trans cn) id m
    have hseq := of1_gives 5 (by omega) plo.B (plo.base + 0) plt.B (plt.base + 0) plb.B (plb.base + o) plr.B ks.length t tn D w hBo hBt hBb co ct cm' hwn hown
    have hsort := seqSorted Tryz.sortedA Fence.wide 8 trivial trivial trivial trivial rfl (by omega) (Tryz.sortsA _) (enters_of Tryz.func187 (by kernel_rfl) rfl) 164 #[.pointer (some ⟨plo.B, plo.base + 0, none⟩), .pointer (some ⟨plt.B, plt.base + 0, none⟩)] trivial (enters_of Tryz.func164 (by kernel_rfl) rfl) _ _ (by rw [hsz]; simp only [maxLen]; omega) (by rw [hsz]; omega) w hseq
    have he : args' = #[.func (.func 164) #[] #[.pointer (some ⟨plo.B, plo.base + 0, none⟩), .pointer (some ⟨plt.B, plt.base + 0, none⟩)]] := by
      apply Array.ext'
      simpa using e1
    rw [he]
    change CallsIn Fence.wide 8 Tryz.prog 163 _ _ _ at hsort
    refine ((callsIn_wide (n := 8)).1 hsort).mono ?_
    rintro e w' ⟨u, ss, rfl, ⟨all, hall, rfl⟩, hrow, hnil, hbel⟩
    have hsrt : (all.filter fun id => ownI id tn == t).mergeSort (fun x y => decide (x ≤ y)) = isortI (ks.filter fun id => ownI id tn == t) := sort_eq ((hall.trans hperm).filter _)
    have hlf : (all.filter fun id => ownI id tn == t).length = (isortI (ks.filter fun id => ownI id tn == t)).length := by rw [← hsrt, List.length_mergeSort]
    rw [hsrt] at hrow
    split at hx
    · rename_i hL
      cases hx
      have hss : (all.filter fun id => ownI id tn == t) = [] := List.eq_nil_of_length_eq_zero (by rw [hlf, hL]; rfl)
      obtain rfl := hnil.2 hss
      obtain ⟨h1, h2⟩ := hr.below hbel
      exact ⟨ν, _, rfl, .snil, h1, h2⟩
    · rename_i x l hL
      cases hx
      rw [hL] at hrow hlf
      rcases hrow.2 with ⟨rfl, hz⟩ | ⟨g, cap, cur, rfl, hbase, hgb, r1, r2, r3, r4⟩
      · rw [hlf] at hz; simp at hz
      · have hl1 : (all.filter fun id => ownI id tn == t).length = l.length + 1 := by rw [hlf]; rfl
        rw [hl1, Nat.mul_one] at r4
        rw [hl1] at r1
        obtain ⟨H1, H2⟩ := hr.newRow hbel hbase hgb (cs := (x :: l).map (Value.int .i64 ·)) (by rw [r3, Nat.mul_one]; simpa using r1) (fun i v hi => by
          have hi' : i < l.length + 1 := by
            rcases Nat.lt_or_ge i (l.length + 1) with q | q
            · exact q
            · rw [List.getElem?_eq_none (by simpa using q)] at hi; cases hi
          have : (cur.toList.take (l.length + 1))[i]? = some v := by rw [r4]; exact hi
          rw [List.getElem?_take, if_pos hi'] at this
          refine ⟨v, by simpa using this, ?_⟩
          rw [List.getElem?_map] at hi
          obtain ⟨z, _, rfl⟩ := Option.map_eq_some_iff.1 hi
          exact .int _ _)
        refine ⟨_, _, rfl, ?_, H1, H2⟩
        rw [hl1]
        exact VR.slice (o := 0) (Inj.put_same ν h.size _) r1 (by simp only; omega)
end Go.E1
