/-
  Texts joined: SLay, SRune, SAny, Base, RefA, Del.
-/
import Derived.Shelf.Strings.IndexAnyAll
import Derived.Shelf.Small.Strs
import Derived.Test.YtmafdmpmilhnfaaGreatDoorProg
import Derived.Laws.Runes
import Derived.Deep.LoopGhost
import Derived.Shelf.Small.Utf8
import Derived.Shelf.RegionOpenPlain
import Derived.RegionTactic
import Derived.Deep.RegionWith
import Derived.Laws.Strings3
import Derived.Test.YtmafdmpmilhnfaaGreatDoorKg
import Derived.Test.YtmafdmpmilhnfaaGreatDoorKlB
import Derived.Test.YtmafdmpmilhnfaaGreatDoorKlC
import Derived.Test.YtmafdmpmilhnfaaGreatDoorKlE
import Derived.Test.YtmafdmpmilhnfaaGreatDoorKlF
import Derived.Test.YtmafdmpmilhnfaaGreatDoorKlG
import Derived.Test.YtmafdmpmilhnfaaGreatDoorKlH
import Derived.Test.YtmafdmpmilhnfaaGreatDoorKd
import Derived.WalkKit
import Derived.Deep.RegionLaw
import Derived.Lib.Walk
import Derived.Lib.SliceRun
/-
 strings.IndexByte, strings.ContainsAny: laid over the program.
-/
namespace Go.E1
open Go Go.Proofs Go.Shelf

def strRen : Ren := ⟨fun x => if x = 119 then 243 else if x = 137 then 201 else if x = 150 then 181 else if x = 152 then 220 else if x = 153 then 202 else if x = 217 then 219 else if x = 224 then 244 else if x = 225 then 245 else if x = 226 then 221 else if x = 227 then 222 else if x = 228 then 223 else if x = 266 then 242 else x, fun x => if x = 0 then 0 else if x = 3 then 3 else if x = 4 then 4 else if x = 5 then 5 else if x = 9 then 9 else if x = 21 then 21 else if x = 46 then 196 else if x = 116 then 353 else if x = 117 then 354 else if x = 124 then 392 else x, fun x => x⟩
theorem strRenLay150 : Lays.n150 Tryz.prog strRen where
 mixed := by kernel_rfl
 f119 := Tryz.func243.trans (congrArg some (by kernel_rfl))
 f137 := Tryz.func201.trans (congrArg some (by kernel_rfl))
 f150 := Tryz.func181.trans (congrArg some (by kernel_rfl))
 f152 := Tryz.func220.trans (congrArg some (by kernel_rfl))
 f153 := Tryz.func202.trans (congrArg some (by kernel_rfl))
 f217 := Tryz.func219.trans (congrArg some (by kernel_rfl))
 f224 := Tryz.func244.trans (congrArg some (by kernel_rfl))
 f225 := Tryz.func245.trans (congrArg some (by kernel_rfl))
 f226 := Tryz.func221.trans (congrArg some (by kernel_rfl))
 f227 := Tryz.func222.trans (congrArg some (by kernel_rfl))
 f228 := Tryz.func223.trans (congrArg some (by kernel_rfl))
 f266 := Tryz.func242.trans (congrArg some (by kernel_rfl))
 t0 := Tryz.underlying0
 a0 := Tryz.isAgg0
 z0 := Tryz.sizeOf0
 v0 := Tryz.zeroValue0
 t3 := Tryz.underlying3
 a3 := Tryz.isAgg3
 z3 := Tryz.sizeOf3
 v3 := Tryz.zeroValue3
 t4 := Tryz.underlying4
 a4 := Tryz.isAgg4
 z4 := Tryz.sizeOf4
 v4 := Tryz.zeroValue4
 t5 := Tryz.underlying5
 a5 := Tryz.isAgg5
 z5 := Tryz.sizeOf5
 v5 := Tryz.zeroValue5
 t9 := Tryz.underlying9
 a9 := Tryz.isAgg9
 z9 := Tryz.sizeOf9
 v9 := Tryz.zeroValue9
 t21 := Tryz.underlying21
 a21 := Tryz.isAgg21
 z21 := Tryz.sizeOf21
 v21 := Tryz.zeroValue21
 t46 := Tryz.underlying196
 a46 := Tryz.isAgg196
 z46 := Tryz.sizeOf196
 v46 := Tryz.zeroValue196
 t116 := Tryz.underlying353
 a116 := Tryz.isAgg353
 z116 := Tryz.sizeOf353
 t117 := Tryz.underlying354
 a117 := Tryz.isAgg354
 z117 := Tryz.sizeOf354
 v117 := Tryz.zeroValue354
 t124 := Tryz.underlying392
 a124 := Tryz.isAgg392
 z124 := Tryz.sizeOf392
 v124 := Tryz.zeroValue392

theorem strRen137 : Lays.n137 Tryz.prog strRen := { strRenLay150 with }
theorem info256 : (Tryz.prog.info? (strRen.t 116)).map (fun i => (i.zero, i.size)) = some (some (.agg (Array.replicate 256 (.bool false))), 256) := by kernel_rfl
end Go.E1

/-
 strings.IndexRune of a rune beyond ASCII in an ASCII text: there is none.
-/
namespace Go.Proofs
open Go.Shelf Go.RowKit
variable {P : Program} {ρ : Ren}

set_option maxHeartbeats 4000000 in
set_option maxRecDepth 1000000 in
/-- The road of the mark of a fault. -/
theorem rune_fault (L : Lays.n152 P ρ) (s : ByteArray) (w : World) (hs : ∀ (j : Nat) b, s.data.toList[j]? = some b → b.toNat < 128) :
  Calls P (ρ.f 152) #[.string s, .int .i32 65533] w fun e w' => e = .returned (.int .i64 (-1)) ∧ ∃ pos, w' = w.iter s pos := by
 have HA : Aside (∀ (j : Nat) b, s.data.toList[j]? = some b → b.toNat < 128) := hs
 clear hs
 have t3 := L.t3; have a3 := L.a3; have z3 := L.z3; have v3 := L.v3
 have t4 := L.t4; have a4 := L.a4; have z4 := L.z4; have v4 := L.v4
 have t5 := L.t5; have a5 := L.a5; have z5 := L.z5; have v5 := L.v5
 have t9 := L.t9; have a9 := L.a9; have z9 := L.z9; have v9 := L.v9
 have t21 := L.t21; have a21 := L.a21; have z21 := L.z21; have v21 := L.v21
 go_enter L.f152, Body.n152_ntmps ρ
 go_wp2
 go_loopg [5, 6] s.size (fun g _ _ wx => ∃ i : Nat, i + g = s.size ∧ wx = w.iter s i)
 case atStart => exact ⟨0, by omega, rfl⟩
 case round =>
  obtain ⟨i, hig, rfl⟩ := hrel
  cases gk with
  | zero =>
   obtain rfl : i = s.size := by omega
   have hnx := run_next_end (P := P) w s s.size
   go_wp2
   go_ret
   exact ⟨rfl, _, rfl⟩
  | succ g =>
   have hi : i < s.size := by omega
   obtain ⟨x, hx⟩ : ∃ x : UInt8, s[i]'hi = x := ⟨_, rfl⟩
   have hx128 : x.toNat < 128 := HA.out i x (by rw [← hx]; exact Lib.data_getElem? s i hi)
   have hnx := fun ty => run_next_ascii (P := P) w s i ty hi (by rw [hx]; exact hx128)
   rw [hx] at hnx
   have hne : ((x.toNat : Int) == 65533) = false := beq_eq_false_iff_ne.2 (by omega)
   clear hx
   go_wp2
   go_roundg g
   case measure => omega
   case rel => exact ⟨i + 1, by omega, rfl⟩

theorem indexByte_no {c : UInt8} : ∀ {l : List UInt8}, (∀ b ∈ l, b ≠ c) → Lib.indexByte l c = -1
 | [], _ => rfl
 | b :: l, h => by
  have h1 : (b == c) = false := by simpa using h b (by simp)
  rw [Lib.indexByte, indexByte_no (l := l) fun x hx => h x (by simp [hx])]
  simp [h1]

set_option maxHeartbeats 8000000 in
set_option maxRecDepth 1000000 in
/-- The road of a rune that is right: the last byte of its text is none of the text's. -/
theorem rune_right (L : Lays.n152 P ρ) (s : ByteArray) (w : World) (r : Int) (hs : ∀ b ∈ s.data.toList, b.toNat < 128) (hz : s.size < 4294967281) (h0 : 128 ≤ r) (h1 : r ≤ 1114111) (h2 : r ≠ 65533) :
  Calls P (ρ.f 152) #[.string s, .int .i32 r] w fun e w' => e = .returned (.int .i64 (-1)) ∧ Below w.heap.size w w' := by
 have mixed := L.mixed
 have t3 := L.t3; have a3 := L.a3; have z3 := L.z3; have v3 := L.v3
 have t4 := L.t4; have a4 := L.a4; have z4 := L.z4; have v4 := L.v4
 have t5 := L.t5; have a5 := L.a5; have z5 := L.z5; have v5 := L.v5
 have t9 := L.t9; have a9 := L.a9; have z9 := L.z9; have v9 := L.v9
 have t21 := L.t21; have a21 := L.a21; have z21 := L.z21; have v21 := L.v21
 have e119 : ∀ args w, (callFunc (ρ.f 119) args).run P w = .ok (.enter (ρ.f 119) args) w := enters_of L.f119 (by kernel_rfl) rfl
 have e137 : ∀ args w, (callFunc (ρ.f 137) args).run P w = .ok (.enter (ρ.f 137) args) w := enters_of L.f137 (by kernel_rfl) rfl
 have hlt : ¬ r < 128 := by omega
 have hne : (r == 65533) = false := beq_eq_false_iff_ne.2 h2
 have h00 : (0 : Int) ≤ r := by omega
 cases hv : Lib.validRune r with
 | false =>
  clear hs
  go_enter L.f152, Body.n152_ntmps ρ
  go_wp2_with (go_at_fn (ρ.f 119); refine (Any.utf8_ValidRune { L with } _ _).mono ?_; rintro e w' ⟨rfl, hw⟩; rw [hw, hv])
  go_ret
  exact ⟨rfl, Below.refl _ _⟩
 | true =>
  have hvv : Utf8.valid r = true := by
   unfold Lib.validRune at hv
   have := of_decide_eq_true hv
   unfold Utf8.valid
   rcases this with ⟨a, b⟩ | ⟨a, b⟩ <;> simp <;> omega
  obtain ⟨n2, n4, hl⟩ := encode_facts r hvv h0
  generalize hE : Utf8.encode r = E at *
  obtain ⟨n, hn⟩ : ∃ n, n = E.size := ⟨_, rfl⟩
  have hlast := hl (by omega)
  generalize hL : E[E.size - 1]'(by omega) = c at *
  clear hl
  have hw1 : IntKind.i64.wrap ((E.size : Int) - 1) = ((E.size - 1 : Nat) : Int) := by rw [wrap_small _ (by omega) (by omega)]; omega
  go_enter L.f152, Body.n152_ntmps ρ
  go_wp2_with (go_at_fn (ρ.f 119); refine (Any.utf8_ValidRune { L with } _ _).mono ?_; rintro e w' ⟨rfl, hw⟩; rw [hw, hv])
  go_step3
  go_wp2
  go_loopg [9] 1 (fun g s9 wx => s9 = .int .i64 ((E.size - 1 : Nat) : Int) ∧ wx = w)
  case atStart => exact ⟨rfl, rfl⟩
  case round =>
   obtain ⟨rfl, rfl⟩ := hrel
   by_cases hlt : E.size - 1 < s.size
   ·obtain ⟨x, hx⟩ : ∃ x : UInt8, s[E.size - 1]'hlt = x := ⟨_, rfl⟩
    have hx128 : x.toNat < 128 := hs x (by rw [← hx]; exact Array.getElem_mem_toList (xs := s.data) hlt)
    have hneq : ((x.toNat : Int) == (c.toNat : Int)) = false := beq_eq_false_iff_ne.2 (by omega)
    have hltz : ((E.size - 1 : Nat) : Int) < (s.size : Int) := by omega
    have hw2 : IntKind.i64.wrap (((E.size - 1 : Nat) : Int) + 1) = ((E.size : Nat) : Int) := by rw [wrap_small _ (by omega) (by omega)]; omega
    have hno : Lib.indexByte (List.take (s.size - E.size) (List.drop E.size s.data.toList)) c = -1 := indexByte_no fun b hb => by
     have := hs b (List.mem_of_mem_drop (List.mem_of_mem_take hb))
     intro e
     rw [e] at this
     omega
    have hback : ((c.toNat : Int)).toNat.toUInt8 = c := by simp
    have hEs : ((E.size : Nat) : Int) ≤ (s.size : Int) := by omega
    clear hs
    go_wp2
    go_step3
    go_wp2
    go_region_o
    go_wp2
    go_region_with_o (go_at_fn (ρ.f 137); refine (Any.strings_IndexByte { L with } _ _ _).mono ?_; rintro e w' ⟨rfl, hw⟩; rw [hw])
    go_wp2
    rw [Exit.noGoto_ret]
    simp only [Exit.inBlock, Exit.then]
    try rw [Exit.noGoto_ret]
    try simp only [Exit.inBlock, Exit.then]
    go_ret
    exact ⟨rfl, (Below.refl _ _).drew.drew⟩
   ·have hltz : ¬ ((E.size - 1 : Nat) : Int) < (s.size : Int) := by omega
    clear hs
    go_wp2
    try rw [Exit.noGoto_ret]
    go_ret
    exact ⟨rfl, Below.refl _ _⟩
end Go.Proofs

/-
 strings.ContainsAny for an ASCII list of bytes, in any text.
-/
namespace Go.Proofs
open Go.Shelf Go.RowKit
variable {P : Program} {ρ : Ren}

theorem decode_width (s : ByteArray) (i : Nat) (hi : i < s.size) (h : 128 ≤ (s[i]'hi).toNat) :
  128 ≤ (Utf8.decode s i).1 ∧ (Utf8.decode s i).1 ≤ 1114111 ∧ 1 ≤ (Utf8.decode s i).2 ∧ i + (Utf8.decode s i).2 ≤ s.size ∧
  ∀ j, i ≤ j → j < i + (Utf8.decode s i).2 → ∃ hj : j < s.size, 128 ≤ (s[j]'hj).toNat := by
 have e : ∀ k (hk : k < s.size), s.get! k = s[k]'hk := fun k hk => by
  simp [ByteArray.get!, getElem!_pos, hk]
  rfl
 have e0 : (s.get! (i + 0)).toNat = (s[i]'hi).toNat := by rw [Nat.add_zero, e i hi]
 have one : ∀ j, i ≤ j → j < i + 1 → ∃ hj : j < s.size, 128 ≤ (s[j]'hj).toNat := fun j h1 h2 => by
  obtain rfl : j = i := by omega
  exact ⟨hi, h⟩
 have ct : ∀ k, (i + k < s.size && (s.get! (i + k)).toNat / 64 == 2) = true → ∃ hj : i + k < s.size, 128 ≤ (s[i + k]'hj).toNat := fun k hk => by
  simp only [Bool.and_eq_true, decide_eq_true_eq, beq_iff_eq] at hk
  refine ⟨hk.1, ?_⟩
  rw [e _ hk.1] at hk
  omega
 unfold Utf8.decode
 simp only [e0]
 rw [if_neg (by omega)]
 split
 ·rename_i h2
  simp only [Bool.and_eq_true] at h2
  obtain ⟨c1, c1'⟩ := ct 1 (by simp only [Bool.and_eq_true]; exact h2.2)
  split
  ·rename_i hc
   refine ⟨hc, ?_, by omega, by omega, fun j h3 h4 => ?_⟩
   ·have := (s.get! (i + 1)).toNat_lt
    omega
   ·by_cases hj : j = i
    ·exact one j (by omega) (by omega)
    ·obtain rfl : j = i + 1 := by omega
     exact ⟨c1, c1'⟩
  ·exact ⟨by decide, by decide, by decide, by omega, one⟩
 ·split
  ·rename_i h2
   simp only [Bool.and_eq_true] at h2
   obtain ⟨c1, c1'⟩ := ct 1 (by simp only [Bool.and_eq_true]; exact h2.1.2)
   obtain ⟨c2, c2'⟩ := ct 2 (by simp only [Bool.and_eq_true]; exact h2.2)
   split
   ·rename_i hc
    simp only [Bool.and_eq_true, decide_eq_true_eq] at hc
    refine ⟨by omega, by omega, by omega, by omega, fun j h3 h4 => ?_⟩
    by_cases hj : j = i
    ·exact one j (by omega) (by omega)
    ·by_cases hj1 : j = i + 1
     ·subst hj1; exact ⟨c1, c1'⟩
     ·obtain rfl : j = i + 2 := by omega
      exact ⟨c2, c2'⟩
   ·exact ⟨by decide, by decide, by decide, by omega, one⟩
  ·split
   ·rename_i h2
    simp only [Bool.and_eq_true] at h2
    obtain ⟨c1, c1'⟩ := ct 1 (by simp only [Bool.and_eq_true]; exact h2.1.1.2)
    obtain ⟨c2, c2'⟩ := ct 2 (by simp only [Bool.and_eq_true]; exact h2.1.2)
    obtain ⟨c3, c3'⟩ := ct 3 (by simp only [Bool.and_eq_true]; exact h2.2)
    split
    ·rename_i hc
     simp only [Bool.and_eq_true, decide_eq_true_eq] at hc
     have hv := hc.2
     unfold Utf8.valid at hv
     simp only [Bool.or_eq_true, Bool.and_eq_true, decide_eq_true_eq] at hv
     refine ⟨by omega, by omega, by omega, by omega, fun j h3 h4 => ?_⟩
     by_cases hj : j = i
     ·exact one j (by omega) (by omega)
     ·by_cases hj1 : j = i + 1
      ·subst hj1; exact ⟨c1, c1'⟩
      ·by_cases hj2 : j = i + 2
       ·subst hj2; exact ⟨c2, c2'⟩
       ·obtain rfl : j = i + 3 := by omega
        exact ⟨c3, c3'⟩
    ·exact ⟨by decide, by decide, by decide, by omega, one⟩
   ·exact ⟨by decide, by decide, by decide, by omega, one⟩

theorem rune_hi (L : Lays.n152 P ρ) (s : ByteArray) (w : World) (r : Int) (hs : ∀ b ∈ s.data.toList, b.toNat < 128) (hz : s.size < 4294967281) (h0 : 128 ≤ r) (h1 : r ≤ 1114111) :
  Calls P (ρ.f 152) #[.string s, .int .i32 r] w fun e w' => e = .returned (.int .i64 (-1)) ∧ Below w.heap.size w w' := by
 by_cases h2 : r = 65533
 ·subst h2
  refine (rune_fault L s w fun j b hb => hs b (List.mem_of_getElem? hb)).mono ?_
  rintro e w' ⟨rfl, pos, rfl⟩
  exact ⟨rfl, (Below.refl _ _).alloc (Nat.le_refl _) _⟩
 ·exact rune_right L s w r hs hz h0 h1 h2

def World.iterTo (w : World) (b : Nat) (s : ByteArray) (pos : Nat) : World := { w with heap := w.heap.setIfInBounds b (.stringIter s pos) }
theorem next_at {w : World} {b pos : Nat} {s : ByteArray} (ty : TypeId) (h : w.heap[b]? = some (.stringIter s pos)) (hp : pos < s.size) :
  (Instr.next (.pointer (some ⟨b, 0, none⟩)) true ty).run P w = .ok (.tuple #[.bool true, .int .i64 pos, .int .i32 (Utf8.decode s pos).1]) (World.iterTo w b s (pos + (Utf8.decode s pos).2)) := by
 simp [Instr.next, getObj, setObj, Sem.run, h, hp, Result.andThen, goInt, World.iterTo]
theorem next_over {w : World} {b pos : Nat} {s : ByteArray} (ty : TypeId) (h : w.heap[b]? = some (.stringIter s pos)) (hp : ¬ pos < s.size) :
  (Instr.next (.pointer (some ⟨b, 0, none⟩)) true ty).run P w = .ok (.tuple #[.bool false]) w := by
 simp [Instr.next, getObj, Sem.run, h, hp]
theorem iterTo_below {w w' : World} {B b pos : Nat} {s : ByteArray} (h : Below B w w') (hb : B ≤ b) : Below B w (World.iterTo w' b s pos) :=
 h.trans ⟨rfl, rfl, rfl, by simp [World.iterTo], fun k hk => by
  simp only [World.iterTo]
  rw [Array.getElem?_setIfInBounds]
  rw [if_neg (by omega)]⟩

set_option maxHeartbeats 8000000 in
set_option maxRecDepth 1000000 in
theorem any_short (L : Lays.n153 P ρ) (s chars : ByteArray) (w : World) (h2 : 2 ≤ chars.size) (hz : chars.size < 4294967281) (h8 : s.size ≤ 8) (hc : ∀ b ∈ chars.data.toList, b.toNat < 128) :
  Calls P (ρ.f 153) #[.string s, .string chars] w fun e w' => e = .returned (.int .i64 (Lib.indexAny s.data.toList chars.data.toList)) ∧ Below w.heap.size w w' := by
 have HC : Aside (∀ b ∈ chars.data.toList, b.toNat < 128) := hc
 clear hc
 have hemp : chars.toList.isEmpty = false := by
  rw [Lib.toList_data]
  cases h : chars.data.toList with
  | nil => have := Lib.size_eq chars; rw [h, List.length_nil] at this; omega
  | cons _ _ => rfl
 have hn1 : ((chars.size : Int) == 1) = false := beq_eq_false_iff_ne.2 (by omega)
 have h8z : decide ((8 : Int) < (s.size : Int)) = false := decide_eq_false (by omega)
 have t3 := L.t3; have a3 := L.a3; have z3 := L.z3; have v3 := L.v3
 have t4 := L.t4; have a4 := L.a4; have z4 := L.z4; have v4 := L.v4
 have t5 := L.t5; have a5 := L.a5; have z5 := L.z5; have v5 := L.v5
 have t9 := L.t9; have a9 := L.a9; have z9 := L.z9; have v9 := L.v9
 have t21 := L.t21; have a21 := L.a21; have z21 := L.z21; have v21 := L.v21
 have e152 : ∀ args w, (callFunc (ρ.f 152) args).run P w = .ok (.enter (ρ.f 152) args) w := enters_of L.f152 (by kernel_rfl) rfl
 have e226 : ∀ args w, (callFunc (ρ.f 226) args).run P w = .ok (.enter (ρ.f 226) args) w := enters_of L.f226 (by kernel_rfl) rfl
 go_enter L.f153, Body.n153_ntmps ρ
 go_wp2_with (go_at_fn (ρ.f 226); refine (Any.strings_shouldUseASCIISet { L with } _ _).mono ?_; rintro e w' ⟨rfl, hw⟩; rw [hw, h8z])
 go_loopg [9, 10] s.size (fun g _ _ wx => ∃ i : Nat, i + g = s.size ∧ w.heap.size < wx.heap.size ∧ wx.heap[w.heap.size]? = some (.stringIter s i) ∧ Below w.heap.size w wx ∧ Lib.NoAny s.data.toList chars.data.toList i)
 case atStart => exact ⟨0, by omega, by simp [World.iter], World.iter_heap w s 0, (Below.refl _ _).alloc (Nat.le_refl _) _, Lib.NoAny.zero _ _⟩
 case round =>
  obtain ⟨i, hig, hsz, hit, hbl, hno⟩ := hrel
  have HN : Aside (Lib.NoAny s.data.toList chars.data.toList i) := hno
  clear hno
  cases gk with
  | zero =>
   obtain rfl : i = s.size := by omega
   have hnx := fun ty => next_over (P := P) ty hit (Nat.lt_irrefl _)
   go_wp2
   go_ret
   exact ⟨by rw [Lib.indexAny_none (by rw [← Lib.size_eq]; exact HN.out)]; rfl, hbl⟩
  | succ g =>
   have hi : i < s.size := by omega
   obtain ⟨x, hx⟩ : ∃ x : UInt8, s[i]'hi = x := ⟨_, rfl⟩
   have hxl : s.data.toList[i]? = some x := by rw [← hx]; exact Lib.data_getElem? s i hi
   have hnx := fun ty => next_at (P := P) ty hit hi
   by_cases hx128 : x.toNat < 128
   ·rw [decode_ascii s i hi (by rw [hx]; exact hx128), hx] at hnx
    have hbl' : Below w.heap.size w (World.iterTo wr w.heap.size s (i + 1)) := iterTo_below hbl (Nat.le_refl _)
    have hit' : (World.iterTo wr w.heap.size s (i + 1)).heap[w.heap.size]? = some (.stringIter s (i + 1)) := by simp [World.iterTo, hsz]
    have hsz' : w.heap.size < (World.iterTo wr w.heap.size s (i + 1)).heap.size := by simpa [World.iterTo] using hsz
    generalize World.iterTo wr w.heap.size s (i + 1) = wn at *
    have Hx : Aside (s.data.toList[i]? = some x) := hxl
    clear hxl hx
    have hcon := Lib.contains_iff_indexByte chars.data.toList x
    have hback : ((x.toNat : Int)).toNat.toUInt8 = x := by simp
    cases hin : chars.data.toList.contains x
    ·rw [hin] at hcon
     have hlt : ¬ ((0 : Int) ≤ Lib.indexByte chars.data.toList x) := of_decide_eq_false hcon.symm
     clear hcon
     go_wp2_with (go_at_fn (ρ.f 152); refine (Any.strings_IndexRune_ascii { L with } _ _ _ (by omega) (by omega)).mono ?_; rintro e w' ⟨rfl, hw⟩; rw [hw, hback])
     go_roundg g
     case measure => omega
     case rel => exact ⟨i + 1, by omega, hsz', hit', hbl', HN.out.succ Hx.out hin⟩
    ·rw [hin] at hcon
     have hge : (0 : Int) ≤ Lib.indexByte chars.data.toList x := of_decide_eq_true hcon.symm
     clear hcon
     go_wp2_with (go_at_fn (ρ.f 152); refine (Any.strings_IndexRune_ascii { L with } _ _ _ (by omega) (by omega)).mono ?_; rintro e w' ⟨rfl, hw⟩; rw [hw, hback])
     go_ret
     exact ⟨by rw [Lib.indexAny_hit HN.out Hx.out hin]; rfl, hbl'⟩
   ·obtain ⟨d1, d2, d3, d4, d5⟩ := decode_width s i hi (by rw [hx]; omega)
    generalize Utf8.decode s i = d at *
    obtain ⟨c, n⟩ := d
    simp only at d1 d2 d3 d4 d5 hnx
    have HD : Aside (∀ j, i ≤ j → j < i + n → ∃ hj : j < s.size, 128 ≤ (s[j]'hj).toNat) := d5
    clear d5
    have hbl' : Below w.heap.size w (World.iterTo wr w.heap.size s (i + n)) := iterTo_below hbl (Nat.le_refl _)
    have hit' : (World.iterTo wr w.heap.size s (i + n)).heap[w.heap.size]? = some (.stringIter s (i + n)) := by simp [World.iterTo, hsz]
    have hsz' : w.heap.size < (World.iterTo wr w.heap.size s (i + n)).heap.size := by simpa [World.iterTo] using hsz
    generalize World.iterTo wr w.heap.size s (i + n) = wn at *
    clear hxl hx
    go_wp2_with (go_at_fn (ρ.f 152); refine (rune_hi { L with } _ _ _ HC.out hz (by omega) (by omega)).mono ?_; rintro e w' ⟨rfl, hw⟩)
    go_roundg (s.size - (i + n))
    case measure => omega
    case rel =>
     refine ⟨i + n, by omega, ?_, ?_, ?_, ?_⟩
     ·exact Nat.lt_of_lt_of_le hsz' hw.size
     ·rw [hw.block _ hsz']; exact hit'
     ·exact hbl'.trans (hw.mono (by omega))
     ·intro j b hj hb
      by_cases hji : j < i
      ·exact HN.out j b hji hb
      ·obtain ⟨h1, h3⟩ := HD.out j (by omega) hj
       have : s.data.toList[j]? = some (s[j]'h1) := Lib.data_getElem? s j h1
       rw [this] at hb
       cases hb
       cases hcc : chars.data.toList.contains (s[j]'h1) with
       | false => rfl
       | true =>
        have := HC.out _ (List.contains_iff_mem.1 hcc)
        omega

set_option maxHeartbeats 1000000 in
/-- Any text, an ASCII list of two bytes or more. -/
theorem contains_any (L : Lays.n150 P ρ) (h116 : (P.info? (ρ.t 116)).map (fun i => (i.zero, i.size)) = some (some (.agg (Array.replicate 256 (.bool false))), 256)) (s chars : ByteArray) (w : World) (h2 : 2 ≤ chars.size) (hz : chars.size < 4294967281) (hs : s.size < 4294967281) (hc : ∀ b ∈ chars.data.toList, b.toNat < 128) :
  Calls P (ρ.f 150) #[.string s, .string chars] w fun e w' => e = .returned (.bool (Lib.containsAny s.data.toList chars.data.toList)) ∧ Below w.heap.size w w' := by
 have c : Calls P (ρ.f 153) #[.string s, .string chars] w fun e w' => e = .returned (.int .i64 (Lib.indexAny s.data.toList chars.data.toList)) ∧ Below w.heap.size w w' := by
  by_cases h8 : s.size ≤ 8
  ·exact any_short { L with } s chars w h2 hz h8 hc
  ·refine (Any.strings_IndexAny_long { L with } (zero_of_info h116).1 (zero_of_info h116).2 s chars w h2 (by omega) hs hz fun j b hb => hc b (List.mem_of_getElem? hb)).mono fun e w' ⟨h1, h2⟩ => ⟨h1, ?_⟩
   rw [h2]
   exact ((Below.refl _ _).alloc (Nat.le_refl _) _).alloc (by simp) _
 clear hc
 have t3 := L.t3; have a3 := L.a3; have z3 := L.z3; have v3 := L.v3
 have t4 := L.t4; have a4 := L.a4; have z4 := L.z4; have v4 := L.v4
 have t9 := L.t9; have a9 := L.a9; have z9 := L.z9; have v9 := L.v9
 have e153 : ∀ args w, (callFunc (ρ.f 153) args).run P w = .ok (.enter (ρ.f 153) args) w := enters_of L.f153 (by kernel_rfl) rfl
 go_enter L.f150, Body.n150_ntmps ρ
 go_wp2_with (go_at_fn (ρ.f 153); refine c.mono ?_; rintro e w' ⟨rfl, hw⟩)
 go_ret
 exact ⟨rfl, hw⟩
end Go.Proofs

/-
 The environment: all the code of the seat, and the first primitives.
-/
namespace Go.E1
open Go Go.Proofs
set_option linter.unusedSimpArgs false

def tabAll : List (FuncId × LFunc) := tabA ++ (tabB ++ (tabC ++ (tabE ++ (tabF ++ (tabG ++ tabH)))))
theorem tabAll_ok : ∀ p ∈ tabAll, ∃ fn ks nt, Tryz.prog.funcs[p.1]? = some fn ∧ cFunc Tryz.prog fn ks nt = some p.2 := by
 intro p hp
 unfold tabAll at hp
 rw [List.mem_append, List.mem_append, List.mem_append, List.mem_append, List.mem_append, List.mem_append] at hp
 rcases hp with hp | hp | hp | hp | hp | hp | hp
 ·exact tabA_ok p hp
 ·exact tabB_ok p hp
 ·exact tabC_ok p hp
 ·exact tabE_ok p hp
 ·exact tabF_ok p hp
 ·exact tabG_ok p hp
 ·exact tabH_ok p hp

def qAll : List (TypeId × List Leaf) := [(95, [.str, .str]), (220, [.str, .str, .bool]), (135, [.int, .bool]), (155, [.int, .int, .int]), (92, [.int, .int, .int, .int, .int, .int]), (36, [.int, .int, .int])]
noncomputable def EB : Env := { code := tabR tabAll, prim := fun _ => none, q := qOf qAll }
theorem EB_ok : EnvOk Tryz.prog EB where
 orders := by kernel_rfl
 q := show QOk Tryz.prog (qOf qAll) from qOf_ok (by kernel_rfl)
 code := tabR_ok tabAll_ok
 prim := fun _ _ h => (nomatch h)

def ents : List (ByteArray × ByteArray) := [(⟨#[58, 97, 117, 116, 104, 111, 114, 105, 116, 121]⟩, ⟨#[]⟩), (⟨#[58, 109, 101, 116, 104, 111, 100]⟩, ⟨#[71, 69, 84]⟩), (⟨#[58, 109, 101, 116, 104, 111, 100]⟩, ⟨#[80, 79, 83, 84]⟩), (⟨#[58, 112, 97, 116, 104]⟩, ⟨#[47]⟩), (⟨#[58, 112, 97, 116, 104]⟩, ⟨#[47, 105, 110, 100, 101, 120, 46, 104, 116, 109, 108]⟩), (⟨#[58, 115, 99, 104, 101, 109, 101]⟩, ⟨#[104, 116, 116, 112]⟩), (⟨#[58, 115, 99, 104, 101, 109, 101]⟩, ⟨#[104, 116, 116, 112, 115]⟩), (⟨#[58, 115, 116, 97, 116, 117, 115]⟩, ⟨#[50, 48, 48]⟩), (⟨#[58, 115, 116, 97, 116, 117, 115]⟩, ⟨#[50, 48, 52]⟩), (⟨#[58, 115, 116, 97, 116, 117, 115]⟩, ⟨#[50, 48, 54]⟩), (⟨#[58, 115, 116, 97, 116, 117, 115]⟩, ⟨#[51, 48, 52]⟩), (⟨#[58, 115, 116, 97, 116, 117, 115]⟩, ⟨#[52, 48, 48]⟩), (⟨#[58, 115, 116, 97, 116, 117, 115]⟩, ⟨#[52, 48, 52]⟩), (⟨#[58, 115, 116, 97, 116, 117, 115]⟩, ⟨#[53, 48, 48]⟩), (⟨#[97, 99, 99, 101, 112, 116, 45, 99, 104, 97, 114, 115, 101, 116]⟩, ⟨#[]⟩), (⟨#[97, 99, 99, 101, 112, 116, 45, 101, 110, 99, 111, 100, 105, 110, 103]⟩, ⟨#[103, 122, 105, 112, 44, 32, 100, 101, 102, 108, 97, 116, 101]⟩), (⟨#[97, 99, 99, 101, 112, 116, 45, 108, 97, 110, 103, 117, 97, 103, 101]⟩, ⟨#[]⟩), (⟨#[97, 99, 99, 101, 112, 116, 45, 114, 97, 110, 103, 101, 115]⟩, ⟨#[]⟩), (⟨#[97, 99, 99, 101, 112, 116]⟩, ⟨#[]⟩), (⟨#[97, 99, 99, 101, 115, 115, 45, 99, 111, 110, 116, 114, 111, 108, 45, 97, 108, 108, 111, 119, 45, 111, 114, 105, 103, 105, 110]⟩, ⟨#[]⟩), (⟨#[97, 103, 101]⟩, ⟨#[]⟩), (⟨#[97, 108, 108, 111, 119]⟩, ⟨#[]⟩), (⟨#[97, 117, 116, 104, 111, 114, 105, 122, 97, 116, 105, 111, 110]⟩, ⟨#[]⟩), (⟨#[99, 97, 99, 104, 101, 45, 99, 111, 110, 116, 114, 111, 108]⟩, ⟨#[]⟩), (⟨#[99, 111, 110, 116, 101, 110, 116, 45, 100, 105, 115, 112, 111, 115, 105, 116, 105, 111, 110]⟩, ⟨#[]⟩), (⟨#[99, 111, 110, 116, 101, 110, 116, 45, 101, 110, 99, 111, 100, 105, 110, 103]⟩, ⟨#[]⟩), (⟨#[99, 111, 110, 116, 101, 110, 116, 45, 108, 97, 110, 103, 117, 97, 103, 101]⟩, ⟨#[]⟩), (⟨#[99, 111, 110, 116, 101, 110, 116, 45, 108, 101, 110, 103, 116, 104]⟩, ⟨#[]⟩), (⟨#[99, 111, 110, 116, 101, 110, 116, 45, 108, 111, 99, 97, 116, 105, 111, 110]⟩, ⟨#[]⟩), (⟨#[99, 111, 110, 116, 101, 110, 116, 45, 114, 97, 110, 103, 101]⟩, ⟨#[]⟩), (⟨#[99, 111, 110, 116, 101, 110, 116, 45, 116, 121, 112, 101]⟩, ⟨#[]⟩), (⟨#[99, 111, 111, 107, 105, 101]⟩, ⟨#[]⟩), (⟨#[100, 97, 116, 101]⟩, ⟨#[]⟩), (⟨#[101, 116, 97, 103]⟩, ⟨#[]⟩), (⟨#[101, 120, 112, 101, 99, 116]⟩, ⟨#[]⟩), (⟨#[101, 120, 112, 105, 114, 101, 115]⟩, ⟨#[]⟩), (⟨#[102, 114, 111, 109]⟩, ⟨#[]⟩), (⟨#[104, 111, 115, 116]⟩, ⟨#[]⟩), (⟨#[105, 102, 45, 109, 97, 116, 99, 104]⟩, ⟨#[]⟩), (⟨#[105, 102, 45, 109, 111, 100, 105, 102, 105, 101, 100, 45, 115, 105, 110, 99, 101]⟩, ⟨#[]⟩), (⟨#[105, 102, 45, 110, 111, 110, 101, 45, 109, 97, 116, 99, 104]⟩, ⟨#[]⟩), (⟨#[105, 102, 45, 114, 97, 110, 103, 101]⟩, ⟨#[]⟩), (⟨#[105, 102, 45, 117, 110, 109, 111, 100, 105, 102, 105, 101, 100, 45, 115, 105, 110, 99, 101]⟩, ⟨#[]⟩), (⟨#[108, 97, 115, 116, 45, 109, 111, 100, 105, 102, 105, 101, 100]⟩, ⟨#[]⟩), (⟨#[108, 105, 110, 107]⟩, ⟨#[]⟩), (⟨#[108, 111, 99, 97, 116, 105, 111, 110]⟩, ⟨#[]⟩), (⟨#[109, 97, 120, 45, 102, 111, 114, 119, 97, 114, 100, 115]⟩, ⟨#[]⟩), (⟨#[112, 114, 111, 120, 121, 45, 97, 117, 116, 104, 101, 110, 116, 105, 99, 97, 116, 101]⟩, ⟨#[]⟩), (⟨#[112, 114, 111, 120, 121, 45, 97, 117, 116, 104, 111, 114, 105, 122, 97, 116, 105, 111, 110]⟩, ⟨#[]⟩), (⟨#[114, 97, 110, 103, 101]⟩, ⟨#[]⟩), (⟨#[114, 101, 102, 101, 114, 101, 114]⟩, ⟨#[]⟩), (⟨#[114, 101, 102, 114, 101, 115, 104]⟩, ⟨#[]⟩), (⟨#[114, 101, 116, 114, 121, 45, 97, 102, 116, 101, 114]⟩, ⟨#[]⟩), (⟨#[115, 101, 114, 118, 101, 114]⟩, ⟨#[]⟩), (⟨#[115, 101, 116, 45, 99, 111, 111, 107, 105, 101]⟩, ⟨#[]⟩), (⟨#[115, 116, 114, 105, 99, 116, 45, 116, 114, 97, 110, 115, 112, 111, 114, 116, 45, 115, 101, 99, 117, 114, 105, 116, 121]⟩, ⟨#[]⟩), (⟨#[116, 114, 97, 110, 115, 102, 101, 114, 45, 101, 110, 99, 111, 100, 105, 110, 103]⟩, ⟨#[]⟩), (⟨#[117, 115, 101, 114, 45, 97, 103, 101, 110, 116]⟩, ⟨#[]⟩), (⟨#[118, 97, 114, 121]⟩, ⟨#[]⟩), (⟨#[118, 105, 97]⟩, ⟨#[]⟩), (⟨#[119, 119, 119, 45, 97, 117, 116, 104, 101, 110, 116, 105, 99, 97, 116, 101]⟩, ⟨#[]⟩)]

def entCells : List Value := ents.flatMap fun p => [.string p.1, .string p.2]
def ent (n : Nat) : ByteArray × ByteArray := ents.getD n (⟨#[]⟩, ⟨#[]⟩)
def pairV (p : ByteArray × ByteArray) : Value := .agg #[.string p.1, .string p.2]


/-! ### entries, Entry, Get: by closed runs -/
def gEntries : List Value → Option Value
 | [] => some (.agg entCells.toArray)
 | _ => none
theorem runEntries : isRun EB 4 203 [] (.agg entCells.toArray) = true := by kernel_rfl
theorem runGet : (List.range 61).all (fun n => isRun EB 6 196 [.int .i64 (n + 1 : Nat)] (.tuple #[pairV (ent n), .int .i64 0])) = true := by kernel_rfl

def gGet : List Value → Option Value
 | [.int .i64 i] => if 1 ≤ i ∧ i ≤ 61 then some (.tuple #[pairV (ent (i - 1).toNat), .int .i64 0]) else some (.tuple #[pairV (⟨#[]⟩, ⟨#[]⟩), .int .i64 23])
 | _ => none
theorem outGet (i : Int) (h : ¬ (1 ≤ i ∧ i ≤ 61)) : LCalls EB 196 [.int .i64 i] LHeap.empty fun u _ => u = .tuple #[pairV (⟨#[]⟩, ⟨#[]⟩), .int .i64 23] := by
 refine LCalls.enter (lf := lf196) rfl rfl (by simp [lf196]) ?_
 simp only [go_sem, lf196, ↓reduceIte]
 by_cases h1 : i < 1
 ·simp only [go_sem, h1, ↓reduceIte, decide_true, pairV]
 ·have h2 : 61 < i := by omega
  simp only [go_sem, h1, h2, ↓reduceIte, decide_true, decide_false, pairV]

/-! ### numbers -/
theorem runRight : (List.range 8).all (fun n => isRun EB 4 158 [.int .i64 (n + 1 : Nat)] (.bool true)) = true := by kernel_rfl
theorem runFull : (List.range 9).all (fun n => isRun EB 4 159 [.int .i64 (n : Nat)] (.int .i64 ((2 ^ n - 1 : Nat) : Int))) = true := by kernel_rfl
def gRight : List Value → Option Value
 | [.int .i64 i] => if 1 ≤ i ∧ i ≤ 8 then some (.bool true) else none
 | _ => none
def gFull : List Value → Option Value
 | [.int .i64 i] => if 0 ≤ i ∧ i ≤ 8 then some (.int .i64 ((2 ^ i.toNat - 1 : Nat) : Int)) else none
 | _ => none

def kindV (c : Int) : Value :=
 if 128 ≤ c then .agg #[.int .i64 7, .bool true, .bool false, .bool false, .bool false] else
 if 64 ≤ c then .agg #[.int .i64 6, .bool false, .bool true, .bool false, .bool false] else
 if 32 ≤ c then .agg #[.int .i64 5, .bool false, .bool false, .bool true, .bool false] else
 if 16 ≤ c then .agg #[.int .i64 4, .bool false, .bool false, .bool false, .bool true] else
 .agg #[.int .i64 4, .bool false, .bool false, .bool false, .bool false]
theorem runKind : (List.range 256).all (fun n => isRun EB 4 144 [.int .u8 (n : Nat)] (kindV (n : Nat))) = true := by kernel_rfl
def gKind : List Value → Option Value
 | [.int .u8 i] => if 0 ≤ i ∧ i < 256 then some (kindV i) else none
 | _ => none
def szW (a b : ByteArray) : Int := IntKind.i64.wrap (IntKind.i64.wrap ((a.size : Int) + b.size) + 32)
def gSize : List Value → Option Value
 | [.agg ⟨[.string a, .string b]⟩] => some (.int .i64 (szW a b))
 | _ => none
theorem cSize (a b : ByteArray) : LCalls EB 109 [.agg #[.string a, .string b]] LHeap.empty fun v _ => v = .int .i64 (szW a b) := by
 refine LCalls.enter (lf := lf109) rfl rfl (by simp [lf109]) ?_
 simp only [go_sem, lf109, ↓reduceIte]
 rfl
/-- May it be a table's limit? -/
def gLim : List Value → Option Value
 | [.int .i64 i] => some (.bool (decide (0 ≤ i) && decide (i ≤ 65536)))
 | _ => none
theorem cLim (i : Int) : LCalls EB 70 [.int .i64 i] LHeap.empty fun v _ => v = .bool (decide (0 ≤ i) && decide (i ≤ 65536)) := by
 refine LCalls.enter (lf := lf70) rfl rfl (by simp [lf70]) ?_
 by_cases h1 : 0 ≤ i
 ·have h1' : i ≥ 0 := h1
  by_cases h2 : i ≤ 65536
  ·simp only [go_sem, lf70, ↓reduceIte, h1, h1', h2]
  ·simp only [go_sem, lf70, ↓reduceIte, h1, h1', h2]
 ·have h1' : ¬ i ≥ 0 := h1
  simp only [go_sem, lf70, ↓reduceIte, h1, h1']

noncomputable def EK : Env := (((((((EB.put 224 getP).add 225 gLong).add 196 gGet).add 158 gRight).add 159 gFull).add 144 gKind).add 109 gSize).add 70 gLim
theorem add_run {P : Program} {E E' : Env} (hE : EnvOk P E) (hE' : EnvOk P E') {f : FuncId} {g : List Value → Option Value}
  (hg : ∀ args v, g args = some v → plains args = true ∧ plain v = true ∧ ((∃ k, isRun E' k f args v = true) ∨ LCalls E' f args LHeap.empty fun u _ => u = v)) : EnvOk P (E.add f g) :=
 hE.add' f g fun args v h => by
  obtain ⟨h1, h2, h3⟩ := hg args v h
  refine ⟨h1, h2, ?_⟩
  rcases h3 with ⟨k, h3⟩ | h3
  ·exact isRun_sound hE' h3
  ·obtain ⟨u, h4, hs, rfl⟩ := h3.sound hE'
   exact ⟨h4, hs⟩
theorem EK_ok : EnvOk Tryz.prog EK := by
 have e0 := EB_ok.put 224 getP fun _ _ _ _ => getP_sound
 have e1 := add_run (f := 225) (g := gLong) e0 E0_ok fun args v h => by
  unfold gLong at h
  split at h
  ·rename_i i
   split at h
   ·rename_i hi
    cases h
    have := all_range runLong (i := i.toNat) (by omega)
    rw [show ((i.toNat : Nat) : Int) = i by omega] at this
    exact ⟨rfl, rfl, .inl ⟨_, this⟩⟩
   ·cases h
  ·cases h
 have e2 := e1
 have e3 := add_run (f := 196) (g := gGet) e2 EB_ok fun args v h => by
  unfold gGet at h
  split at h
  ·rename_i i
   split at h
   ·rename_i hi
    cases h
    have := all_range runGet (i := (i - 1).toNat) (by omega)
    rw [show (((i - 1).toNat + 1 : Nat) : Int) = i by omega] at this
    exact ⟨rfl, rfl, .inl ⟨_, this⟩⟩
   ·rename_i hi
    cases h
    exact ⟨rfl, rfl, .inr (outGet i hi)⟩
  ·cases h
 have e4 := add_run (f := 158) (g := gRight) e3 EB_ok fun args v h => by
  unfold gRight at h
  split at h
  ·rename_i i
   split at h
   ·rename_i hi
    cases h
    have := all_range runRight (i := (i - 1).toNat) (by omega)
    rw [show (((i - 1).toNat + 1 : Nat) : Int) = i by omega] at this
    exact ⟨rfl, rfl, .inl ⟨_, this⟩⟩
   ·cases h
  ·cases h
 have e5 := add_run (f := 159) (g := gFull) e4 EB_ok fun args v h => by
  unfold gFull at h
  split at h
  ·rename_i i
   split at h
   ·rename_i hi
    cases h
    have := all_range runFull (i := i.toNat) (by omega)
    rw [show ((i.toNat : Nat) : Int) = i by omega] at this
    exact ⟨rfl, rfl, .inl ⟨_, this⟩⟩
   ·cases h
  ·cases h
 have e6 := add_run (f := 144) (g := gKind) e5 EB_ok fun args v h => by
  unfold gKind at h
  split at h
  ·rename_i i
   split at h
   ·rename_i hi
    cases h
    have := all_range runKind (i := i.toNat) (by omega)
    rw [show ((i.toNat : Nat) : Int) = i by omega] at this
    refine ⟨rfl, ?_, .inl ⟨_, this⟩⟩
    unfold kindV
    split
    ·rfl
    ·split
     ·rfl
     ·split
      ·rfl
      ·split <;> rfl
   ·cases h
  ·cases h
 have e7 := add_run (f := 109) (g := gSize) e6 EB_ok fun args v h => by
  unfold gSize at h
  split at h
  ·rename_i a b
   cases h
   exact ⟨rfl, rfl, .inr (cSize a b)⟩
  ·cases h
 exact add_run (f := 70) (g := gLim) e7 EB_ok fun args v h => by
  unfold gLim at h
  split at h
  ·rename_i i
   cases h
   exact ⟨rfl, rfl, .inr (cLim i)⟩
  ·cases h

@[go_sem] theorem EB_prim (i : FuncId) : EB.prim i = none := Eq.trans rfl rfl
@[go_sem] theorem EK_prim (i : FuncId) : EK.prim i = ((((((((EB.put 224 getP).add 225 gLong).add 196 gGet).add 158 gRight).add 159 gFull).add 144 gKind).add 109 gSize).add 70 gLim).prim i := Eq.trans rfl rfl
attribute [go_sem] gLong gGet gRight gFull gKind gSize gLim
end Go.E1

/-
 strings.IndexByte, strings.ContainsAny, slices.Grow of no bytes, as primitives; what bytes a name may have.
-/
namespace Go.E1
open Go Go.Proofs Go.Shelf

theorem HR.below {ν : Inj} {h : LHeap} {w w' : World} (hr : HR ν h w) (hb : RowKit.Below w.heap.size w w') : HR ν h w' ∧ Step ν h w ν h w' :=
 hr.of0 ⟨⟨hr.dom, fun b pl hp => ObjR.mono (Inj.le_refl ν) (hb.block _ (hr.real b pl hp)) (hr.obj b pl hp), hr.sep, fun b pl hp => Nat.lt_of_lt_of_le (hr.real b pl hp) hb.size⟩,
  ⟨Inj.le_refl ν, hb.os, hb.tape, hb.output, hb.size, Nat.le_refl _, fun B hB _ => hb.block B hB, fun b pl hp hw _ => ⟨b, pl, hp, rfl, hw⟩, fun _ _ hn => ⟨hn, .inl rfl⟩⟩⟩

theorem sound_below {f : FuncId} {args : List Value} {v : Value} (h0 : ∃ fn, Tryz.prog.funcs[f]? = some fn ∧ fn.name ≠ "runtime.NumGoroutine" ∧ fn.body.isNone = false) (hp : plains args = true) (hv : plain v = true)
  (hc : ∀ w, Calls Tryz.prog f args.toArray w fun e w' => e = .returned v ∧ RowKit.Below w.heap.size w w') (h : LHeap) : Sound Tryz.prog f args h v h := by
 refine ⟨h0, fun ν w args' hr hargs => ?_⟩
 have e := plains_eq args args'.toList hp hargs
 have e' : args' = args.toArray := Array.ext' (by rw [e])
 rw [e']
 refine (hc w).mono ?_
 rintro e w' ⟨rfl, hb⟩
 obtain ⟨h1, h2⟩ := hr.below hb
 exact ⟨ν, v, rfl, plain_VR ν v hv, h1, h2⟩

def gIxB : List Value → Option Value
 | [.string s, .int .u8 c] => some (.int .i64 (Lib.indexByte s.data.toList c.toNat.toUInt8))
 | _ => none
def gAny : List Value → Option Value
 | [.string s, .string c] => if s.size < 4294967281 ∧ 2 ≤ c.size ∧ c.size < 4294967281 ∧ (c.data.toList.all fun b => decide (b.toNat < 128)) = true then some (.bool (Lib.containsAny s.data.toList c.data.toList)) else none
 | _ => none

noncomputable def EG : Env := EK.put 54 growP
theorem EG_ok : EnvOk Tryz.prog EG := EK_ok.put 54 growP fun _ _ _ _ => growP_sound
@[go_sem] theorem EG_prim (i : FuncId) : EG.prim i = (EK.put 54 growP).prim i := Eq.trans rfl rfl

noncomputable def EI : Env := (EG.add 201 gIxB).add 181 gAny
theorem EI_ok : EnvOk Tryz.prog EI := by
 have e1 := EG_ok.add' 201 gIxB fun args v h => by
  unfold gIxB at h
  split at h
  ·rename_i s c
   cases h
   exact ⟨rfl, rfl, LHeap.empty, sound_below ⟨_, Tryz.func201, of_decide_eq_true (by kernel_rfl), by kernel_rfl⟩ rfl rfl (fun w => (Any.strings_IndexByte strRen137 s c w).mono fun e w' ⟨a, b⟩ => ⟨a, b ▸ RowKit.Below.refl _ _⟩) _⟩
  ·cases h
 exact e1.add' 181 gAny fun args v h => by
  unfold gAny at h
  split at h
  ·rename_i s c
   split at h
   ·rename_i hc
    cases h
    obtain ⟨h1, h2, h3, h4⟩ := hc
    exact ⟨rfl, rfl, LHeap.empty, sound_below ⟨_, Tryz.func181, of_decide_eq_true (by kernel_rfl), by kernel_rfl⟩ rfl rfl (fun w => contains_any strRenLay150 info256 s c w h2 h3 h1 fun b hb => of_decide_eq_true (List.all_eq_true.1 h4 b hb)) _⟩
   ·cases h
  ·cases h
@[go_sem] theorem EI_prim (i : FuncId) : EI.prim i = ((EG.add 201 gIxB).add 181 gAny).prim i := Eq.trans rfl rfl

/-! ### what a name may have -/
def nameBytes : List UInt8 := [33, 35, 36, 37, 38, 39, 42, 43, 45, 46, 94, 95, 124, 126, 96, 48, 49, 50, 51, 52, 53, 54, 55, 56, 57, 97, 98, 99, 100, 101, 102, 103, 104, 105, 106, 107, 108, 109, 110, 111, 112, 113, 114, 115, 116, 117, 118, 119, 120, 121, 122]
theorem runHas : (List.range 256).all (fun n => isRun EI 4 179 [.int .u8 (n : Nat)] (.bool (nameBytes.contains n.toUInt8))) = true := by kernel_rfl
def gHas : List Value → Option Value
 | [.int .u8 i] => if 0 ≤ i ∧ i < 256 then some (.bool (nameBytes.contains i.toNat.toUInt8)) else none
 | _ => none
noncomputable def ER : Env := EI.add 179 gHas
theorem ER_ok : EnvOk Tryz.prog ER := add_run (f := 179) (g := gHas) EI_ok EI_ok fun args v h => by
 unfold gHas at h
 split at h
 ·rename_i i
  split at h
  ·rename_i hi
   cases h
   have := all_range runHas (i := i.toNat) (by omega)
   rw [show ((i.toNat : Nat) : Int) = i by omega] at this
   exact ⟨rfl, rfl, .inl ⟨_, this⟩⟩
  ·cases h
 ·cases h
@[go_sem] theorem ER_prim (i : FuncId) : ER.prim i = (EI.add 179 gHas).prim i := Eq.trans rfl rfl
attribute [go_sem] gIxB gAny gHas growP
end Go.E1

/-
 slices.Delete of elements of several cells, as a primitive: what is behind moves up, and the last cells are zero (printed by gen_del.py, two times the same).
-/
namespace Go.E1
open Go Go.Proofs Go.RowKit Go.Lib
set_option linter.unusedVariables false

theorem cell?_set_isSome {w : World} {B p : Nat} {l : List Value} {a : Addr} (h : (w.cell? a).isSome = true) : ((w.setCells B p l).cell? a).isSome = true := by
 induction l generalizing w p with
 | nil => exact h
 | cons x l ih =>
  simp only [World.setCells]
  refine ih ?_
  by_cases e : a = ⟨B, p, none⟩
  ·subst e
   obtain ⟨y, hy⟩ := Option.isSome_iff_exists.1 h
   rw [World.cell?_setCell_same w _ _ hy]; rfl
  ·rw [World.cell?_setCell_other _ _ _ _ (fun e' => e e'.symm)]; exact h
theorem frozen?_setCells {w : World} {B p : Nat} {l : List Value} {a : Addr} : (w.setCells B p l).frozen? a = w.frozen? a := by
 induction l generalizing w p with
 | nil => rfl
 | cons x l ih => simp only [World.setCells]; rw [ih]; simp

theorem splice_splice (cs a z : List Value) (p : Nat) (h : p + a.length + z.length ≤ cs.length) : splice (splice cs p a) (p + a.length) z = splice cs p (a ++ z) := by
 have h1 : (splice cs p a).length = cs.length := length_splice _ _ _ (by omega)
 apply List.ext_getElem?
 intro k
 rw [getElem?_splice _ _ _ (by omega), getElem?_splice _ _ _ (by omega), getElem?_splice _ _ _ (by rw [List.length_append]; omega)]
 simp only [List.length_append]
 by_cases k1 : k < p
 ·rw [if_pos (by omega), if_pos k1, if_pos k1]
 ·by_cases k2 : k < p + a.length
  ·rw [if_pos k2, if_neg k1, if_pos k2, if_neg k1, if_pos (by omega), List.getElem?_append_left (by omega)]
  ·rw [if_neg k2]
   by_cases k3 : k < p + a.length + z.length
   ·rw [if_pos k3, if_neg k1, if_pos (by omega), List.getElem?_append_right (by omega)]
    congr 1; omega
   ·rw [if_neg k3, if_neg k1, if_neg k2, if_neg k1, if_neg (by omega)]

def delP (E : Nat) (z : List Value) : List Value → LHeap → Option (Value × LHeap)
 | [.slice (some ⟨b, o, none⟩) n e, .int .i64 i, .int .i64 j], h =>
  if e = E ∧ 0 ≤ i ∧ i < j ∧ j ≤ n ∧ n ≤ 9223372036854775807 then
   match h.get b with
   | some (.cells cs tip true) => if o + n * E ≤ cs.length ∧ oneCells cs = true then
     some (.slice (some ⟨b, o, none⟩) (n - (j.toNat - i.toNat)) E, h.set b (.cells (splice cs (o + i.toNat * E) (((cs.drop (o + j.toNat * E)).take ((n - j.toNat) * E)) ++ (List.replicate (j.toNat - i.toNat) z).flatten)) tip true)) else none
   | _ => none
  else none
 | _, _ => none

/-! ### 195 -/
def zcA : List Value := [.int .i64 0, .slice none 0 0, .slice none 0 0]
@[simp] theorem zcA_len : zcA.length = 3 := rfl
theorem delInfo_A : (Tryz.prog.info? 120).map (fun i => decide (i.size = 3)) = some true := by kernel_rfl
theorem delZero_A : zeroOf Tryz.prog 120 = some zcA := by kernel_rfl

set_option maxHeartbeats 4000000 in
set_option maxRecDepth 1000000 in
theorem delWalk_A (B off n cap i j : Nat) (news : List Value) (w : World) (hcap : n ≤ cap) (hm : n ≤ 9223372036854775807) (hlt : i < j) (hj : j ≤ n)
  (s1 : Hid (news.length = (n - j) * 3)) (hsrc : Hid (∀ t u, news[t]? = some u → w.drew.cell? ((⟨B, off + j * 3, none⟩ : Addr).add t) = some u)) (s2 : Hid (∀ u ∈ news, u.oneCell' = true))
  (s3 : Hid (∀ t, t < (n - i) * 3 → (w.drew.cell? ⟨B, off + i * 3 + t, none⟩).isSome = true ∧ w.drew.frozen? ⟨B, off + i * 3 + t, none⟩ = false)) :
  Calls Tryz.prog 195 #[.slice (some ⟨B, off, none⟩) n cap, .int .i64 i, .int .i64 j] w fun e w' => e = .returned (.slice (some ⟨B, off, none⟩) (n - (j - i)) cap) ∧
   w' = (w.drew.setCells B (off + i * 3) news).setCells B (off + (i + (n - j)) * 3) (List.replicate (j - i) zcA).flatten := by
 obtain ⟨i0, hi0, hz1⟩ := Option.map_eq_some_iff.1 delInfo_A
 have hz1 : i0.size = 3 := of_decide_eq_true hz1
 obtain ⟨A, hA, hsrc2⟩ : ∃ A : Addr, (if cap = j then some (⟨B, off, none⟩ : Addr) else some ⟨B, off + j * 3, none⟩) = some A ∧ Hid (∀ t u, news[t]? = some u → w.drew.cell? (A.add t) = some u) := by
  by_cases h : cap = j
  ·refine ⟨⟨B, off, none⟩, by simp [h], fun t u hu => ?_⟩
   have h0 : news.length = 0 := by
    rw [s1.out, show n - j = 0 by omega]
   rw [List.length_eq_zero_iff.1 h0] at hu
   simp at hu
  ·exact ⟨⟨B, off + j * 3, none⟩, by simp [h], hsrc⟩
 obtain ⟨W1, hW1⟩ : ∃ W1, W1 = w.drew.setCells B (off + i * 3) news := ⟨_, rfl⟩
 have s4 : Hid (∀ t, t < news.length → (w.drew.cell? ⟨B, off + i * 3 + t, none⟩).isSome = true ∧ w.drew.frozen? ⟨B, off + i * 3 + t, none⟩ = false) := by
  intro t ht
  refine s3.out t ?_
  rw [s1.out] at ht
  omega
 obtain ⟨i2, u, hi2, hiu, hzz, hall⟩ := zeroOf_spec delZero_A
 have hst : (storeCells ⟨B, off + (i + (n - j)) * 3, none⟩ (List.replicate (j - i) zcA).flatten).run Tryz.prog W1 = .ok () (W1.setCells B (off + (i + (n - j)) * 3) (List.replicate (j - i) zcA).flatten) := by
  have hl : (List.replicate (j - i) zcA).flatten.length = (j - i) * 3 := by simp [List.length_flatten]
  have := run_storeCells_cells (P := Tryz.prog) B (off + (i + (n - j)) * 3) (List.replicate (j - i) zcA).flatten 0 W1 (fun k hk => by
    rw [hW1]
    refine cell?_set_isSome ?_
    have := (s3.out ((n - j) * 3 + k) (by rw [hl] at hk; omega)).1
    rw [show off + (i + (n - j)) * 3 + 0 + k = off + i * 3 + ((n - j) * 3 + k) by omega]
    exact this) (fun k hk => by
    rw [hW1, frozen?_setCells]
    have := (s3.out ((n - j) * 3 + k) (by rw [hl] at hk; omega)).2
    rw [show off + (i + (n - j)) * 3 + 0 + k = off + i * 3 + ((n - j) * 3 + k) by omega]
    exact this) (fun u hu => by
    simp only [List.mem_flatten, List.mem_replicate] at hu
    obtain ⟨l, ⟨_, rfl⟩, hu⟩ := hu
    exact List.all_eq_true.1 (show (zcA : List Value).all (·.oneCell') = true from rfl) u hu)
  simpa using this
 have hcl : ∀ ty, (Builtin.clear_ #[224] ty #[.slice (some ⟨B, off + (i + (n - j)) * 3, none⟩) (n - (i + (n - j))) (cap - (i + (n - j)))]).run Tryz.prog W1 = .ok (.tuple #[]) (W1.setCells B (off + (i + (n - j)) * 3) (List.replicate (j - i) zcA).flatten) := by
  intro ty
  have hpos : n - (i + (n - j)) = (j - i - 1) + 1 := by omega
  have hzc : (Builtin.zeroCells u.cells (j - i)).toList = (List.replicate (j - i) zcA).flatten := by
   have e2 : u.cells.size = 3 := by have := congrArg List.length hzz; simpa using this
   have := range_flatten zcA (j - i) 3 rfl (by decide)
   unfold Builtin.zeroCells
   rw [e2]
   rw [← hzz] at this ⊢
   simpa [e2] using this
  rw [hpos, show j - i = (j - i - 1) + 1 by omega] at *
  simp [Builtin.clear_, run_underlying Tryz.underlying224, run_zeroValue hi2 hiu, hzc, hst]
 have hW : Hid (W1 = w.drew.setCells B (off + i * 3) news) := hW1
 have hic : i ≤ cap := by omega
 have hjc : j ≤ cap := by omega
 rw [← hW1]
 clear hW1 s3 hsrc hst
 go_enter Tryz.func195, Tryz.ntmps195
 go_wp2_with fail
 go_region_law (refine step_append_room rfl (.tmp 22) (.tmp 25) 224 rfl 120 i0 3 Tryz.underlying224 hi0 hz1 B off i cap (by simp [Act.eval, Act.put]) A (n - j) (cap - j) news (by simp [Act.eval, Act.put]) s1.out hsrc2.out s2.out (by omega) s4.out ?_; rw [← hW.out])
 go_wp2
 go_ret
 exact ⟨by rw [show n - (j - i) = i + (n - j) by omega]; rfl, rfl⟩

set_option maxHeartbeats 1000000 in
theorem delP_sound_A {args : List Value} {h h' : LHeap} {v : Value} (hx : delP 3 zcA args h = some (v, h')) : Sound Tryz.prog 195 args h v h' := by
 refine ⟨⟨_, Tryz.func195, of_decide_eq_true (by kernel_rfl), by kernel_rfl⟩, fun ν w args' hr hargs => ?_⟩
 unfold delP at hx
 split at hx
 rotate_left
 ·cases hx
 rename_i b o n e i j
 split at hx
 rotate_left
 ·cases hx
 rename_i hcond
 obtain ⟨rfl, hi0, hij, hjn, hn⟩ := hcond
 split at hx
 rotate_left
 ·cases hx
 rename_i cs tip hg
 split at hx
 rotate_left
 ·cases hx
 rename_i hcs
 obtain ⟨hlen, hone⟩ := hcs
 cases hx
 obtain ⟨i, rfl⟩ := Int.eq_ofNat_of_zero_le hi0
 obtain ⟨j, rfl⟩ := Int.eq_ofNat_of_zero_le (show 0 ≤ j by omega)
 have hij : i < j := by omega
 have hjn : j ≤ n := by omega
 simp only [Int.toNat_natCast]
 obtain ⟨s', l1, e1, hs, hl1⟩ := hargs.cons_inv
 obtain ⟨i', l2, rfl, hi, hl2⟩ := hl1.cons_inv
 obtain ⟨j', l3, rfl, hj, hl3⟩ := hl2.cons_inv
 have := hl3.nil_inv
 subst this
 cases hi
 cases hj
 cases hs with
 | sempty => omega
 | slice hb hle hfin =>
  rename_i cap pl
  have he : args' = #[.slice (some ⟨pl.B, pl.base + o, none⟩) n cap, .int .i64 i, .int .i64 j] := by
   apply Array.ext'
   simpa using e1
  rw [he]
  obtain ⟨c, ty, fz, k1, k2, k3, k4, k5, k6⟩ := hr.cells hb hg
  have hml : (n - j) * 3 + j * 3 = n * 3 := by omega
  have hld : h.loadCells b (o + j * 3) ((n - j) * 3) = some ((cs.drop (o + j * 3)).take ((n - j) * 3)) := by
   unfold LHeap.loadCells
   rw [hg]
   simp only
   rw [if_pos (by omega)]
  obtain ⟨hnl, news, hvr, hcell⟩ := hr.loadCells hld hb
  have hol : oneCells ((cs.drop (o + j * 3)).take ((n - j) * 3)) = true := by
   unfold oneCells at hone ⊢
   rw [List.all_eq_true] at hone ⊢
   intro x hx
   exact hone x (List.mem_of_mem_drop (List.mem_of_mem_take hx))
  have hnews : news.length = (n - j) * 3 := by rw [← hvr.1, hnl]
  have hzl : (List.replicate (j - i) zcA).flatten.length = (j - i) * 3 := by simp [List.length_flatten]
  have hzo : oneCells (List.replicate (j - i) zcA).flatten = true := by
   unfold oneCells
   rw [List.all_eq_true]
   intro x hx
   simp only [List.mem_flatten, List.mem_replicate] at hx
   obtain ⟨l, ⟨_, rfl⟩, hx⟩ := hx
   exact List.all_eq_true.1 (show zcA.all (·.oneCell') = true from rfl) x hx
  have hzv : VRs ν (List.replicate (j - i) zcA).flatten (List.replicate (j - i) zcA).flatten := all_const_VRs (by
   rw [List.all_eq_true]
   intro x hx
   simp only [List.mem_flatten, List.mem_replicate] at hx
   obtain ⟨l, ⟨_, rfl⟩, hx⟩ := hx
   exact List.all_eq_true.1 (show zcA.all constOk = true from rfl) x hx) ν
  have hd : HR ν h w.drew := hr.drew _
  have st1 : h.storeCells b (o + i * 3) ((cs.drop (o + j * 3)).take ((n - j) * 3)) = some (h.set b (.cells (splice cs (o + i * 3) ((cs.drop (o + j * 3)).take ((n - j) * 3))) tip true)) := by
   rw [LHeap.storeCells_eq, hg]
   simp only
   rw [if_pos ⟨by rw [hnl]; omega, hol⟩]
  obtain ⟨_, r1, p1⟩ := hd.storeCells hb st1 hvr Tryz.prog
  have hsl : (splice cs (o + i * 3) ((cs.drop (o + j * 3)).take ((n - j) * 3))).length = cs.length := length_splice _ _ _ (by rw [hnl]; omega)
  have st2 : (h.set b (.cells (splice cs (o + i * 3) ((cs.drop (o + j * 3)).take ((n - j) * 3))) tip true)).storeCells b (o + (i + (n - j)) * 3) (List.replicate (j - i) zcA).flatten =
    some ((h.set b (.cells (splice cs (o + i * 3) ((cs.drop (o + j * 3)).take ((n - j) * 3))) tip true)).set b (.cells (splice (splice cs (o + i * 3) ((cs.drop (o + j * 3)).take ((n - j) * 3))) (o + (i + (n - j)) * 3) (List.replicate (j - i) zcA).flatten) tip true)) := by
   rw [LHeap.storeCells_eq]
   simp only [LHeap.get_set, if_true]
   rw [if_pos ⟨by rw [hzl, hsl]; omega, hzo⟩]
  obtain ⟨_, r2, p2⟩ := r1.storeCells hb st2 hzv Tryz.prog
  refine (delWalk_A pl.B (pl.base + o) n cap i j news w hle (by omega) hij hjn hnews (fun t u hu => ?_) (hvr.oneCells hol) (fun t ht => ?_)).mono ?_
  ·have := hcell t u hu
   simp only [Addr.add_lit]
   rw [World.cell?_drew, Nat.add_assoc pl.base]
   exact this
  ·rw [World.cell?_drew, cell?_of_heap k1]
   refine ⟨?_, ?_⟩
   ·simp; omega
   ·have := frozen?_of_heap k1 ((k6 rfl).not (pl.base + o + i * 3 + t) (by omega))
    simpa using this
  ·rintro x w' ⟨rfl, rfl⟩
   have hss : splice (splice cs (o + i * 3) ((cs.drop (o + j * 3)).take ((n - j) * 3))) (o + (i + (n - j)) * 3) (List.replicate (j - i) zcA).flatten = splice cs (o + i * 3) ((cs.drop (o + j * 3)).take ((n - j) * 3) ++ (List.replicate (j - i) zcA).flatten) := by
    rw [← splice_splice _ _ _ _ (by rw [hnl, hzl]; omega), hnl]
    congr 1; omega
   have hget : ∀ c, ((h.set b (.cells (splice cs (o + i * 3) ((cs.drop (o + j * 3)).take ((n - j) * 3))) tip true)).set b (.cells (splice (splice cs (o + i * 3) ((cs.drop (o + j * 3)).take ((n - j) * 3))) (o + (i + (n - j)) * 3) (List.replicate (j - i) zcA).flatten) tip true)).get c =
     (h.set b (.cells (splice cs (o + i * 3) ((cs.drop (o + j * 3)).take ((n - j) * 3) ++ (List.replicate (j - i) zcA).flatten)) tip true)).get c := by
    intro c
    rw [hss]
    simp only [LHeap.get_set]
    split <;> rfl
   have e1 : pl.base + (o + i * 3) = pl.base + o + i * 3 := by omega
   have e2 : pl.base + (o + (i + (n - j)) * 3) = pl.base + o + (i + (n - j)) * 3 := by omega
   rw [e1, e2] at r2 p2
   rw [e1] at p1
   refine ⟨ν, _, rfl, .slice hb (by omega) hfin, r2.congr hget rfl, ((Step.drew _).trans (p1.trans p2)).congr hget rfl⟩

/-! ### 212 -/
def zcB : List Value := List.replicate 11 (.int .i64 0)
@[simp] theorem zcB_len : zcB.length = 11 := rfl
theorem delInfo_B : (Tryz.prog.info? 304).map (fun i => decide (i.size = 11)) = some true := by kernel_rfl
theorem delZero_B : zeroOf Tryz.prog 304 = some zcB := by kernel_rfl

set_option maxHeartbeats 4000000 in
set_option maxRecDepth 1000000 in
theorem delWalk_B (B off n cap i j : Nat) (news : List Value) (w : World) (hcap : n ≤ cap) (hm : n ≤ 9223372036854775807) (hlt : i < j) (hj : j ≤ n)
  (s1 : Hid (news.length = (n - j) * 11)) (hsrc : Hid (∀ t u, news[t]? = some u → w.drew.cell? ((⟨B, off + j * 11, none⟩ : Addr).add t) = some u)) (s2 : Hid (∀ u ∈ news, u.oneCell' = true))
  (s3 : Hid (∀ t, t < (n - i) * 11 → (w.drew.cell? ⟨B, off + i * 11 + t, none⟩).isSome = true ∧ w.drew.frozen? ⟨B, off + i * 11 + t, none⟩ = false)) :
  Calls Tryz.prog 212 #[.slice (some ⟨B, off, none⟩) n cap, .int .i64 i, .int .i64 j] w fun e w' => e = .returned (.slice (some ⟨B, off, none⟩) (n - (j - i)) cap) ∧
   w' = (w.drew.setCells B (off + i * 11) news).setCells B (off + (i + (n - j)) * 11) (List.replicate (j - i) zcB).flatten := by
 obtain ⟨i0, hi0, hz1⟩ := Option.map_eq_some_iff.1 delInfo_B
 have hz1 : i0.size = 11 := of_decide_eq_true hz1
 obtain ⟨A, hA, hsrc2⟩ : ∃ A : Addr, (if cap = j then some (⟨B, off, none⟩ : Addr) else some ⟨B, off + j * 11, none⟩) = some A ∧ Hid (∀ t u, news[t]? = some u → w.drew.cell? (A.add t) = some u) := by
  by_cases h : cap = j
  ·refine ⟨⟨B, off, none⟩, by simp [h], fun t u hu => ?_⟩
   have h0 : news.length = 0 := by
    rw [s1.out, show n - j = 0 by omega]
   rw [List.length_eq_zero_iff.1 h0] at hu
   simp at hu
  ·exact ⟨⟨B, off + j * 11, none⟩, by simp [h], hsrc⟩
 obtain ⟨W1, hW1⟩ : ∃ W1, W1 = w.drew.setCells B (off + i * 11) news := ⟨_, rfl⟩
 have s4 : Hid (∀ t, t < news.length → (w.drew.cell? ⟨B, off + i * 11 + t, none⟩).isSome = true ∧ w.drew.frozen? ⟨B, off + i * 11 + t, none⟩ = false) := by
  intro t ht
  refine s3.out t ?_
  rw [s1.out] at ht
  omega
 obtain ⟨i2, u, hi2, hiu, hzz, hall⟩ := zeroOf_spec delZero_B
 have hst : (storeCells ⟨B, off + (i + (n - j)) * 11, none⟩ (List.replicate (j - i) zcB).flatten).run Tryz.prog W1 = .ok () (W1.setCells B (off + (i + (n - j)) * 11) (List.replicate (j - i) zcB).flatten) := by
  have hl : (List.replicate (j - i) zcB).flatten.length = (j - i) * 11 := by simp [List.length_flatten]
  have := run_storeCells_cells (P := Tryz.prog) B (off + (i + (n - j)) * 11) (List.replicate (j - i) zcB).flatten 0 W1 (fun k hk => by
    rw [hW1]
    refine cell?_set_isSome ?_
    have := (s3.out ((n - j) * 11 + k) (by rw [hl] at hk; omega)).1
    rw [show off + (i + (n - j)) * 11 + 0 + k = off + i * 11 + ((n - j) * 11 + k) by omega]
    exact this) (fun k hk => by
    rw [hW1, frozen?_setCells]
    have := (s3.out ((n - j) * 11 + k) (by rw [hl] at hk; omega)).2
    rw [show off + (i + (n - j)) * 11 + 0 + k = off + i * 11 + ((n - j) * 11 + k) by omega]
    exact this) (fun u hu => by
    simp only [List.mem_flatten, List.mem_replicate] at hu
    obtain ⟨l, ⟨_, rfl⟩, hu⟩ := hu
    exact List.all_eq_true.1 (show (zcB : List Value).all (·.oneCell') = true from rfl) u hu)
  simpa using this
 have hcl : ∀ ty, (Builtin.clear_ #[200] ty #[.slice (some ⟨B, off + (i + (n - j)) * 11, none⟩) (n - (i + (n - j))) (cap - (i + (n - j)))]).run Tryz.prog W1 = .ok (.tuple #[]) (W1.setCells B (off + (i + (n - j)) * 11) (List.replicate (j - i) zcB).flatten) := by
  intro ty
  have hpos : n - (i + (n - j)) = (j - i - 1) + 1 := by omega
  have hzc : (Builtin.zeroCells u.cells (j - i)).toList = (List.replicate (j - i) zcB).flatten := by
   have e2 : u.cells.size = 11 := by have := congrArg List.length hzz; simpa using this
   have := range_flatten zcB (j - i) 11 rfl (by decide)
   unfold Builtin.zeroCells
   rw [e2]
   rw [← hzz] at this ⊢
   simpa [e2] using this
  rw [hpos, show j - i = (j - i - 1) + 1 by omega] at *
  simp [Builtin.clear_, run_underlying Tryz.underlying200, run_zeroValue hi2 hiu, hzc, hst]
 have hW : Hid (W1 = w.drew.setCells B (off + i * 11) news) := hW1
 have hic : i ≤ cap := by omega
 have hjc : j ≤ cap := by omega
 rw [← hW1]
 clear hW1 s3 hsrc hst
 go_enter Tryz.func212, Tryz.ntmps212
 go_wp2_with fail
 go_region_law (refine step_append_room rfl (.tmp 22) (.tmp 25) 200 rfl 304 i0 11 Tryz.underlying200 hi0 hz1 B off i cap (by simp [Act.eval, Act.put]) A (n - j) (cap - j) news (by simp [Act.eval, Act.put]) s1.out hsrc2.out s2.out (by omega) s4.out ?_; rw [← hW.out])
 go_wp2
 go_ret
 exact ⟨by rw [show n - (j - i) = i + (n - j) by omega]; rfl, rfl⟩

set_option maxHeartbeats 1000000 in
theorem delP_sound_B {args : List Value} {h h' : LHeap} {v : Value} (hx : delP 11 zcB args h = some (v, h')) : Sound Tryz.prog 212 args h v h' := by
 refine ⟨⟨_, Tryz.func212, of_decide_eq_true (by kernel_rfl), by kernel_rfl⟩, fun ν w args' hr hargs => ?_⟩
 unfold delP at hx
 split at hx
 rotate_left
 ·cases hx
 rename_i b o n e i j
 split at hx
 rotate_left
 ·cases hx
 rename_i hcond
 obtain ⟨rfl, hi0, hij, hjn, hn⟩ := hcond
 split at hx
 rotate_left
 ·cases hx
 rename_i cs tip hg
 split at hx
 rotate_left
 ·cases hx
 rename_i hcs
 obtain ⟨hlen, hone⟩ := hcs
 cases hx
 obtain ⟨i, rfl⟩ := Int.eq_ofNat_of_zero_le hi0
 obtain ⟨j, rfl⟩ := Int.eq_ofNat_of_zero_le (show 0 ≤ j by omega)
 have hij : i < j := by omega
 have hjn : j ≤ n := by omega
 simp only [Int.toNat_natCast]
 obtain ⟨s', l1, e1, hs, hl1⟩ := hargs.cons_inv
 obtain ⟨i', l2, rfl, hi, hl2⟩ := hl1.cons_inv
 obtain ⟨j', l3, rfl, hj, hl3⟩ := hl2.cons_inv
 have := hl3.nil_inv
 subst this
 cases hi
 cases hj
 cases hs with
 | sempty => omega
 | slice hb hle hfin =>
  rename_i cap pl
  have he : args' = #[.slice (some ⟨pl.B, pl.base + o, none⟩) n cap, .int .i64 i, .int .i64 j] := by
   apply Array.ext'
   simpa using e1
  rw [he]
  obtain ⟨c, ty, fz, k1, k2, k3, k4, k5, k6⟩ := hr.cells hb hg
  have hml : (n - j) * 11 + j * 11 = n * 11 := by omega
  have hld : h.loadCells b (o + j * 11) ((n - j) * 11) = some ((cs.drop (o + j * 11)).take ((n - j) * 11)) := by
   unfold LHeap.loadCells
   rw [hg]
   simp only
   rw [if_pos (by omega)]
  obtain ⟨hnl, news, hvr, hcell⟩ := hr.loadCells hld hb
  have hol : oneCells ((cs.drop (o + j * 11)).take ((n - j) * 11)) = true := by
   unfold oneCells at hone ⊢
   rw [List.all_eq_true] at hone ⊢
   intro x hx
   exact hone x (List.mem_of_mem_drop (List.mem_of_mem_take hx))
  have hnews : news.length = (n - j) * 11 := by rw [← hvr.1, hnl]
  have hzl : (List.replicate (j - i) zcB).flatten.length = (j - i) * 11 := by simp [List.length_flatten]
  have hzo : oneCells (List.replicate (j - i) zcB).flatten = true := by
   unfold oneCells
   rw [List.all_eq_true]
   intro x hx
   simp only [List.mem_flatten, List.mem_replicate] at hx
   obtain ⟨l, ⟨_, rfl⟩, hx⟩ := hx
   exact List.all_eq_true.1 (show zcB.all (·.oneCell') = true from rfl) x hx
  have hzv : VRs ν (List.replicate (j - i) zcB).flatten (List.replicate (j - i) zcB).flatten := all_const_VRs (by
   rw [List.all_eq_true]
   intro x hx
   simp only [List.mem_flatten, List.mem_replicate] at hx
   obtain ⟨l, ⟨_, rfl⟩, hx⟩ := hx
   exact List.all_eq_true.1 (show zcB.all constOk = true from rfl) x hx) ν
  have hd : HR ν h w.drew := hr.drew _
  have st1 : h.storeCells b (o + i * 11) ((cs.drop (o + j * 11)).take ((n - j) * 11)) = some (h.set b (.cells (splice cs (o + i * 11) ((cs.drop (o + j * 11)).take ((n - j) * 11))) tip true)) := by
   rw [LHeap.storeCells_eq, hg]
   simp only
   rw [if_pos ⟨by rw [hnl]; omega, hol⟩]
  obtain ⟨_, r1, p1⟩ := hd.storeCells hb st1 hvr Tryz.prog
  have hsl : (splice cs (o + i * 11) ((cs.drop (o + j * 11)).take ((n - j) * 11))).length = cs.length := length_splice _ _ _ (by rw [hnl]; omega)
  have st2 : (h.set b (.cells (splice cs (o + i * 11) ((cs.drop (o + j * 11)).take ((n - j) * 11))) tip true)).storeCells b (o + (i + (n - j)) * 11) (List.replicate (j - i) zcB).flatten =
    some ((h.set b (.cells (splice cs (o + i * 11) ((cs.drop (o + j * 11)).take ((n - j) * 11))) tip true)).set b (.cells (splice (splice cs (o + i * 11) ((cs.drop (o + j * 11)).take ((n - j) * 11))) (o + (i + (n - j)) * 11) (List.replicate (j - i) zcB).flatten) tip true)) := by
   rw [LHeap.storeCells_eq]
   simp only [LHeap.get_set, if_true]
   rw [if_pos ⟨by rw [hzl, hsl]; omega, hzo⟩]
  obtain ⟨_, r2, p2⟩ := r1.storeCells hb st2 hzv Tryz.prog
  refine (delWalk_B pl.B (pl.base + o) n cap i j news w hle (by omega) hij hjn hnews (fun t u hu => ?_) (hvr.oneCells hol) (fun t ht => ?_)).mono ?_
  ·have := hcell t u hu
   simp only [Addr.add_lit]
   rw [World.cell?_drew, Nat.add_assoc pl.base]
   exact this
  ·rw [World.cell?_drew, cell?_of_heap k1]
   refine ⟨?_, ?_⟩
   ·simp; omega
   ·have := frozen?_of_heap k1 ((k6 rfl).not (pl.base + o + i * 11 + t) (by omega))
    simpa using this
  ·rintro x w' ⟨rfl, rfl⟩
   have hss : splice (splice cs (o + i * 11) ((cs.drop (o + j * 11)).take ((n - j) * 11))) (o + (i + (n - j)) * 11) (List.replicate (j - i) zcB).flatten = splice cs (o + i * 11) ((cs.drop (o + j * 11)).take ((n - j) * 11) ++ (List.replicate (j - i) zcB).flatten) := by
    rw [← splice_splice _ _ _ _ (by rw [hnl, hzl]; omega), hnl]
    congr 1; omega
   have hget : ∀ c, ((h.set b (.cells (splice cs (o + i * 11) ((cs.drop (o + j * 11)).take ((n - j) * 11))) tip true)).set b (.cells (splice (splice cs (o + i * 11) ((cs.drop (o + j * 11)).take ((n - j) * 11))) (o + (i + (n - j)) * 11) (List.replicate (j - i) zcB).flatten) tip true)).get c =
     (h.set b (.cells (splice cs (o + i * 11) ((cs.drop (o + j * 11)).take ((n - j) * 11) ++ (List.replicate (j - i) zcB).flatten)) tip true)).get c := by
    intro c
    rw [hss]
    simp only [LHeap.get_set]
    split <;> rfl
   have e1 : pl.base + (o + i * 11) = pl.base + o + i * 11 := by omega
   have e2 : pl.base + (o + (i + (n - j)) * 11) = pl.base + o + (i + (n - j)) * 11 := by omega
   rw [e1, e2] at r2 p2
   rw [e1] at p1
   refine ⟨ν, _, rfl, .slice hb (by omega) hfin, r2.congr hget rfl, ((Step.drew _).trans (p1.trans p2)).congr hget rfl⟩

end Go.E1
