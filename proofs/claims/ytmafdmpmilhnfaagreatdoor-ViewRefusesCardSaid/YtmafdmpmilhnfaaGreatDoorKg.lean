/-
  Texts joined: Get, Grow, Grw.
-/
import Derived.Test.YtmafdmpmilhnfaaGreatDoorKsB
import Derived.Test.YtmafdmpmilhnfaaGreatDoorKf
import Derived.Tactics
import Derived.Tactics2
import Derived.Laws.Append
import Derived.OwnWalk
import Derived.Shelf.Spec.SlicesGrow
/-
 The code's tables, made once: get.
-/
namespace Go.E1
open Go Go.Proofs

noncomputable def sortF (f : FuncId) : List Value → LHeap → Option (Value × LHeap)
 | .slice (some ⟨b, 261, none⟩) 257 1 :: rest, h => match h.get b with
  | some (.cells cs true true) => match tabS.find? (fun e => e.1 == f && veqs e.2.1 rest && veqs cs (coderOf e.2.2.1)) with
   | some e => some (.tuple #[], h.set b (.cells (coderOf e.2.2.2) true true))
   | none => none
  | _ => none
 | _, _ => none

theorem plains_app {a b : List Value} (ha : plains a = true) (hb : plains b = true) : plains (a ++ b) = true := by
 induction a with
 | nil => exact hb
 | cons x a ih =>
  simp only [plains, Bool.and_eq_true, List.cons_append] at ha ⊢
  exact ⟨ha.1, ih ha.2⟩
theorem plains_rep {v : Value} (hv : plain v = true) (n : Nat) : plains (List.replicate n v) = true := by
 induction n with
 | zero => rfl
 | succ n ih => simp only [List.replicate_succ, plains, Bool.and_eq_true]; exact ⟨hv, ih⟩
theorem plains_ints (s : List Nat) : plains (s.map fun n : Nat => Value.int .i64 n) = true := by
 induction s with
 | nil => rfl
 | cons x s ih => simp only [List.map_cons, plains, Bool.and_eq_true]; exact ⟨rfl, ih⟩
theorem plains_coderOf (s : List Nat) : plains (coderOf s) = true :=
 plains_app (plains_app (plains_app (plains_app rfl (plains_rep rfl _)) (plains_ints s)) (plains_rep rfl _)) (plains_rep rfl _)

theorem tabS_rel : tabS.all (fun e => e.2.1.all fun v => relOk v && veq (rel 7 v) v && (match v with | .pointer _ | .slice .. => false | _ => true)) = true := by kernel_rfl

theorem rel_same {v : Value} (h : (match v with | .pointer _ | .slice .. => false | _ => true) = true) (b : Nat) : rel b v = v := by
 cases v <;> first | rfl | cases h

theorem sortF_sound {f : FuncId} {args : List Value} {h h' : LHeap} {v : Value} (hx : sortF f args h = some (v, h')) : Sound Tryz.prog f args h v h' := by
 unfold sortF at hx
 split at hx
 ·rename_i b rest
  split at hx
  ·rename_i cs hg
   split at hx
   ·rename_i e he
    simp only [Option.some.injEq, Prod.mk.injEq] at hx
    obtain ⟨rfl, rfl⟩ := hx
    have hm := List.mem_of_find?_eq_some he
    have hp := List.find?_some he
    simp only [Bool.and_eq_true, beq_iff_eq] at hp
    obtain ⟨⟨rfl, hp2⟩, hp3⟩ := hp
    have := veqs_eq _ _ hp2
    subst this
    have := veqs_eq _ _ hp3
    subst this
    have hok := tabS_ok e hm
    have hrel := List.all_eq_true.1 tabS_rel e hm
    unfold okE okStep at hok
    split at hok
    ·rename_i h1 hev
     split at hok
     ·rename_i cs' hg'
      have := veqs_eq _ _ hok
      subst this
      have hs := evF_sound E0c_ok _ _ _ _ _ _ (by rw [← F.ev_eq]; exact hev)
      have := hs.lift1 hg' (plains_coderOf _) (plains_coderOf _) (by
       intro a ha
       rcases List.mem_cons.1 ha with rfl | ha
       ·rfl
       ·have := List.all_eq_true.1 hrel a ha
        simp only [Bool.and_eq_true] at this
        exact this.1.1) rfl (.inl rfl) hg
      simp only [List.map_cons] at this
      have hrest : e.2.1.map (rel b) = e.2.1 := by
       conv => rhs; rw [← List.map_id e.2.1]
       refine List.map_congr_left fun a ha => ?_
       have := List.all_eq_true.1 hrel a ha
       simp only [Bool.and_eq_true] at this
       exact rel_same this.2 b
      rw [hrest] at this
      exact this
     ·cases hok
    ·cases hok
   ·cases hx
  ·cases hx
 ·cases hx

noncomputable def E01 : Env := (((({ code := tabR tabA, q := qOf [], prim := fun _ => none } : Env).put 250 addP).put 267 (sortF 267)).put 268 (sortF 268)).put 225 (pureP gLong)
theorem E01_ok : EnvOk Tryz.prog E01 :=
 (((E0_ok.put _ addP fun _ _ _ _ => addP_sound).put _ _ fun _ _ _ _ => sortF_sound).put _ _ fun _ _ _ _ => sortF_sound).put _ _ fun args h v h' hx => E0a_ok.prim _ _ rfl args h v h' hx

noncomputable def E02 : Env := ({ code := tabR tabA, q := qOf [], prim := fun _ => none } : Env).put 246 (onceP (F.ev E01 1000))
theorem E02_ok : EnvOk Tryz.prog E02 := E0_ok.put _ _ fun _ _ _ _ hx => onceP_sound (by rw [F.ev_eq]; exact evF_sound E01_ok 1000) hx

def coder0 : List Value := [.int .u32 0, .int .i32 0, .int .u32 0, .int .i64 0] ++ List.replicate 257 (.int .u32 0) ++ List.replicate 257 (.int .i64 0) ++ List.replicate 31 (.int .u32 0) ++ List.replicate 62 (.int .i64 0)
def huffCodes : List Nat := [8184, 8388568, 268435426, 268435427, 268435428, 268435429, 268435430, 268435431, 268435432, 16777194, 1073741820, 268435433, 268435434, 1073741821, 268435435, 268435436, 268435437, 268435438, 268435439, 268435440, 268435441, 268435442, 1073741822, 268435443, 268435444, 268435445, 268435446, 268435447, 268435448, 268435449, 268435450, 268435451, 20, 1016, 1017, 4090, 8185, 21, 248, 2042, 1018, 1019, 249, 2043, 250, 22, 23, 24, 0, 1, 2, 25, 26, 27, 28, 29, 30, 31, 92, 251, 32764, 32, 4091, 1020, 8186, 33, 93, 94, 95, 96, 97, 98, 99, 100, 101, 102, 103, 104, 105, 106, 107, 108, 109, 110, 111, 112, 113, 114, 252, 115, 253, 8187, 524272, 8188, 16380, 34, 32765, 3, 35, 4, 36, 5, 37, 38, 39, 6, 116, 117, 40, 41, 42, 7, 43, 118, 44, 8, 9, 45, 119, 120, 121, 122, 123, 32766, 2044, 16381, 8189, 268435452, 1048550, 4194258, 1048551, 1048552, 4194259, 4194260, 4194261, 8388569, 4194262, 8388570, 8388571, 8388572, 8388573, 8388574, 16777195, 8388575, 16777196, 16777197, 4194263, 8388576, 16777198, 8388577, 8388578, 8388579, 8388580, 2097116, 4194264, 8388581, 4194265, 8388582, 8388583, 16777199, 4194266, 2097117, 1048553, 4194267, 4194268, 8388584, 8388585, 2097118, 8388586, 4194269, 4194270, 16777200, 2097119, 4194271, 8388587, 8388588, 2097120, 2097121, 4194272, 2097122, 8388589, 4194273, 8388590, 8388591, 1048554, 4194274, 4194275, 4194276, 8388592, 4194277, 4194278, 8388593, 67108832, 67108833, 1048555, 524273, 4194279, 8388594, 4194280, 33554412, 67108834, 67108835, 67108836, 134217694, 134217695, 67108837, 16777201, 33554413, 524274, 2097123, 67108838, 134217696, 134217697, 67108839, 134217698, 16777202, 2097124, 2097125, 67108840, 67108841, 268435453, 134217699, 134217700, 134217701, 1048556, 16777203, 1048557, 2097126, 4194281, 2097127, 2097128, 8388595, 4194282, 4194283, 33554414, 33554415, 16777204, 16777205, 67108842, 8388596, 67108843, 134217702, 67108844, 67108845, 134217703, 134217704, 134217705, 134217706, 134217707, 268435454, 134217708, 134217709, 134217710, 134217711, 134217712, 67108846, 1073741823]
def huffFirst : List Nat := [0, 0, 0, 0, 0, 0, 20, 92, 248, 0, 1016, 2042, 4090, 8184, 16380, 32764, 0, 0, 0, 524272, 1048550, 2097116, 4194258, 8388568, 16777194, 33554412, 67108832, 134217694, 268435426, 0, 1073741820]
def huffCount : List Nat := [0, 0, 0, 0, 0, 10, 26, 32, 6, 0, 5, 3, 2, 6, 2, 3, 0, 0, 0, 3, 8, 13, 26, 29, 12, 4, 15, 19, 29, 0, 4]
def huffBegins : List Nat := [0, 0, 0, 0, 0, 0, 10, 36, 68, 0, 74, 79, 82, 84, 90, 92, 0, 0, 0, 95, 98, 106, 119, 145, 174, 186, 190, 205, 224, 0, 253]
def coder1 : List Value := [.int .u32 1, .int .i32 0, .int .u32 0, .int .i64 1] ++ huffCodes.map (fun n : Nat => .int .u32 n) ++ sortedSymbols.map (fun n : Nat => .int .i64 n) ++ huffFirst.map (fun n : Nat => .int .u32 n) ++ huffCount.map (fun n : Nat => .int .i64 n) ++ huffBegins.map (fun n : Nat => .int .i64 n)

noncomputable def getOk : Bool :=
 match F.ev E02 1000 224 [.pointer (some ⟨0, 0, none⟩)] (LHeap.empty.push (.cells coder0 true true)) with
 | some (v, h) => veq v (.pointer (some ⟨0, 0, none⟩)) && (match h.get 0 with
  | some (.cells cs true true) => veqs cs coder1
  | _ => false)
 | _ => false
theorem getRun : getOk = true := by kernel_rfl
end Go.E1

/-
 slices.Grow of nothing; the code's tables wherever a coder lies.
-/
namespace Go.E1
open Go Go.Proofs

noncomputable def getP : List Value → LHeap → Option (Value × LHeap)
 | [.pointer (some ⟨b, 0, none⟩)], h => match h.get b with
  | some (.cells cs true true) => if veqs cs coder0 = true then some (.pointer (some ⟨b, 0, none⟩), h.set b (.cells coder1 true true)) else none
  | _ => none
 | _, _ => none
theorem coder0_self : veqs coder0 coder0 = true := by kernel_rfl

theorem plains_nats (k : IntKind) (s : List Nat) : plains (s.map fun n : Nat => Value.int k n) = true := by
 induction s with
 | nil => rfl
 | cons x s ih => simp only [List.map_cons, plains, Bool.and_eq_true]; exact ⟨rfl, ih⟩
theorem plains_coder0 : plains coder0 = true := plains_app (plains_app (plains_app (plains_app rfl (plains_rep rfl _)) (plains_rep rfl _)) (plains_rep rfl _)) (plains_rep rfl _)
theorem plains_coder1 : plains coder1 = true := plains_app (plains_app (plains_app (plains_app (plains_app rfl (plains_nats _ _)) (plains_nats _ _)) (plains_nats _ _)) (plains_nats _ _)) (plains_nats _ _)

theorem getP_sound {args : List Value} {h h' : LHeap} {v : Value} (hx : getP args h = some (v, h')) : Sound Tryz.prog 224 args h v h' := by
 unfold getP at hx
 split at hx
 ·rename_i b
  split at hx
  rotate_left
  ·cases hx
  ·rename_i cs hg0
   split at hx
   rotate_left
   ·cases hx
   rename_i hcs
   have hg : h.get b = some (.cells coder0 true true) := by rw [hg0, veqs_eq _ _ hcs]
   simp only [Option.some.injEq, Prod.mk.injEq] at hx
   obtain ⟨rfl, rfl⟩ := hx
   have hr := getRun
   unfold getOk at hr
   split at hr
   ·rename_i v h1 hev
    simp only [Bool.and_eq_true] at hr
    obtain ⟨e1, hr⟩ := hr
    have := veq_eq _ _ e1
    subst this
    split at hr
    ·rename_i cs hg1
     have := veqs_eq _ _ hr
     subst this
     have hs := evF_sound E02_ok _ _ _ _ _ _ (by rw [← F.ev_eq]; exact hev)
     have := hs.lift1 hg1 plains_coder0 plains_coder1 (by
      intro a ha
      simp only [List.mem_singleton] at ha
      subst ha
      rfl) rfl (.inr ⟨0, by simp⟩) hg
     exact this
    ·cases hr
   ·cases hr
 ·cases hx

theorem getP_mk {b : Nat} {h : LHeap} (hg : h.get b = some (.cells coder0 true true)) : getP [.pointer (some ⟨b, 0, none⟩)] h = some (.pointer (some ⟨b, 0, none⟩), h.set b (.cells coder1 true true)) := by
 simp only [getP, hg, coder0_self, if_true]
end Go.E1

/-
 slices.Grow of no bytes, as a primitive.
-/
namespace Go.E1
open Go Go.Proofs Go.Shelf

def growRen : Ren := ⟨fun x => if x = 4 then 54 else x, fun x => if x = 22 then 27 else if x = 25 then 5 else x, fun x => x⟩
theorem growLay : Lays8.n4 Tryz.prog growRen where
 mixed := by kernel_rfl
 f4 := ⟨"slices.Grow[[]byte,byte]", by decide, Tryz.func54.trans (congrArg some (by kernel_rfl))⟩
 t0 := Tryz.underlying0
 a0 := Tryz.isAgg0
 z0 := Tryz.sizeOf0
 v0 := Tryz.zeroValue0
 t3 := Tryz.underlying3
 a3 := Tryz.isAgg3
 z3 := Tryz.sizeOf3
 v3 := Tryz.zeroValue3
 t4 := Tryz.underlying4
 a4 := Tryz.isAgg4
 z4 := Tryz.sizeOf4
 v4 := Tryz.zeroValue4
 t9 := Tryz.underlying9
 a9 := Tryz.isAgg9
 z9 := Tryz.sizeOf9
 v9 := Tryz.zeroValue9
 t20 := Tryz.underlying20
 a20 := Tryz.isAgg20
 z20 := Tryz.sizeOf20
 v20 := Tryz.zeroValue20
 t22 := Tryz.underlying27
 a22 := Tryz.isAgg27
 z22 := Tryz.sizeOf27
 v22 := Tryz.zeroValue27

def growP : List Value → LHeap → Option (Value × LHeap)
 | [.slice none 0 0, .int .i64 n], h => if n = 0 then some (.slice none 0 0, h) else if 0 < n ∧ n ≤ 1099511627776 then some (.slice (some ⟨h.size, 0, none⟩) 0 1, h.push (.cells [] true true)) else none
 | _, _ => none

theorem infoU8 : ((Tryz.prog.info? 5).map fun i => decide (i.size = 1) && decide (i.bytes = 1) && (match i.zero with | some (.int .u8 n) => decide (n = 0) | _ => false)) = some true := by kernel_rfl

theorem zcells (n : Nat) : (Builtin.zeroCells (Value.int IntKind.u8 0).cells n).toList = List.replicate n (.int .u8 0) := by
 have e : (Value.int IntKind.u8 0).cells = #[.int .u8 0] := rfl
 unfold Builtin.zeroCells
 rw [e]
 have h1 : (#[Value.int IntKind.u8 0] : Array Value).size = 1 := rfl
 rw [h1]
 simp only [Nat.mul_one, Nat.mod_one, Array.toList_map, Array.toList_range]
 rw [List.eq_replicate_iff]
 refine ⟨by simp, fun b hb => ?_⟩
 obtain ⟨_, _, rfl⟩ := List.mem_map.1 hb
 rfl

theorem growP_sound {args : List Value} {h h' : LHeap} {v : Value} (hx : growP args h = some (v, h')) : Sound Tryz.prog 54 args h v h' := by
 refine ⟨⟨_, Tryz.func54, of_decide_eq_true (by kernel_rfl), by kernel_rfl⟩, fun ν w args' hr hargs => ?_⟩
 unfold growP at hx
 split at hx
 ·rename_i n
  obtain ⟨s', l1, e1, hs, hl1⟩ := hargs.cons_inv
  obtain ⟨n', l2, rfl, hn, hl2⟩ := hl1.cons_inv
  have := hl2.nil_inv
  subst this
  cases hn
  cases hs
  have he : args' = #[.slice none 0 0, .int .i64 n] := by
   apply Array.ext'
   simpa using e1
  rw [he]
  split at hx
  ·rename_i h0
   cases hx
   subst h0
   refine (Any8.slices_Grow_room growLay none 0 0 0 w (by omega) (by omega) (by omega) (by omega)).mono ?_
   rintro e w' ⟨rfl, rfl⟩
   exact ⟨ν, _, rfl, .snil, hr, Step.refl _ _ _⟩
  ·split at hx
   ·rename_i h0 h1
    cases hx
    obtain ⟨m, rfl⟩ : ∃ m : Nat, n = m := ⟨n.toNat, by omega⟩
    obtain ⟨i0, hi0, hi⟩ := Option.map_eq_some_iff.1 infoU8
    simp only [Bool.and_eq_true, decide_eq_true_eq] at hi
    obtain ⟨⟨hsz, hby⟩, hz⟩ := hi
    have hz0 : i0.zero = some (.int .u8 0) := by
     split at hz
     ·rename_i k hk
      rw [hk]
      rw [of_decide_eq_true hz]
     ·cases hz
    refine (Any8.slices_Grow_grow growLay i0 _ hi0 hz0 (by omega) none 0 0 m [] w (by omega) (by omega) (by rw [hby]; omega) (by omega) (by simp) (fun _ => rfl) (fun a ha => by cases ha)).mono ?_
    rintro e w' ⟨rfl, rfl⟩
    generalize hg : grownCap w (0 + m) 0 (growRen.t 25) = cap
    have hcap : 0 + m ≤ cap := by rw [← hg]; exact grownCap_need _ _ _ _
    obtain ⟨ν', g1, g2, g3⟩ := grow_good hr (olds := []) (olds' := []) (news := []) (news' := []) (.nil ν) (.nil ν) (n := 0) (m := 0) (E := 1) (cap := cap) (z := (Value.int IntKind.u8 0).cells) (e := growRen.t 25) (by simp) (by simp) (by rfl) (by omega)
    have hcells : ([] : List Value).toArray ++ Builtin.zeroCells (Value.int IntKind.u8 0).cells (0 + m - 0) ++ Builtin.zeroCells (Value.int IntKind.u8 0).cells (cap - (0 + m)) = (([] : List Value) ++ []).toArray ++ Builtin.zeroCells (Value.int IntKind.u8 0).cells (cap - (0 + 0)) := by
     apply Array.ext'
     simp only [List.append_nil, Array.toList_append, Nat.zero_add, Nat.sub_zero, List.nil_append, zcells, List.replicate_append_replicate]
     rw [show m + (cap - m) = cap by omega]
    rw [hcells]
    exact ⟨ν', _, rfl, g3, g1, g2⟩
   ·cases hx
 ·cases hx
end Go.E1
