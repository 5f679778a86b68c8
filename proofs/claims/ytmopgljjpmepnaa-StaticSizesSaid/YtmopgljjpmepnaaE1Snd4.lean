/-
  Unary operations, conversions, what is made, addresses, parts.
-/
import Derived.Test.YtmopgljjpmepnaaE1Snd3
import Derived.Laws.BytesString
namespace Go.E1
open Go

section
variable {P : Program} {q : EqF} {o : Oper} {ρ : Operand → Value} {ν : Inj} {h h' : LHeap} {w : World} {v : Value} {rd : LO → Option Value}

theorem good_un {op : UnOp} {t : TypeId} {x : Operand} (ho : o.op = .unOp op t x) {lo : LOp LO} {lv : LOp Value} (hc : (cLO x).map (LOp.un op) = some lo) (hs : lo.sub rd = some lv) (hx : lexec q lv h = some (v, h'))
    (hr : HR ν h w) (hv : ∀ lx v, cLO x = some lx → rd lx = some v → VR ν v (ρ x)) : Good P o ρ ν h w v h' := by
  obtain ⟨lx, a, rfl⟩ := map_some hc
  obtain ⟨y, b, rfl⟩ := rd1 hs
  have hva := hv lx y a b
  simp only [lexec] at hx
  split at hx
  · simp only [Option.some.injEq, Prod.mk.injEq] at hx
    obtain ⟨rfl, rfl⟩ := hx
    refine Good.pure hr ?_ (.int _ _)
    simp [execOp, ho, hva.int_inv, Op.unary, Op.intArith]
  · obtain ⟨r, hib, hx⟩ := map_some hx
    simp only [Prod.mk.injEq] at hx
    obtain ⟨rfl, rfl⟩ := hx
    simp only [ibin, Option.some.injEq] at hib
    subst hib
    refine Good.pure hr ?_ (.int _ _)
    simp [execOp, ho, hva.int_inv, Op.unary, Op.intBits]
  · simp only [Option.some.injEq, Prod.mk.injEq] at hx
    obtain ⟨rfl, rfl⟩ := hx
    refine Good.pure hr ?_ (.bool _)
    simp [execOp, ho, hva.bool_inv, Op.unary]
  · cases hx

theorem bytesWorld_eq (w : World) (e : TypeId) (s : ByteArray) :
    ∃ n, Lib.bytesWorld w e s = { (w.alloc (.cells (Lib.bytesCells w e s) e ((Lib.bytesCells w e s).size, (Lib.bytesCells w e s).size + 1))) with drawn := n } := by
  have hh : (Lib.bytesWorld w e s).heap = (w.alloc (.cells (Lib.bytesCells w e s) e ((Lib.bytesCells w e s).size, (Lib.bytesCells w e s).size + 1))).heap := by
    apply Array.ext_getElem?
    intro i
    rcases Nat.lt_trichotomy i w.heap.size with hi | hi | hi
    · rw [Lib.bytesWorld_at_old _ _ _ _ hi, alloc_get _ hi]
    · subst hi
      rw [Lib.bytesWorld_at_new, alloc_new]
    · rw [Array.getElem?_eq_none (by rw [Lib.bytesWorld_size]; omega), Array.getElem?_eq_none (by rw [alloc_size]; omega)]
  refine ⟨(Lib.bytesWorld w e s).drawn, ?_⟩
  cases hb : Lib.bytesWorld w e s with
  | mk heap tape drawn os output =>
    rw [hb] at hh
    simp only at hh
    subst hh
    have h1 : (Lib.bytesWorld w e s).tape = w.tape := rfl
    have h2 : (Lib.bytesWorld w e s).os = w.os := rfl
    have h3 : (Lib.bytesWorld w e s).output = w.output := rfl
    rw [hb] at h1 h2 h3
    simp only at h1 h2 h3
    subst h1; subst h2; subst h3
    rfl

theorem grownCap_ge (w : World) (n : Nat) (e : TypeId) : n ≤ grownCap w n 0 e := by
  simp [grownCap, Question.cut]

theorem good_convert {src dst : TypeId} {x : Operand} (ho : o.op = .convert src dst x) {lo : LOp LO} {lv : LOp Value} (hc : cOp P (.convert src dst x) = some lo) (hs : lo.sub rd = some lv) (hx : lexec q lv h = some (v, h'))
    (hr : HR ν h w) (hv : OpsR ν (.convert src dst x) rd ρ) : Good P o ρ ν h w v h' := by
  have hv' := hv x (by simp [Op.operands])
  simp only [cOp] at hc
  split at hc
  · -- to an integer
    rename_i u k lx hsr hd ha
    cases hc
    obtain ⟨y, b, rfl⟩ := rd1 hs
    have hva := hv' lx y ha b
    simp only [lexec] at hx
    split at hx
    · simp only [Option.some.injEq, Prod.mk.injEq] at hx
      obtain ⟨rfl, rfl⟩ := hx
      refine Good.pure hr ?_ (.int _ _)
      simp [execOp, ho, hva.int_inv, convert, run_underlying hsr, run_underlying hd, Conv.intToInt]
    · cases hx
  · -- a string
    rename_i lx hsr hd ha
    cases hc
    obtain ⟨y, b, rfl⟩ := rd1 hs
    have hva := hv' lx y ha b
    simp only [lexec] at hx
    split at hx
    · simp only [Option.some.injEq, Prod.mk.injEq] at hx
      obtain ⟨rfl, rfl⟩ := hx
      refine Good.pure hr ?_ (.string _)
      simp [execOp, ho, hva.str_inv, convert, run_underlying hsr, run_underlying hd]
    · cases hx
  · -- a string's bytes
    rename_i e lx hsr hd ha
    split at hc
    · rename_i he
      cases hc
      obtain ⟨y, b, rfl⟩ := rd1 hs
      have hva := hv' lx y ha b
      simp only [lexec] at hx
      split at hx
      · rename_i s
        simp only [Option.some.injEq, Prod.mk.injEq] at hx
        obtain ⟨rfl, rfl⟩ := hx
        have hrun := Lib.run_convert_string_bytes (P := P) w src dst e s hsr hd he
        obtain ⟨n, hw⟩ := bytesWorld_eq w e s
        have hsz : (Lib.bytesCells w e s).size = s.size + (grownCap w s.size 0 e - s.size) := by simp [Lib.bytesCells]
        have hge := grownCap_ge w s.size e
        have hal := hr.alloc (s.data.toList.map fun b => .int .u8 b.toNat) (Lib.bytesCells w e s) e ((Lib.bytesCells w e s).size, (Lib.bytesCells w e s).size + 1) (by simp [hsz])
          (fun i v hi => by
            refine ⟨v, ?_, ?_⟩
            · have hlt : i < s.data.size := by
                rcases Nat.lt_or_ge i s.data.size with hlt | hge
                · exact hlt
                · simp [List.getElem?_eq_none (show s.data.toList.length ≤ i by simpa using hge)] at hi
              simp only [Lib.bytesCells]
              rw [Array.getElem?_append_left (by simpa using hlt)]
              simpa using hi
            · simp only [List.getElem?_map, Option.map_eq_some_iff] at hi
              obtain ⟨b, _, rfl⟩ := hi
              exact .int _ _)
          (fun k hk => by simp; omega)
        refine ⟨_, .slice (some ⟨w.heap.size, 0, none⟩) s.size (grownCap w s.size 0 e), Lib.bytesWorld w e s, .inl ?_, ?_, by rw [hw]; exact hal.1.drew n, by rw [hw]; exact hal.2.trans (Step.drew n)⟩
        · simp [execOp, ho, hva.str_inv, hrun]
        · exact VR.slice (o := 0) (Inj.put_same ν h.size _) hge (by simp [hsz]; omega)
      · cases hx
    · cases hc
  · -- bytes as a string
    rename_i e lx hsr hd ha
    split at hc
    · rename_i he
      cases hc
      obtain ⟨y, b, rfl⟩ := rd1 hs
      have hva := hv' lx y ha b
      simp only [lexec] at hx
      have hby : ∀ (cs : List Value) (l : List UInt8), bytesOf cs = some l → ∃ ns : List Int, cs = ns.map (Value.int .u8) ∧ l = ns.map fun n => UInt8.ofNat n.toNat := by
        intro cs
        induction cs with
        | nil => intro l hl; simp only [bytesOf, Option.some.injEq] at hl; exact ⟨[], rfl, hl.symm⟩
        | cons c cs ih =>
          intro l hl
          unfold bytesOf at hl
          split at hl
          · rename_i hnil; cases hnil
          · rename_i n l' heq
            cases heq
            obtain ⟨m, hm, rfl⟩ := map_some hl
            obtain ⟨ns, rfl, rfl⟩ := ih m hm
            exact ⟨n :: ns, rfl, rfl⟩
          · cases hl
      split at hx
      · simp only [Option.some.injEq, Prod.mk.injEq] at hx
        obtain ⟨rfl, rfl⟩ := hx
        refine Good.pure hr (v' := .string ⟨#[]⟩) ?_ (.string _)
        have hn : ρ x = .slice none 0 0 := by
          generalize ρ x = z at hva ⊢
          cases hva; rfl
        simp [execOp, ho, hn, run_convert_bytes_string w src dst e _ 0 0 hsr he hd, Conv.bytesToString]
        rfl
      · rename_i b' o' n
        split at hx
        · rename_i cs hcs
          obtain ⟨l, hl, hx⟩ := map_some hx
          simp only [Prod.mk.injEq] at hx
          obtain ⟨rfl, rfl⟩ := hx
          obtain ⟨ns, rfl, rfl⟩ := hby cs l hl
          have key : ∃ a' cap, ρ x = .slice (some a') n cap ∧ (loadCells a' n).run P w = .ok (ns.map (Value.int .u8)).toArray w := by
            generalize ρ x = z at hva ⊢
            cases hva with
            | slice hb hle hfin =>
              rename_i cap pl
              refine ⟨_, _, rfl, ?_⟩
              split at hcs
              · rename_i h0
                subst h0
                simp only [Option.some.injEq] at hcs
                rw [← hcs]
                simpa using run_loadCells_list (P := P) w ⟨pl.B, pl.base + o', none⟩ [] (by simp)
              · obtain ⟨hl, vs', hvr, hcell⟩ := hr.loadCells hcs hb
                have hvs : vs' = ns.map (Value.int .u8) := by
                  apply List.ext_getElem?
                  intro i
                  have hlen := hvr.1
                  rcases Nat.lt_or_ge i vs'.length with hi | hi
                  · have h1 : (ns.map (Value.int .u8))[i]? = some (Value.int .u8 (ns[i]'(by simp at hlen; omega))) := by simp
                    obtain ⟨v', hv1, hv2⟩ := hvr.get h1
                    rw [h1, hv1, hv2.int_inv]
                  · rw [List.getElem?_eq_none hi, List.getElem?_eq_none (by omega)]
                have := run_loadCells_list (P := P) w ⟨pl.B, pl.base + o', none⟩ vs' (fun j x hj => by rw [add_plain]; exact hcell j x hj)
                rw [hvs] at this
                simpa [hl] using this
            | sempty =>
              rename_i a'
              refine ⟨a', 0, rfl, ?_⟩
              simp only [if_true, Option.some.injEq] at hcs
              rw [← hcs]
              simpa using run_loadCells_list (P := P) w a' [] (by simp)
          obtain ⟨a', cap, hn, hload⟩ := key
          refine Good.pure hr (v' := .string ⟨(ns.map fun n => UInt8.ofNat n.toNat).toArray⟩) ?_ (.string _)
          have := run_bytesToString (P := P) w a' n cap ns hload
          simp [execOp, ho, hn, run_convert_bytes_string w src dst e _ n cap hsr he hd, this, foldl_push_bytes]
        · cases hx
      · cases hx
    · cases hc
  · cases hc

theorem good_makeFunc {fn : Fn} {first cap : Array Operand} (ho : o.op = .makeFunc fn first cap) {lo : LOp LO} {lv : LOp Value} (hc : cOp P (.makeFunc fn first cap) = some lo) (hs : lo.sub rd = some lv) (hx : lexec q lv h = some (v, h'))
    (hr : HR ν h w) (hv : OpsR ν (.makeFunc fn first cap) rd ρ) : Good P o ρ ν h w v h' := by
  simp only [cOp] at hc
  split at hc
  · rename_i hf
    have hf' : first = #[] := by simpa using hf
    subst hf'
    obtain ⟨l, hl, rfl⟩ := map_some hc
    obtain ⟨l2, hl2, hlv⟩ := map_some hs
    subst hlv
    simp only [lexec, Option.some.injEq, Prod.mk.injEq] at hx
    obtain ⟨rfl, rfl⟩ := hx
    have hvr := listM_VRs (ρ := ρ) (ν := ν) hl hl2 fun x hx => hv x (by simpa [Op.operands] using hx)
    refine Good.pure hr (v' := .func fn #[] (cap.map ρ)) ?_ ?_
    · simp [execOp, ho, Instr.makeFunc]
    · refine .func ?_ ?_
      · have := hvr.1; simpa using this
      · intro i a b ha hb
        exact hvr.2 i a b (by simpa using ha) (by simpa using hb)
  · cases hc

theorem good_makeMap {t : TypeId} (ho : o.op = .makeMap t none) {lo : LOp LO} {lv : LOp Value} (hc : cOp P (.makeMap t none) = some lo) (hs : lo.sub rd = some lv) (hx : lexec q lv h = some (v, h'))
    (hr : HR ν h w) : Good P o ρ ν h w v h' := by
  simp only [cOp, Option.some.injEq] at hc
  subst hc
  simp only [LOp.sub, Option.some.injEq] at hs
  subst hs
  simp only [lexec, Option.some.injEq, Prod.mk.injEq] at hx
  obtain ⟨rfl, rfl⟩ := hx
  have hal := hr.allocMap 0
  refine ⟨_, .map (some w.heap.size), _, .inl ?_, VR.map (Inj.put_same ν h.size _), hal.1, hal.2⟩
  simp [execOp, ho, Instr.makeMap]

end
end Go.E1
