/-
  Texts joined: E1Snd, E1Snd2, E1Snd3, E1Snd4, E1Snd5, E1Snd6, E1Snd7, E1Snd8, E1SndM, E1Snd9, E1SndA.
-/
import Derived.Test.YtmafdmpmilhnfaaGreatDoorKa
import Derived.Laws.Append
import Derived.Laws.Entries
import Derived.Laws.Strings
import Derived.Lib.ConvBytes
import Derived.Laws.BytesArg
import Derived.Laws.BytesString
import Derived.Deep.Upon
import Derived.IntWalk
/-
 Each operation of the engine is sound: what it yields, the model's operation yields too, renamed.
-/
namespace Go.E1
open Go

def Gives (P : Program) (o : Oper) (ρ : Operand → Value) (w : World) (v : Value) (w' : World) : Prop :=
 (execOp ρ o).run P w = .ok (.value v) w' ∨ ((execOp ρ o).run P w = .ok .skip w' ∧ v = undef)

structure QOk (P : Program) (q : EqF) : Prop where
 eq : ∀ t x y b, q t x y = some b → ∀ ν x' y' w, VR ν x x' → VR ν y y' → (Op.equal t x' y').run P w = .ok b w
 guard : ∀ t x y b, q t x y = some b → P.eqGuardType P.depth t = false

/-- The operands, read on both sides. -/
def OpsR (ν : Inj) (op : Op) (rd : LO → Option Value) (ρ : Operand → Value) : Prop :=
 ∀ x ∈ op.operands, ∀ lx v, cLO x = some lx → rd lx = some v → VR ν v (ρ x)

/-- What is to be shown of one operation. -/
def Good (P : Program) (o : Oper) (ρ : Operand → Value) (ν : Inj) (h : LHeap) (w : World) (v : Value) (h' : LHeap) : Prop :=
 ∃ ν' v' w', Gives P o ρ w v' w' ∧ VR ν' v v' ∧ HR ν' h' w' ∧ Step ν h w ν' h' w'

section
variable {P : Program} {q : EqF} {o : Oper} {ρ : Operand → Value} {ν : Inj} {h h' : LHeap} {w : World} {v : Value} {rd : LO → Option Value}

theorem Good.pure {v' : Value} (hr : HR ν h w) (hg : (execOp ρ o).run P w = .ok (.value v') w) (hv : VR ν v v') : Good P o ρ ν h w v h :=
 ⟨ν, v', w, .inl hg, hv, hr, Step.refl _ _ _⟩

theorem map_some {α β : Type} {f : α → β} {x : Option α} {y : β} (h : x.map f = some y) : ∃ z, x = some z ∧ f z = y := by
 cases x with
 | none => cases h
 | some z => exact ⟨z, rfl, Option.some.inj h⟩

theorem rd1 {lx : LO} {f : Value → LOp Value} {lv : LOp Value} (h : (rd lx).map f = some lv) : ∃ x, rd lx = some x ∧ lv = f x := by
 obtain ⟨z, a, b⟩ := map_some h; exact ⟨z, a, b.symm⟩

/-! Constants. -/
theorem constOk_VR {x : Value} (hx : constOk x = true) (ν : Inj) : VR ν x x := by
 unfold constOk at hx
 split at hx <;> first | (cases hx; done) | constructor

theorem all_const_VRs {l : List Value} (hl : l.all constOk = true) (ν : Inj) : VRs ν l l := by
 induction l with
 | nil => exact .nil ν
 | cons x l ih => simp only [List.all_cons, Bool.and_eq_true] at hl; exact .cons (constOk_VR hl.1 ν) (ih hl.2)

theorem zeroOf_spec {t : TypeId} {z : List Value} (hz : zeroOf P t = some z) : ∃ i u, P.info? t = some i ∧ i.zero = some u ∧ u.cells.toList = z ∧ z.all constOk = true := by
 unfold zeroOf at hz
 split at hz
 ·rename_i u hu
  split at hz
  ·rename_i ha
   cases hz
   cases hi : P.info? t with
   | none => simp [hi] at hu
   | some i => simp [hi] at hu; exact ⟨i, u, rfl, hu, rfl, ha⟩
  ·cases hz
 ·cases hz

theorem run_zeroValue {t : TypeId} {i : TypeInfo} {u : Value} (hi : P.info? t = some i) (hu : i.zero = some u) (w : World) : (zeroValue t).run P w = .ok u w := by
 simp [zeroValue, typeInfo, hi, hu]

theorem run_sizeOf {t : TypeId} {n : Nat} (hn : sizeP P t = some n) (w : World) : (sizeOf t).run P w = .ok n w := by
 unfold sizeP at hn
 cases hi : P.info? t with
 | none => simp [hi] at hn
 | some i => simp [hi] at hn; simp [sizeOf, typeInfo, hi, hn]

theorem run_isAgg {t : TypeId} {b : Bool} (hb : isAggP P t = some b) (w : World) : (isAgg t).run P w = .ok b w := by
 unfold isAggP at hb
 split at hb
 ·rename_i hu; cases hb; simp [isAgg, run_underlying hu]
 ·rename_i hu; cases hb; simp [isAgg, run_underlying hu]
 ·rename_i d h1 h2 hu
  cases hb
  cases d <;> simp_all [isAgg, run_underlying hu]
 ·cases hb

/-! ### One by one -/

theorem good_mov {x : Operand} (ho : o.op = .move x ∨ o.op = .assign x) {lo : LOp LO} {lv : LOp Value} (hc : (cLO x).map LOp.mov = some lo) (hs : lo.sub rd = some lv) (hx : lexec q lv h = some (v, h'))
  (hr : HR ν h w) (hv : ∀ lx v, cLO x = some lx → rd lx = some v → VR ν v (ρ x)) : Good P o ρ ν h w v h' := by
 obtain ⟨lx, a, rfl⟩ := map_some hc
 obtain ⟨y, b, rfl⟩ := rd1 hs
 simp only [lexec, Option.some.injEq, Prod.mk.injEq] at hx
 obtain ⟨rfl, rfl⟩ := hx
 refine Good.pure hr (v' := ρ x) ?_ (hv lx _ a b)
 rcases ho with ho | ho <;> simp [execOp, ho]

theorem good_alloc {e : TypeId} (ho : o.op = .alloc e) {lo : LOp LO} {lv : LOp Value} (hc : (zeroOf P e).map LOp.alloc = some lo) (hs : lo.sub rd = some lv) (hx : lexec q lv h = some (v, h'))
  (hr : HR ν h w) : Good P o ρ ν h w v h' := by
 obtain ⟨z, a, rfl⟩ := map_some hc
 simp only [LOp.sub, Option.some.injEq] at hs
 subst hs
 simp only [lexec, Option.some.injEq, Prod.mk.injEq] at hx
 obtain ⟨rfl, rfl⟩ := hx
 obtain ⟨i, u, hi, hu, rfl, hall⟩ := zeroOf_spec a
 have hz := all_const_VRs hall
 have hal := hr.alloc u.cells.toList u.cells e (0, 0) (by simp) (fun j v hj => ⟨v, by simpa using hj, (hz ν).2 j v v hj hj⟩) (.inl rfl)
 refine ⟨_, .pointer (some ⟨w.heap.size, 0, none⟩), _, .inl ?_, ?_, hal.1, hal.2⟩
 ·simp [execOp, ho, Instr.alloc, run_zeroValue hi hu, newVar, newRow]
 ·exact VR.ptr (o := 0) (Inj.put_same ν h.size _)

theorem good_box {e : TypeId} {x : Operand} (ho : o.op = .box e x) {lo : LOp LO} {lv : LOp Value} (hc : (cLO x).map LOp.box = some lo) (hs : lo.sub rd = some lv) (hx : lexec q lv h = some (v, h'))
  (hr : HR ν h w) (hv : ∀ lx v, cLO x = some lx → rd lx = some v → VR ν v (ρ x)) : Good P o ρ ν h w v h' := by
 obtain ⟨lx, a, rfl⟩ := map_some hc
 obtain ⟨y, b, rfl⟩ := rd1 hs
 simp only [lexec, Option.some.injEq, Prod.mk.injEq] at hx
 obtain ⟨rfl, rfl⟩ := hx
 have hvr := VRs.cells (hv lx _ a b)
 have hal := hr.alloc y.cells.toList (ρ x).cells e (0, 0) (by have := hvr.1; simp at this; simp; omega) (fun j v hj => by
  obtain ⟨v', p, q⟩ := hvr.get hj
  exact ⟨v', by simpa using p, q⟩) (.inl rfl)
 refine ⟨_, .pointer (some ⟨w.heap.size, 0, none⟩), _, .inl ?_, ?_, hal.1, hal.2⟩
 ·simp [execOp, ho, Instr.box, newVar, newRow]
 ·exact VR.ptr (o := 0) (Inj.put_same ν h.size _)

/-! build -/

theorem listM_VRs {l : List Operand} {l1 : List LO} {l2 : List Value} (h1 : LOp.listM cLO l = some l1) (h2 : LOp.listM rd l1 = some l2)
  (hv : ∀ x ∈ l, ∀ lx v, cLO x = some lx → rd lx = some v → VR ν v (ρ x)) : VRs ν l2 (l.map ρ) := by
 induction l generalizing l1 l2 with
 | nil => simp only [LOp.listM, Option.some.injEq] at h1; subst h1; simp only [LOp.listM, Option.some.injEq] at h2; subst h2; exact .nil ν
 | cons x l ih =>
  simp only [LOp.listM] at h1
  split at h1
  ·rename_i y m hy hm
   simp only [Option.some.injEq] at h1
   subst h1
   simp only [LOp.listM] at h2
   split at h2
   ·rename_i z k hz hk
    simp only [Option.some.injEq] at h2
    subst h2
    exact .cons (hv x (by simp) y z hy hz) (ih hm hk fun x' hx' => hv x' (by simp [hx']))
   ·cases h2
  ·cases h1

/-- The parts of a literal: each at its place, each related. -/
def PartsR (ν : Inj) (f : Nat → Option (Nat × Nat)) : List (Nat × Value) → List (Nat × Nat × Value) → Prop
 | [], [] => True
 | (i, v') :: r', (off, sz, v) :: r => f i = some (off, sz) ∧ VR ν v v' ∧ PartsR ν f r' r
 | _, _ => False

theorem cParts_PartsR {f : Nat → Option (Nat × Nat)} {l : List (Nat × Operand)} {l1 : List (Nat × Nat × LO)} {l2 : List (Nat × Nat × Value)} (h1 : cParts f l = some l1) (h2 : LOp.partsM rd l1 = some l2)
  (hv : ∀ x ∈ l.map (·.2), ∀ lx v, cLO x = some lx → rd lx = some v → VR ν v (ρ x)) : PartsR ν f (l.map fun (i, x) => (i, ρ x)) l2 := by
 induction l generalizing l1 l2 with
 | nil => simp only [cParts, Option.some.injEq] at h1; subst h1; simp only [LOp.partsM, Option.some.injEq] at h2; subst h2; trivial
 | cons p l ih =>
  obtain ⟨i, x⟩ := p
  simp only [cParts] at h1
  split at h1
  ·rename_i off n y m hf hy hm
   simp only [Option.some.injEq] at h1
   subst h1
   simp only [LOp.partsM] at h2
   split at h2
   ·rename_i z k hz hk
    simp only [Option.some.injEq] at h2
    subst h2
    exact ⟨hf, hv x (by simp) y z hy hz, ih hm hk fun x' hx' => hv x' (by simp at hx' ⊢; exact .inr hx')⟩
   ·cases h2
  ·cases h1

theorem foldl_splice : ∀ (vs : List Value) (off j : Nat) (cs : Array Value), off + j + vs.length ≤ cs.size →
  ((vs.zipIdx j).foldl (fun cs (c, j) => cs.setIfInBounds (off + j) c) cs).toList = splice cs.toList (off + j) vs
 | [], off, j, cs, _ => by simp [splice_nil]
 | v :: vs, off, j, cs, h => by
  simp only [List.zipIdx_cons, List.foldl_cons]
  rw [foldl_splice vs off (j + 1) _ (by simp at h ⊢; omega)]
  have := splice_cons cs.toList (off + j) v vs (by simp at h ⊢; omega)
  rw [show off + (j + 1) = off + j + 1 by omega]
  simpa using this

theorem VRs.splice {cs cs' vs vs' : List Value} (h1 : VRs ν cs cs') (h2 : VRs ν vs vs') (o : Nat) : VRs ν (splice cs o vs) (splice cs' o vs') := by
 simp only [E1.splice, ← h2.1]
 exact ((h1.take o).append h2).append (h1.drop _)

theorem fill_VRs {f : Nat → Option (Nat × Nat)} : ∀ (l : List (Nat × Nat × Value)) (l' : List (Nat × Value)) (cs : List Value) (cs' : Array Value) (r : List Value), PartsR ν f l' l → VRs ν cs cs'.toList → lfill cs l = some r →
  ∃ r', Instr.fill f cs' l' = some r' ∧ VRs ν r r'.toList
 | [], [], cs, cs', r, _, h2, h3 => by
  simp only [lfill, Option.some.injEq] at h3; subst h3
  exact ⟨cs', rfl, h2⟩
 | [], _ :: _, _, _, _, h1, _, _ => h1.elim
 | _ :: _, [], _, _, _, h1, _, _ => h1.elim
 | (off, sz, v) :: l, (i, v') :: l', cs, cs', r, h1, h2, h3 => by
  obtain ⟨hf, hvr, hp⟩ := h1
  simp only [lfill] at h3
  split at h3
  ·rename_i hc
   have hcell := VRs.cells hvr
   have hl := hcell.1
   simp only [Array.length_toList] at hl
   have hcl := h2.1
   simp only [Array.length_toList] at hcl
   have hfold := foldl_splice v'.cells.toList off 0 cs' (by simp; omega)
   simp only [Instr.fill, hf]
   rw [if_neg (by simp; omega)]
   refine fill_VRs l l' _ _ r hp ?_ h3
   rw [show v'.cells.zipIdx = v'.cells.zipIdx 0 from rfl]
   rw [← Array.foldl_toList]
   simp only [Array.toList_zipIdx]
   rw [hfold]
   exact h2.splice hcell off
  ·cases h3

theorem mapM_places {fs : List Field} {pl : List (Nat × Nat)} (h : cPlaces P fs = some pl) (w : World) :
  (fs.mapM (fun f => Prod.mk f.offset <$> sizeOf f.type) : Sem (List (Nat × Nat))).run P w = .ok pl w := by
 induction fs generalizing pl with
 | nil => simp only [cPlaces, Option.some.injEq] at h; subst h; rfl
 | cons f r ih =>
  simp only [cPlaces] at h
  split at h
  ·rename_i n m hn hm
   simp only [Option.some.injEq] at h
   subst h
   simp [List.mapM_cons, run_sizeOf hn, ih hm]
  ·cases h

theorem good_build {t : TypeId} {ps : Array (Nat × Operand)} (ho : o.op = .build t ps) {lo : LOp LO} {lv : LOp Value} (hc : cOp P (.build t ps) = some lo) (hs : lo.sub rd = some lv) (hx : lexec q lv h = some (v, h'))
  (hr : HR ν h w) (hv : OpsR ν (.build t ps) rd ρ) : Good P o ρ ν h w v h' := by
 have hv' : ∀ x ∈ ps.toList.map (·.2), ∀ lx v, cLO x = some lx → rd lx = some v → VR ν v (ρ x) := fun x hx => hv x (by simpa [Op.operands] using hx)
 have hps : (ps.map fun (i, x) => (i, ρ x)).toList = ps.toList.map fun (i, x) => (i, ρ x) := by simp
 simp only [cOp] at hc
 split at hc
 ·rename_i fs z hu hz
  obtain ⟨i, u, hi, hiu, rfl, hall⟩ := zeroOf_spec hz
  split at hc
  ·rename_i pl hpl
   obtain ⟨lp, hlp, rfl⟩ := map_some hc
   obtain ⟨lp2, hlp2, hlv⟩ := map_some hs
   subst hlv
   simp only [lexec] at hx
   obtain ⟨r, hfill, hx⟩ := map_some hx
   simp only [Prod.mk.injEq] at hx
   obtain ⟨rfl, rfl⟩ := hx
   have hpr := cParts_PartsR hlp hlp2 hv'
   obtain ⟨r', hr', hrr⟩ := fill_VRs lp2 _ _ u.cells r hpr (all_const_VRs hall ν) hfill
   refine Good.pure hr (v' := .agg r') ?_ (VRs.agg (by simpa using hrr))
   have hm := mapM_places hpl w
   have hfun : (fun (i : Nat) => pl.toArray[i]?) = (fun (i : Nat) => pl[i]?) := by funext i; simp
   have hcong : Instr.fill (fun (i : Nat) => pl.toArray[i]?) u.cells (ps.map fun (i, x) => (i, ρ x)).toList = some r' := by rw [hfun, hps]; exact hr'
   have hcong' : Instr.fill (fun (i : Nat) => pl.toArray[i]?) u.cells (ps.toList.map fun x => (x.fst, ρ x.snd)) = some r' := by simpa using hcong
   simp [execOp, ho, Instr.build, run_zeroValue hi hiu, run_underlying hu, Array.mapM_eq_mapM_toList, hm]
   simp at hcong'
   simp [hcong']
  ·cases hc
 ·rename_i n e z hu hz
  obtain ⟨i, u, hi, hiu, rfl, hall⟩ := zeroOf_spec hz
  split at hc
  ·rename_i k hk
   obtain ⟨lp, hlp, rfl⟩ := map_some hc
   obtain ⟨lp2, hlp2, hlv⟩ := map_some hs
   subst hlv
   simp only [lexec] at hx
   obtain ⟨r, hfill, hx⟩ := map_some hx
   simp only [Prod.mk.injEq] at hx
   obtain ⟨rfl, rfl⟩ := hx
   have hpr := cParts_PartsR hlp hlp2 hv'
   obtain ⟨r', hr', hrr⟩ := fill_VRs lp2 _ _ u.cells r hpr (all_const_VRs hall ν) hfill
   refine Good.pure hr (v' := .agg r') ?_ (VRs.agg (by simpa using hrr))
   have hcong : Instr.fill (fun i => some (i * k, k)) u.cells (ps.map fun (i, x) => (i, ρ x)).toList = some r' := by rw [hps]; exact hr'
   simp [execOp, ho, Instr.build, run_zeroValue hi hiu, run_underlying hu, run_sizeOf hk]
   have hcong' : Instr.fill (fun i => some (i * k, k)) u.cells (ps.toList.map fun x => (x.fst, ρ x.snd)) = some r' := by simpa using hcong
   simp [hcong']
  ·cases hc
 ·cases hc

theorem range_flatten (z : List Value) (len n : Nat) (hn : z.length = n) (hpos : n ≠ 0) : ((Array.range (len * n)).map (z.toArray[· % z.toArray.size]!)).toList = (List.replicate len z).flatten := by
 apply List.ext_getElem?
 intro i
 have hfl : ∀ (m i : Nat), ((List.replicate m z).flatten)[i]? = if i < m * n then z[i % n]? else none := by
  intro m
  induction m with
  | zero => intro i; simp
  | succ m ih =>
   intro i
   rw [List.replicate_succ, List.flatten_cons, List.getElem?_append, hn]
   by_cases h1 : i < n
   ·rw [if_pos h1, if_pos (by rw [Nat.succ_mul]; omega), Nat.mod_eq_of_lt h1]
   ·rw [if_neg h1, ih]
    have e1 : i % n = (i - n) % n := by
     rw [Nat.mod_eq_sub_mod (by omega)]
    by_cases h2 : i < (m + 1) * n
    ·rw [if_pos h2, if_pos (by rw [Nat.succ_mul] at h2; omega), e1]
    ·rw [if_neg h2, if_neg (by rw [Nat.succ_mul] at h2; omega)]
 rw [hfl]
 simp only [Array.toList_map, Array.toList_range, List.getElem?_map, List.size_toArray, hn]
 by_cases h1 : i < len * n
 ·rw [if_pos h1, List.getElem?_range h1]
  have : i % n < z.length := by rw [hn]; exact Nat.mod_lt _ (by omega)
  simp [this]
 ·rw [if_neg h1, List.getElem?_eq_none (by simp; omega)]
  rfl

theorem good_buildSlice {t : TypeId} {len : Nat} {ps : Array (Nat × Operand)} (ho : o.op = .buildSlice t len ps) {lo : LOp LO} {lv : LOp Value} (hc : cOp P (.buildSlice t len ps) = some lo) (hs : lo.sub rd = some lv) (hx : lexec q lv h = some (v, h'))
  (hr : HR ν h w) (hv : OpsR ν (.buildSlice t len ps) rd ρ) : Good P o ρ ν h w v h' := by
 have hv' : ∀ x ∈ ps.toList.map (·.2), ∀ lx v, cLO x = some lx → rd lx = some v → VR ν v (ρ x) := fun x hx => hv x (by simpa [Op.operands] using hx)
 have hps : (ps.map fun (i, x) => (i, ρ x)).toList = ps.toList.map fun (i, x) => (i, ρ x) := by simp
 simp only [cOp] at hc
 split at hc
 ·rename_i e hu
  split at hc
  ·rename_i n z hn hz
   split at hc
   ·rename_i hzn
    obtain ⟨hzn, hpos⟩ := hzn
    obtain ⟨i, u, hi, hiu, rfl, hall⟩ := zeroOf_spec hz
    obtain ⟨lp, hlp, rfl⟩ := map_some hc
    obtain ⟨lp2, hlp2, hlv⟩ := map_some hs
    subst hlv
    simp only [lexec] at hx
    split at hx
    ·rename_i hsmall
     obtain ⟨r, hfill, hx⟩ := map_some hx
     simp only [Prod.mk.injEq] at hx
     obtain ⟨rfl, rfl⟩ := hx
     have hpr := cParts_PartsR hlp hlp2 hv'
     have hz0 : (Array.range (len * n)).map (u.cells[· % u.cells.size]!) = ((List.replicate len u.cells.toList).flatten).toArray := by
      have := range_flatten u.cells.toList len n hzn hpos
      apply Array.ext'
      simpa using this
     have hzero : VRs ν (List.replicate len u.cells.toList).flatten ((Array.range (len * n)).map (u.cells[· % u.cells.size]!)).toList := by
      rw [hz0]
      refine all_const_VRs ?_ ν
      rw [List.all_eq_true] at hall ⊢
      intro x hx
      simp only [List.mem_flatten, List.mem_replicate] at hx
      obtain ⟨l, ⟨_, rfl⟩, hx⟩ := hx
      exact hall x hx
     obtain ⟨r', hr', hrr⟩ := fill_VRs lp2 _ _ _ r hpr hzero hfill
     have hlen := hrr.1
     have hl2 : r'.size = len * n := by
      have hgen : ∀ (l : List (Nat × Nat × Value)) (cs r : List Value), lfill cs l = some r → r.length = cs.length := by
       intro l
       induction l with
       | nil => intro cs r h; simp only [lfill, Option.some.injEq] at h; rw [h]
       | cons p l ih =>
        obtain ⟨a, b, c⟩ := p
        intro cs r h
        simp only [lfill] at h
        split at h
        ·rename_i hh
         rw [ih _ _ h, length_splice _ _ _ (by simp; omega)]
        ·cases h
      have := hgen _ _ _ hfill
      simp only [Array.length_toList] at hlen
      rw [← hlen, this]
      simp [List.length_flatten, ← hzn]
     have hal := hr.alloc r r' e (0, 0) (by simp at hlen; omega) (fun j v hj => by
      obtain ⟨v', p, q⟩ := hrr.get hj
      exact ⟨v', by simpa using p, q⟩) (.inl rfl)
     refine ⟨_, .slice (some ⟨w.heap.size, 0, none⟩) len len, _, .inl ?_, ?_, hal.1, hal.2⟩
     ·have hcong' : Instr.fill (fun i => some (i * n, n)) ((Array.range (len * n)).map (u.cells[· % u.cells.size]!)) (ps.toList.map fun x => (x.fst, ρ x.snd)) = some r' := by simpa using (hps ▸ hr')
      have hsm : ¬ (2 ^ 24 < len * n) := by omega
      simp only [execOp, ho, Instr.buildSlice, Sem.run_bind, run_underlying hu, Result.andThen_ok, run_sizeOf hn]
      by_cases h0 : len * n = 0
      ·have hrz : r' = #[] := by apply Array.eq_empty_of_size_eq_zero; omega
       subst hrz
       have hA : ∀ f : Nat → Value, Array.map f (Array.range 0) = #[] := fun f => by apply Array.eq_empty_of_size_eq_zero; simp
       have hpe : Instr.fill (fun i => some (i * n, n)) #[] (ps.toList.map fun x => (x.fst, ρ x.snd)) = some #[] := by
        simpa [h0, hA] using hcong'
       simp [h0, newRow, hA, hpe]
      ·simp [h0, hsm, run_zeroValue hi hiu, newRow]
       simp [hcong']
     ·exact VR.slice (o := 0) (Inj.put_same ν h.size _) (Nat.le_refl _) (by simp [hl2])
    ·cases hx
   ·cases hc
  ·cases hc
 ·cases hc

end
end Go.E1

/-
 Loads, stores, numbers, conversions, addresses.
-/
namespace Go.E1
open Go

section
variable {P : Program} {q : EqF} {o : Oper} {ρ : Operand → Value} {ν : Inj} {h h' : LHeap} {w : World} {v : Value} {rd : LO → Option Value}

theorem sub_store {n : Nat} {lx ly : LO} {lv : LOp Value} (hs : (LOp.store n lx ly).sub rd = some lv) : ∃ x y, rd lx = some x ∧ rd ly = some y ∧ lv = .store n x y := by
 simp only [LOp.sub] at hs
 split at hs
 ·rename_i x y hx hy; exact ⟨x, y, hx, hy, (Option.some.inj hs).symm⟩
 ·cases hs
theorem sub_bin {op : BinOp} {t : EqT} {lx ly : LO} {lv : LOp Value} (hs : (LOp.bin op t lx ly).sub rd = some lv) : ∃ x y, rd lx = some x ∧ rd ly = some y ∧ lv = .bin op t x y := by
 simp only [LOp.sub] at hs
 split at hs
 ·rename_i x y hx hy; exact ⟨x, y, hx, hy, (Option.some.inj hs).symm⟩
 ·cases hs
theorem sub_makeSlice {e b : Nat} {z : List Value} {lx ly : LO} {lv : LOp Value} (hs : (LOp.makeSlice e b z lx ly).sub rd = some lv) : ∃ x y, rd lx = some x ∧ rd ly = some y ∧ lv = .makeSlice e b z x y := by
 simp only [LOp.sub] at hs
 split at hs
 ·rename_i x y hx hy; exact ⟨x, y, hx, hy, (Option.some.inj hs).symm⟩
 ·cases hs
theorem sub_idxAddrA {l e : Nat} {lx ly : LO} {lv : LOp Value} (hs : (LOp.idxAddrA l e lx ly).sub rd = some lv) : ∃ x y, rd lx = some x ∧ rd ly = some y ∧ lv = .idxAddrA l e x y := by
 simp only [LOp.sub] at hs
 split at hs
 ·rename_i x y hx hy; exact ⟨x, y, hx, hy, (Option.some.inj hs).symm⟩
 ·cases hs
theorem sub_idxAddrS {e : Nat} {lx ly : LO} {lv : LOp Value} (hs : (LOp.idxAddrS e lx ly).sub rd = some lv) : ∃ x y, rd lx = some x ∧ rd ly = some y ∧ lv = .idxAddrS e x y := by
 simp only [LOp.sub] at hs
 split at hs
 ·rename_i x y hx hy; exact ⟨x, y, hx, hy, (Option.some.inj hs).symm⟩
 ·cases hs
theorem sub_idxA1 {l : Nat} {lx ly : LO} {lv : LOp Value} (hs : (LOp.idxA1 l lx ly).sub rd = some lv) : ∃ x y, rd lx = some x ∧ rd ly = some y ∧ lv = .idxA1 l x y := by
 simp only [LOp.sub] at hs
 split at hs
 ·rename_i x y hx hy; exact ⟨x, y, hx, hy, (Option.some.inj hs).symm⟩
 ·cases hs
theorem sub_idxAN {l e : Nat} {lx ly : LO} {lv : LOp Value} (hs : (LOp.idxAN l e lx ly).sub rd = some lv) : ∃ x y, rd lx = some x ∧ rd ly = some y ∧ lv = .idxAN l e x y := by
 simp only [LOp.sub] at hs
 split at hs
 ·rename_i x y hx hy; exact ⟨x, y, hx, hy, (Option.some.inj hs).symm⟩
 ·cases hs
theorem sub_idxStr {lx ly : LO} {lv : LOp Value} (hs : (LOp.idxStr lx ly).sub rd = some lv) : ∃ x y, rd lx = some x ∧ rd ly = some y ∧ lv = .idxStr x y := by
 simp only [LOp.sub] at hs
 split at hs
 ·rename_i x y hx hy; exact ⟨x, y, hx, hy, (Option.some.inj hs).symm⟩
 ·cases hs
theorem sub_append {e b : Nat} {lx ly : LO} {lv : LOp Value} (hs : (LOp.append e b lx ly).sub rd = some lv) : ∃ x y, rd lx = some x ∧ rd ly = some y ∧ lv = .append e b x y := by
 simp only [LOp.sub] at hs
 split at hs
 ·rename_i x y hx hy; exact ⟨x, y, hx, hy, (Option.some.inj hs).symm⟩
 ·cases hs
theorem sub_copy {e : Nat} {lx ly : LO} {lv : LOp Value} (hs : (LOp.copy e lx ly).sub rd = some lv) : ∃ x y, rd lx = some x ∧ rd ly = some y ∧ lv = .copy e x y := by
 simp only [LOp.sub] at hs
 split at hs
 ·rename_i x y hx hy; exact ⟨x, y, hx, hy, (Option.some.inj hs).symm⟩
 ·cases hs

theorem VR.ptr_inv {b k : Nat} {x : Value} (hx : VR ν (.pointer (some ⟨b, k, none⟩)) x) : ∃ pl, ν b = some pl ∧ x = .pointer (some ⟨pl.B, pl.base + k, none⟩) := by
 cases hx with
 | ptr hb => exact ⟨_, hb, rfl⟩

theorem VR.glob_inv {g k : Nat} {x : Value} (hx : VR ν (.pointer (some ⟨g, k, some 0⟩)) x) : x = .pointer (some ⟨g, k, none⟩) := by
 cases hx with
 | glob => rfl

theorem HR.globCell (hr : HR ν h w) {g k : Nat} {x : Value} (hx : globCell g k = some x) : w.cell? ⟨g, k, none⟩ = some x ∧ ∀ ν, VR ν x x := by
 unfold E1.globCell at hx
 split at hx
 ·rename_i cs hg
  split at hx
  ·rename_i kk n hn
   cases hx
   rw [nthR_eq] at hn
   obtain ⟨⟨c, e, fz, h1, h2, h3⟩, _⟩ := hr.gl g cs hg
   refine ⟨?_, fun ν => .int _ _⟩
   rw [cell?_of_heap h1]
   exact h3 k _ hn
  ·cases hx
 ·cases hx

theorem good_load {t : TypeId} {a : Operand} (ho : o.op = .load t a) {lo : LOp LO} {lv : LOp Value} (hc : cOp P (.load t a) = some lo) (hs : lo.sub rd = some lv) (hx : lexec q lv h = some (v, h'))
  (hr : HR ν h w) (hv : OpsR ν (.load t a) rd ρ) : Good P o ρ ν h w v h' := by
 simp only [cOp] at hc
 split at hc
 ·rename_i la n ha hagg hn
  cases hc
  obtain ⟨y, hy, rfl⟩ := rd1 hs
  have hva := hv a (by simp [Op.operands]) la y ha hy
  simp only [lexec] at hx
  split at hx
  ·rename_i b k
   obtain ⟨cs, hcs, hx⟩ := map_some hx
   simp only [Prod.mk.injEq] at hx
   obtain ⟨rfl, rfl⟩ := hx
   obtain ⟨pl, hb, he⟩ := hva.ptr_inv
   obtain ⟨hl, vs', hvr, hcell⟩ := hr.loadCells hcs hb
   have hlen : vs'.length = n := by rw [← hvr.1, hl]
   have hrun := run_loadCells_list (P := P) w ⟨pl.B, pl.base + k, none⟩ vs' (fun j x hj => by rw [add_plain]; exact hcell j x hj)
   refine Good.pure hr (v' := .agg vs'.toArray) ?_ (VRs.agg (by simpa using hvr))
   simp [execOp, ho, Instr.loadAt, loadVar, Instr.sureAddr, he, run_isAgg hagg, run_sizeOf hn, ← hlen, hrun]
  ·cases hx
 ·rename_i la n ha hagg hn
  cases hc
  obtain ⟨y, hy, rfl⟩ := rd1 hs
  have hva := hv a (by simp [Op.operands]) la y ha hy
  simp only [lexec] at hx
  split at hx
  ·rename_i b k
   obtain ⟨x, hxl, hx⟩ := map_some hx
   simp only [Prod.mk.injEq] at hx
   obtain ⟨rfl, rfl⟩ := hx
   obtain ⟨pl, hb, he⟩ := hva.ptr_inv
   obtain ⟨x', hcell, hvr⟩ := hr.load1 hxl hb
   refine Good.pure hr (v' := x') ?_ hvr
   simp [execOp, ho, Instr.loadAt, loadVar, Instr.sureAddr, he, run_isAgg hagg, hcell]
  ·rename_i g k
   obtain ⟨x, hxl, hx⟩ := map_some hx
   simp only [Prod.mk.injEq] at hx
   obtain ⟨rfl, rfl⟩ := hx
   have he := hva.glob_inv
   obtain ⟨hcell, hvr⟩ := hr.globCell hxl
   refine Good.pure hr (v' := x) ?_ (hvr ν)
   simp [execOp, ho, Instr.loadAt, loadVar, Instr.sureAddr, he, run_isAgg hagg, hcell]
  ·cases hx
 ·cases hc

theorem good_store {t : TypeId} {a x : Operand} (ho : o.op = .store t a x) {lo : LOp LO} {lv : LOp Value} (hc : cOp P (.store t a x) = some lo) (hs : lo.sub rd = some lv) (hx : lexec q lv h = some (v, h'))
  (hr : HR ν h w) (hv : OpsR ν (.store t a x) rd ρ) : Good P o ρ ν h w v h' := by
 simp only [cOp] at hc
 split at hc
 ·rename_i la lx n ha hx' hn
  cases hc
  obtain ⟨y, z, hy, hz, rfl⟩ := sub_store hs
  have hva := hv a (by simp [Op.operands]) la y ha hy
  have hvx := hv x (by simp [Op.operands]) lx z hx' hz
  simp only [lexec] at hx
  split at hx
  ·rename_i b k
   split at hx
   ·rename_i hsz
    obtain ⟨h2, hst, hx⟩ := map_some hx
    simp only [Prod.mk.injEq] at hx
    obtain ⟨rfl, rfl⟩ := hx
    obtain ⟨pl, hb, he⟩ := hva.ptr_inv
    have hcells := VRs.cells hvx
    obtain ⟨hrun, hh, hstep⟩ := hr.storeCells hb hst hcells P
    have hsz' : (ρ x).cells.size = n := by have := hcells.1; simp at this; omega
    refine ⟨ν, undef, _, .inr ⟨?_, rfl⟩, VRs.tuple (.nil ν), hh, hstep⟩
    simp [execOp, ho, Instr.storeAt, storeVar, Instr.sureAddr, he, run_sizeOf hn, hsz', hrun]
   ·cases hx
  ·cases hx
 ·cases hc

theorem good_nilCheck {a : Operand} (ho : o.op = .nilCheck a) {lo : LOp LO} {lv : LOp Value} (hc : (cLO a).map LOp.nilCheck = some lo) (hs : lo.sub rd = some lv) (hx : lexec q lv h = some (v, h'))
  (hr : HR ν h w) (hv : ∀ lx v, cLO a = some lx → rd lx = some v → VR ν v (ρ a)) : Good P o ρ ν h w v h' := by
 obtain ⟨la, ha, rfl⟩ := map_some hc
 obtain ⟨y, hy, rfl⟩ := rd1 hs
 have hva := hv la y ha hy
 simp only [lexec] at hx
 split at hx
 ·simp only [Option.some.injEq, Prod.mk.injEq] at hx
  obtain ⟨rfl, rfl⟩ := hx
  refine Good.pure hr (v' := ρ a) ?_ hva
  cases hva' : ρ a <;> rw [hva'] at hva <;> cases hva <;> simp [execOp, ho, hva']
 ·rename_i f fi c
  split at hx
  ·simp only [Option.some.injEq, Prod.mk.injEq] at hx
   obtain ⟨rfl, rfl⟩ := hx
   refine Good.pure hr (v' := ρ a) ?_ hva
   cases hva' : ρ a <;> rw [hva'] at hva <;> cases hva
   simp [execOp, ho, hva']
  ·cases hx
 ·cases hx

/-! Numbers. -/

theorem run_ibin {op : BinOp} {k : IntKind} {a b : Int} {x : Value} (hx : ibin op k a b = some x) (hsh : BinOp.isShift op = false) (t : TypeId) : (binOp op t (.int k a) (.int k b)).run P w = .ok x w := by
 cases op <;> simp [ibin, BinOp.isShift] at hx hsh <;>
  first
   | (subst hx; simp [binOp, Op.intArith, Op.intBits, Op.intCmp])
   | (obtain ⟨h0, rfl⟩ := hx; simp [binOp, Op.intDiv, h0])

theorem run_ishift {op : BinOp} {k k' : IntKind} {a b : Int} {x : Value} (hx : ishift op k a b = some x) (t : TypeId) : (binOp op t (.int k a) (.int k' b)).run P w = .ok x w := by
 unfold ishift at hx
 split at hx
 ·cases hx
 ·rename_i h0
  cases op <;> simp at hx <;> (subst hx; simp [binOp, Op.shift, h0])

theorem bytes_toList (s : ByteArray) : s.toList = s.data.toList := by
 exact ByteArray.toList_eq s

theorem run_sbin {op : BinOp} {a b : ByteArray} {x : Value} (hx : sbin op a b = some x) (t : TypeId) : (binOp op t (.string a) (.string b)).run P w = .ok x w := by
 cases op <;> simp [sbin] at hx
 case add =>
  obtain ⟨h0, rfl⟩ := hx
  have : ¬ (((a.size + b.size : Nat) : Int) > IntKind.i64.max) := by
   simp [IntKind.max, IntKind.signed, IntKind.bits]; omega
  simp [binOp, Op.stringOp]
  omega
 case eql => subst hx; simp [binOp, Op.stringOp, bytes_toList]
 case neq => subst hx; simp [binOp, Op.stringOp, bytes_toList]

end
end Go.E1

/-
 Comparisons, conversions, addresses, parts.
-/
namespace Go.E1
open Go

section
variable {P : Program} {q : EqF} {o : Oper} {ρ : Operand → Value} {ν : Inj} {h h' : LHeap} {w : World} {v : Value} {rd : LO → Option Value}

theorem eqOr_cases {op : BinOp} {b : Bool} {x : Value} (hx : eqOr op b = some x) : (op = .eql ∧ x = .bool b) ∨ (op = .neq ∧ x = .bool (!b)) := by
 cases op <;> simp [eqOr] at hx
 ·exact .inl ⟨rfl, hx.symm⟩
 ·exact .inr ⟨rfl, hx.symm⟩

theorem run_eqOr {op : BinOp} {b : Bool} {x : Value} (hx : eqOr op b = some x) {t : TypeId} {a c : Value} (hne : ∀ k n, a ≠ .int k n) (hns : ∀ s, a ≠ .string s) (hnf : ∀ k n, a ≠ .float k n) (hnc : ∀ k n m, a ≠ .complex k n m)
  (he : (Op.equal t a c).run P w = .ok b w) : (binOp op t a c).run P w = .ok x w := by
 rcases eqOr_cases hx with ⟨rfl, rfl⟩ | ⟨rfl, rfl⟩
 ·have : binOp .eql t a c = (do pure (.bool (← Op.equal t a c))) := by
   unfold binOp
   split <;> first | rfl | exact absurd rfl (hne _ _) | exact absurd rfl (hns _) | exact absurd rfl (hnf _ _) | exact absurd rfl (hnc _ _ _) | contradiction | simp_all
  simp [this, he]
 ·have : binOp .neq t a c = (do pure (.bool (!(← Op.equal t a c)))) := by
   unfold binOp
   split <;> first | rfl | exact absurd rfl (hne _ _) | exact absurd rfl (hns _) | exact absurd rfl (hnf _ _) | exact absurd rfl (hnc _ _ _) | contradiction | simp_all
  simp [this, he]

theorem run_guard_free {op : BinOp} {t : TypeId} {x y : Operand} {a b : Value} (h1 : a ≠ .nilIface ∨ b ≠ .nilIface) (h2 : (∀ c, a ≠ .agg c) ∨ ∀ c, b ≠ .agg c) : (eqGuard op t x y a b).run P w = .ok () w := by
 unfold eqGuard
 split
 ·simp only [Bool.not_true, Bool.false_eq_true, if_false]
  split
  ·simp at h1
  ·simp at h2
  ·rfl
 ·simp only [Bool.not_true, Bool.false_eq_true, if_false]
  split
  ·simp at h1
  ·simp at h2
  ·rfl
 ·rfl

theorem cEq_spec {t : TypeId} {e : EqT} (he : cEq P t = some e) :
  e = .basic ∨ (e = .bool ∧ P.underlying t = some .bool) ∨ (e = .ptr ∧ ∃ x, P.underlying t = some (.pointer x)) ∨
  (e = .slice ∧ ∃ x, P.underlying t = some (.slice x)) ∨ (e = .map ∧ ∃ x y, P.underlying t = some (.map x y)) ∨ (e = .func ∧ ∃ x y z, P.underlying t = some (.func x y z)) ∨ e = .typed t := by
 unfold cEq at he
 split at he <;> simp_all

theorem run_equal_bool {t : TypeId} {a b : Bool} (hu : P.underlying t = some .bool) : (Op.equal t (.bool a) (.bool b)).run P w = .ok (a == b) w := by
 unfold Op.equal Op.maxDepth
 rw [Op.equalIn]
 simp [run_underlying hu]
theorem run_equal_pnil {t x : TypeId} {b : Option Addr} (hu : P.underlying t = some (.pointer x)) : (Op.equal t (.pointer none) (.pointer b)).run P w = .ok b.isNone w := by
 unfold Op.equal Op.maxDepth
 rw [Op.equalIn]
 simp [run_underlying hu]
theorem run_equal_pnil' {t x : TypeId} {a : Addr} (hu : P.underlying t = some (.pointer x)) : (Op.equal t (.pointer (some a)) (.pointer none)).run P w = .ok false w := by
 unfold Op.equal Op.maxDepth
 rw [Op.equalIn]
 simp [run_underlying hu]
theorem run_equal_snil {t x : TypeId} {b : Option Addr} {n c m d : Nat} (hu : P.underlying t = some (.slice x)) : (Op.equal t (.slice none n c) (.slice b m d)).run P w = .ok b.isNone w := by
 unfold Op.equal Op.maxDepth
 rw [Op.equalIn]
 simp [run_underlying hu]
theorem run_equal_snil' {t x : TypeId} {a : Addr} {n c m d : Nat} (hu : P.underlying t = some (.slice x)) : (Op.equal t (.slice (some a) n c) (.slice none m d)).run P w = .ok false w := by
 unfold Op.equal Op.maxDepth
 rw [Op.equalIn]
 simp [run_underlying hu]
theorem run_equal_mnil {t x y : TypeId} {b : Option Nat} (hu : P.underlying t = some (.map x y)) : (Op.equal t (.map none) (.map b)).run P w = .ok b.isNone w := by
 unfold Op.equal Op.maxDepth
 rw [Op.equalIn]
 simp [run_underlying hu]
theorem run_equal_mnil' {t x y : TypeId} {a : Nat} (hu : P.underlying t = some (.map x y)) : (Op.equal t (.map (some a)) (.map none)).run P w = .ok false w := by
 unfold Op.equal Op.maxDepth
 rw [Op.equalIn]
 simp [run_underlying hu]

theorem VR.int_inv {k : IntKind} {n : Int} {x : Value} (h : VR ν (.int k n) x) : x = .int k n := by cases h; rfl
theorem VR.str_inv {s : ByteArray} {x : Value} (h : VR ν (.string s) x) : x = .string s := by cases h; rfl
theorem VR.bool_inv {b : Bool} {x : Value} (h : VR ν (.bool b) x) : x = .bool b := by cases h; rfl
theorem VR.tuple_inv {a : Array Value} {x : Value} (h : VR ν (.tuple a) x) : ∃ b, x = .tuple b := by cases h <;> exact ⟨_, rfl⟩
theorem VR.pointer_inv {p : Option Addr} {x : Value} (h : VR ν (.pointer p) x) : ∃ p', x = .pointer p' ∧ p'.isNone = p.isNone := by
 cases h
 ·exact ⟨none, rfl, rfl⟩
 ·exact ⟨some _, rfl, rfl⟩
 ·exact ⟨some _, rfl, rfl⟩
theorem VR.slice_inv {p : Option Addr} {n c : Nat} {x : Value} (h : VR ν (.slice p n c) x) : ∃ p' d, x = .slice p' n d ∧ p'.isNone = p.isNone := by
 cases h
 ·exact ⟨none, 0, rfl, rfl⟩
 ·exact ⟨some _, _, rfl, rfl⟩
 ·exact ⟨some _, 0, rfl, rfl⟩
theorem VR.map_inv {p : Option Nat} {x : Value} (h : VR ν (.map p) x) : ∃ p', x = .map p' ∧ p'.isNone = p.isNone := by
 cases h
 ·exact ⟨none, rfl, rfl⟩
 ·exact ⟨some _, rfl, rfl⟩
theorem VR.agg_inv {c : Array Value} {x : Value} (h : VR ν (.agg c) x) : ∃ c', x = .agg c' := by cases h; exact ⟨_, rfl⟩

theorem good_bin (hq : QOk P q) {op : BinOp} {t yt : TypeId} {x y : Operand} (ho : o.op = .binOp op t x y yt) {lo : LOp LO} {lv : LOp Value} (hc : cOp P (.binOp op t x y yt) = some lo) (hs : lo.sub rd = some lv) (hx : lexec q lv h = some (v, h'))
  (hr : HR ν h w) (hv : OpsR ν (.binOp op t x y yt) rd ρ) : Good P o ρ ν h w v h' := by
 simp only [cOp] at hc
 split at hc
 case h_2 => cases hc
 rename_i e lx ly he hlx hly
 cases hc
 obtain ⟨a, b, ha, hb, rfl⟩ := sub_bin hs
 have hva := hv x (by simp [Op.operands]) lx a hlx ha
 have hvb := hv y (by simp [Op.operands]) ly b hly hb
 simp only [lexec] at hx
 obtain ⟨r, hlb, hx⟩ := map_some hx
 simp only [Prod.mk.injEq] at hx
 obtain ⟨rfl, rfl⟩ := hx
 have hcase := cEq_spec he
 suffices ∃ r', VR ν r r' ∧ (binOp op t (ρ x) (ρ y)).run P w = .ok r' w ∧ (eqGuard op t x y (ρ x) (ρ y)).run P w = .ok () w by
  obtain ⟨r', h1, h2, h3⟩ := this
  refine Good.pure hr (v' := r') ?_ h1
  simp [execOp, ho, h2, h3]
 have hbool : ∀ {op : BinOp} {b : Bool} {r : Value}, eqOr op b = some r → VR ν r r := fun h => by
  rcases eqOr_cases h with ⟨_, rfl⟩ | ⟨_, rfl⟩ <;> exact .bool _
 unfold lbin at hlb
 split at hlb
 ·-- integers
  rw [hva.int_inv, hvb.int_inv]
  split at hlb
  ·refine ⟨r, ?_, run_ishift hlb t, run_guard_free (.inl (by simp)) (.inl (by simp))⟩
   unfold ishift at hlb
   split at hlb
   ·cases hlb
   ·split at hlb <;> first | (cases hlb; exact .int _ _) | cases hlb
  ·rename_i hsh
   split at hlb
   ·rename_i hk
    subst hk
    refine ⟨r, ?_, run_ibin hlb (by simpa using hsh) t, run_guard_free (.inl (by simp)) (.inl (by simp))⟩
    unfold ibin at hlb
    split at hlb <;> first | (cases hlb; first | exact .int _ _ | exact .bool _) | (split at hlb <;> first | (cases hlb; exact .int _ _) | cases hlb) | cases hlb
   ·cases hlb
 ·-- strings
  rw [hva.str_inv, hvb.str_inv]
  refine ⟨r, ?_, run_sbin hlb t, run_guard_free (.inl (by simp)) (.inl (by simp))⟩
  unfold sbin at hlb
  split at hlb <;> first | (cases hlb; exact .bool _) | (split at hlb <;> first | (cases hlb; exact .string _) | cases hlb) | cases hlb
 ·-- bools
  rw [hva.bool_inv, hvb.bool_inv]
  split at hlb
  ·have hr' := hbool hlb
   rcases hcase with hh | ⟨_, hu⟩ | ⟨hh, _⟩ | ⟨hh, _⟩ | ⟨hh, _⟩ | ⟨hh, _⟩ | hh
   ·cases hh
   ·exact ⟨r, hr', run_eqOr hlb (by simp) (by simp) (by simp) (by simp) (run_equal_bool hu), run_guard_free (.inl (by simp)) (.inl (by simp))⟩
   all_goals cases hh
  ·cases hlb
 ·-- pointers
  obtain ⟨p1, e1, n1⟩ := hva.pointer_inv
  obtain ⟨p2, e2, n2⟩ := hvb.pointer_inv
  rw [e1, e2]
  split at hlb
  ·rename_i b'
   have hr' := hbool hlb
   rcases hcase with hh | ⟨hh, _⟩ | ⟨_, z, hu⟩ | ⟨hh, _⟩ | ⟨hh, _⟩ | ⟨hh, _⟩ | hh
   all_goals first | cases hh | skip
   have : p1 = none := by simpa using n1
   subst this
   rw [← n2] at hlb
   exact ⟨r, hr', run_eqOr hlb (by simp) (by simp) (by simp) (by simp) (run_equal_pnil hu), run_guard_free (.inl (by simp)) (.inl (by simp))⟩
  ·have hr' := hbool hlb
   rcases hcase with hh | ⟨hh, _⟩ | ⟨_, z, hu⟩ | ⟨hh, _⟩ | ⟨hh, _⟩ | ⟨hh, _⟩ | hh
   all_goals first | cases hh | skip
   have : p2 = none := by simpa using n2
   subst this
   cases p1 with
   | none => simp at n1
   | some p1 => exact ⟨r, hr', run_eqOr hlb (by simp) (by simp) (by simp) (by simp) (run_equal_pnil' hu), run_guard_free (.inl (by simp)) (.inl (by simp))⟩
  ·cases hlb
 ·-- slices
  obtain ⟨p1, d1, e1, n1⟩ := hva.slice_inv
  obtain ⟨p2, d2, e2, n2⟩ := hvb.slice_inv
  rw [e1, e2]
  split at hlb
  ·rename_i b'
   have hr' := hbool hlb
   rcases hcase with hh | ⟨hh, _⟩ | ⟨hh, _⟩ | ⟨_, z, hu⟩ | ⟨hh, _⟩ | ⟨hh, _⟩ | hh
   all_goals first | cases hh | skip
   have : p1 = none := by simpa using n1
   subst this
   rw [← n2] at hlb
   exact ⟨r, hr', run_eqOr hlb (by simp) (by simp) (by simp) (by simp) (run_equal_snil hu), run_guard_free (.inl (by simp)) (.inl (by simp))⟩
  ·have hr' := hbool hlb
   rcases hcase with hh | ⟨hh, _⟩ | ⟨hh, _⟩ | ⟨_, z, hu⟩ | ⟨hh, _⟩ | ⟨hh, _⟩ | hh
   all_goals first | cases hh | skip
   have : p2 = none := by simpa using n2
   subst this
   cases p1 with
   | none => simp at n1
   | some p1 => exact ⟨r, hr', run_eqOr hlb (by simp) (by simp) (by simp) (by simp) (run_equal_snil' hu), run_guard_free (.inl (by simp)) (.inl (by simp))⟩
  ·cases hlb
 ·-- maps
  obtain ⟨p1, e1, n1⟩ := hva.map_inv
  obtain ⟨p2, e2, n2⟩ := hvb.map_inv
  rw [e1, e2]
  split at hlb
  ·rename_i b'
   have hr' := hbool hlb
   rcases hcase with hh | ⟨hh, _⟩ | ⟨hh, _⟩ | ⟨hh, _⟩ | ⟨_, z, z', hu⟩ | ⟨hh, _⟩ | hh
   all_goals first | cases hh | skip
   have : p1 = none := by simpa using n1
   subst this
   rw [← n2] at hlb
   exact ⟨r, hr', run_eqOr hlb (by simp) (by simp) (by simp) (by simp) (run_equal_mnil hu), run_guard_free (.inl (by simp)) (.inl (by simp))⟩
  ·have hr' := hbool hlb
   rcases hcase with hh | ⟨hh, _⟩ | ⟨hh, _⟩ | ⟨hh, _⟩ | ⟨_, z, z', hu⟩ | ⟨hh, _⟩ | hh
   all_goals first | cases hh | skip
   have : p2 = none := by simpa using n2
   subst this
   cases p1 with
   | none => simp at n1
   | some p1 => exact ⟨r, hr', run_eqOr hlb (by simp) (by simp) (by simp) (by simp) (run_equal_mnil' hu), run_guard_free (.inl (by simp)) (.inl (by simp))⟩
  ·cases hlb
 ·-- structs and arrays
  split at hlb
  ·rename_i t'
   split at hlb
   ·rename_i c hqc
    have hr' := hbool hlb
    have ht : t' = t := by
     rcases hcase with hh | ⟨hh, _⟩ | ⟨hh, _⟩ | ⟨hh, _⟩ | ⟨hh, _⟩ | ⟨hh, _⟩ | hh
     all_goals first | (cases hh; rfl) | cases hh
    subst ht
    have heq := hq.eq _ _ _ _ hqc ν (ρ x) (ρ y) w hva hvb
    have hgu := hq.guard _ _ _ _ hqc
    obtain ⟨c1, e1⟩ := hva.agg_inv
    obtain ⟨c2, e2⟩ := hvb.agg_inv
    rw [e1, e2] at heq ⊢
    refine ⟨r, hr', run_eqOr hlb (by simp) (by simp) (by simp) (by simp) heq, ?_⟩
    unfold eqGuard
    split <;> simp [hgu]
   ·cases hlb
  ·cases hlb
 ·cases hlb

end
end Go.E1

/-
 Unary operations, conversions, what is made, addresses, parts.
-/
namespace Go.E1
open Go

section
variable {P : Program} {q : EqF} {o : Oper} {ρ : Operand → Value} {ν : Inj} {h h' : LHeap} {w : World} {v : Value} {rd : LO → Option Value}

theorem good_un {op : UnOp} {t : TypeId} {x : Operand} (ho : o.op = .unOp op t x) {lo : LOp LO} {lv : LOp Value} (hc : (cLO x).map (LOp.un op) = some lo) (hs : lo.sub rd = some lv) (hx : lexec q lv h = some (v, h'))
  (hr : HR ν h w) (hv : ∀ lx v, cLO x = some lx → rd lx = some v → VR ν v (ρ x)) : Good P o ρ ν h w v h' := by
 obtain ⟨lx, a, rfl⟩ := map_some hc
 obtain ⟨y, b, rfl⟩ := rd1 hs
 have hva := hv lx y a b
 simp only [lexec] at hx
 split at hx
 ·simp only [Option.some.injEq, Prod.mk.injEq] at hx
  obtain ⟨rfl, rfl⟩ := hx
  refine Good.pure hr ?_ (.int _ _)
  simp [execOp, ho, hva.int_inv, Op.unary, Op.intArith]
 ·obtain ⟨r, hib, hx⟩ := map_some hx
  simp only [Prod.mk.injEq] at hx
  obtain ⟨rfl, rfl⟩ := hx
  simp only [ibin, Option.some.injEq] at hib
  subst hib
  refine Good.pure hr ?_ (.int _ _)
  simp [execOp, ho, hva.int_inv, Op.unary, Op.intBits]
 ·simp only [Option.some.injEq, Prod.mk.injEq] at hx
  obtain ⟨rfl, rfl⟩ := hx
  refine Good.pure hr ?_ (.bool _)
  simp [execOp, ho, hva.bool_inv, Op.unary]
 ·cases hx

theorem bytesWorld_eq (w : World) (e : TypeId) (s : ByteArray) :
  ∃ n, Lib.bytesWorld w e s = { (w.alloc (.cells (Lib.bytesCells w e s) e ((Lib.bytesCells w e s).size, (Lib.bytesCells w e s).size + 1))) with drawn := n } := by
 have hh : (Lib.bytesWorld w e s).heap = (w.alloc (.cells (Lib.bytesCells w e s) e ((Lib.bytesCells w e s).size, (Lib.bytesCells w e s).size + 1))).heap := by
  apply Array.ext_getElem?
  intro i
  rcases Nat.lt_trichotomy i w.heap.size with hi | hi | hi
  ·rw [Lib.bytesWorld_at_old _ _ _ _ hi, alloc_get _ hi]
  ·subst hi
   rw [Lib.bytesWorld_at_new, alloc_new]
  ·rw [Array.getElem?_eq_none (by rw [Lib.bytesWorld_size]; omega), Array.getElem?_eq_none (by rw [alloc_size]; omega)]
 refine ⟨(Lib.bytesWorld w e s).drawn, ?_⟩
 cases hb : Lib.bytesWorld w e s with
 | mk heap tape drawn os output =>
  rw [hb] at hh
  simp only at hh
  subst hh
  have h1 : (Lib.bytesWorld w e s).tape = w.tape := rfl
  have h2 : (Lib.bytesWorld w e s).os = w.os := rfl
  have h3 : (Lib.bytesWorld w e s).output = w.output := rfl
  rw [hb] at h1 h2 h3
  simp only at h1 h2 h3
  subst h1; subst h2; subst h3
  rfl

theorem grownCap_ge (w : World) (n : Nat) (e : TypeId) : n ≤ grownCap w n 0 e := by
 simp [grownCap, Question.cut]

theorem good_convert {src dst : TypeId} {x : Operand} (ho : o.op = .convert src dst x) {lo : LOp LO} {lv : LOp Value} (hc : cOp P (.convert src dst x) = some lo) (hs : lo.sub rd = some lv) (hx : lexec q lv h = some (v, h'))
  (hr : HR ν h w) (hv : OpsR ν (.convert src dst x) rd ρ) : Good P o ρ ν h w v h' := by
 have hv' := hv x (by simp [Op.operands])
 simp only [cOp] at hc
 split at hc
 ·-- to an integer
  rename_i u k lx hsr hd ha
  cases hc
  obtain ⟨y, b, rfl⟩ := rd1 hs
  have hva := hv' lx y ha b
  simp only [lexec] at hx
  split at hx
  ·simp only [Option.some.injEq, Prod.mk.injEq] at hx
   obtain ⟨rfl, rfl⟩ := hx
   refine Good.pure hr ?_ (.int _ _)
   simp [execOp, ho, hva.int_inv, convert, run_underlying hsr, run_underlying hd, Conv.intToInt]
  ·cases hx
 ·-- a string
  rename_i lx hsr hd ha
  cases hc
  obtain ⟨y, b, rfl⟩ := rd1 hs
  have hva := hv' lx y ha b
  simp only [lexec] at hx
  split at hx
  ·simp only [Option.some.injEq, Prod.mk.injEq] at hx
   obtain ⟨rfl, rfl⟩ := hx
   refine Good.pure hr ?_ (.string _)
   simp [execOp, ho, hva.str_inv, convert, run_underlying hsr, run_underlying hd]
  ·cases hx
 ·-- a string's bytes
  rename_i e lx hsr hd ha
  split at hc
  ·rename_i he
   cases hc
   obtain ⟨y, b, rfl⟩ := rd1 hs
   have hva := hv' lx y ha b
   simp only [lexec] at hx
   split at hx
   ·rename_i s
    simp only [Option.some.injEq, Prod.mk.injEq] at hx
    obtain ⟨rfl, rfl⟩ := hx
    have hrun := Lib.run_convert_string_bytes (P := P) w src dst e s hsr hd he
    obtain ⟨n, hw⟩ := bytesWorld_eq w e s
    have hsz : (Lib.bytesCells w e s).size = s.size + (grownCap w s.size 0 e - s.size) := by simp [Lib.bytesCells]
    have hge := grownCap_ge w s.size e
    have hal := hr.alloc (s.data.toList.map fun b => .int .u8 b.toNat) (Lib.bytesCells w e s) e ((Lib.bytesCells w e s).size, (Lib.bytesCells w e s).size + 1) (by simp [hsz])
     (fun i v hi => by
      refine ⟨v, ?_, ?_⟩
      ·have hlt : i < s.data.size := by
        rcases Nat.lt_or_ge i s.data.size with hlt | hge
        ·exact hlt
        ·simp [List.getElem?_eq_none (show s.data.toList.length ≤ i by simpa using hge)] at hi
       simp only [Lib.bytesCells]
       rw [Array.getElem?_append_left (by simpa using hlt)]
       simpa using hi
      ·simp only [List.getElem?_map, Option.map_eq_some_iff] at hi
       obtain ⟨b, _, rfl⟩ := hi
       exact .int _ _)
     (.inr (Nat.le_refl _))
    refine ⟨_, .slice (some ⟨w.heap.size, 0, none⟩) s.size (grownCap w s.size 0 e), Lib.bytesWorld w e s, .inl ?_, ?_, by rw [hw]; exact hal.1.drew n, by rw [hw]; exact hal.2.trans (Step.drew n)⟩
    ·simp [execOp, ho, hva.str_inv, hrun]
    ·exact VR.slice (o := 0) (Inj.put_same ν h.size _) hge (by simp [hsz]; omega)
   ·cases hx
  ·cases hc
 ·-- bytes as a string
  rename_i e lx hsr hd ha
  split at hc
  ·rename_i he
   cases hc
   obtain ⟨y, b, rfl⟩ := rd1 hs
   have hva := hv' lx y ha b
   simp only [lexec] at hx
   have hby : ∀ (cs : List Value) (l : List UInt8), bytesOf cs = some l → ∃ ns : List Int, cs = ns.map (Value.int .u8) ∧ l = ns.map fun n => UInt8.ofNat n.toNat := by
    intro cs
    induction cs with
    | nil => intro l hl; simp only [bytesOf, Option.some.injEq] at hl; exact ⟨[], rfl, hl.symm⟩
    | cons c cs ih =>
     intro l hl
     unfold bytesOf at hl
     split at hl
     ·rename_i hnil; cases hnil
     ·rename_i n l' heq
      cases heq
      obtain ⟨m, hm, rfl⟩ := map_some hl
      obtain ⟨ns, rfl, rfl⟩ := ih m hm
      exact ⟨n :: ns, rfl, rfl⟩
     ·cases hl
   split at hx
   ·simp only [Option.some.injEq, Prod.mk.injEq] at hx
    obtain ⟨rfl, rfl⟩ := hx
    refine Good.pure hr (v' := .string ⟨#[]⟩) ?_ (.string _)
    have hn : ρ x = .slice none 0 0 := by
     generalize ρ x = z at hva ⊢
     cases hva; rfl
    simp [execOp, ho, hn, run_convert_bytes_string w src dst e _ 0 0 hsr he hd, Conv.bytesToString]
    rfl
   ·rename_i b' o' n
    split at hx
    ·rename_i cs hcs
     obtain ⟨l, hl, hx⟩ := map_some hx
     simp only [Prod.mk.injEq] at hx
     obtain ⟨rfl, rfl⟩ := hx
     obtain ⟨ns, rfl, rfl⟩ := hby cs l hl
     have key : ∃ a' cap, ρ x = .slice (some a') n cap ∧ (loadCells a' n).run P w = .ok (ns.map (Value.int .u8)).toArray w := by
      generalize ρ x = z at hva ⊢
      cases hva with
      | slice hb hle hfin =>
       rename_i cap pl
       refine ⟨_, _, rfl, ?_⟩
       split at hcs
       ·rename_i h0
        subst h0
        simp only [Option.some.injEq] at hcs
        rw [← hcs]
        simpa using run_loadCells_list (P := P) w ⟨pl.B, pl.base + o', none⟩ [] (by simp)
       ·obtain ⟨hl, vs', hvr, hcell⟩ := hr.loadCells hcs hb
        have hvs : vs' = ns.map (Value.int .u8) := by
         apply List.ext_getElem?
         intro i
         have hlen := hvr.1
         rcases Nat.lt_or_ge i vs'.length with hi | hi
         ·have h1 : (ns.map (Value.int .u8))[i]? = some (Value.int .u8 (ns[i]'(by simp at hlen; omega))) := by simp
          obtain ⟨v', hv1, hv2⟩ := hvr.get h1
          rw [h1, hv1, hv2.int_inv]
         ·rw [List.getElem?_eq_none hi, List.getElem?_eq_none (by omega)]
        have := run_loadCells_list (P := P) w ⟨pl.B, pl.base + o', none⟩ vs' (fun j x hj => by rw [add_plain]; exact hcell j x hj)
        rw [hvs] at this
        simpa [hl] using this
      | sempty =>
       rename_i a'
       refine ⟨a', 0, rfl, ?_⟩
       simp only [if_true, Option.some.injEq] at hcs
       rw [← hcs]
       simpa using run_loadCells_list (P := P) w a' [] (by simp)
     obtain ⟨a', cap, hn, hload⟩ := key
     refine Good.pure hr (v' := .string ⟨(ns.map fun n => UInt8.ofNat n.toNat).toArray⟩) ?_ (.string _)
     have := run_bytesToString (P := P) w a' n cap ns hload
     simp [execOp, ho, hn, run_convert_bytes_string w src dst e _ n cap hsr he hd, this, foldl_push_bytes]
    ·cases hx
   ·cases hx
  ·cases hc
 ·-- a constant's bytes, marked
  rename_i e1 e lx hsr hd ha
  split at hc
  ·rename_i he
   split at hc
   ·rename_i hsd
    cases hc
    subst hsd
    obtain ⟨y, b, rfl⟩ := rd1 hs
    have hva := hv' lx y ha b
    simp only [lexec] at hx
    split at hx
    ·rename_i b' o' n E
     split at hx
     ·cases hx
     ·rename_i hn
      split at hx
      ·rename_i cs tip hg
       simp only [Option.some.injEq, Prod.mk.injEq] at hx
       obtain ⟨rfl, rfl⟩ := hx
       obtain ⟨pl, cap, hb, he'⟩ : ∃ pl cap, ν b' = some pl ∧ ρ x = .slice (some ⟨pl.B, pl.base + o', none⟩) n cap := by
        generalize ρ x = z at hva ⊢
        cases hva with
        | slice hb hle hfin => exact ⟨_, _, hb, rfl⟩
        | sempty => exact absurd rfl hn
       obtain ⟨c, ct, fz, h1, h2, h3⟩ := hr.mark hb hg
       refine ⟨ν, ρ x, _, .inl ?_, hva, h2, h3⟩
       have hsh : w.shape? pl.B = some (ct, c.size) := by unfold World.shape?; rw [h1]
       simp [execOp, ho, he', convert, run_underlying hd, run_underlying he, markStringish, hsh]
      ·cases hx
    ·cases hx
   ·cases hc
  ·cases hc
 ·cases hc

theorem good_makeFunc {fn : Fn} {first cap : Array Operand} (ho : o.op = .makeFunc fn first cap) {lo : LOp LO} {lv : LOp Value} (hc : cOp P (.makeFunc fn first cap) = some lo) (hs : lo.sub rd = some lv) (hx : lexec q lv h = some (v, h'))
  (hr : HR ν h w) (hv : OpsR ν (.makeFunc fn first cap) rd ρ) : Good P o ρ ν h w v h' := by
 simp only [cOp] at hc
 split at hc
 ·rename_i hf
  have hf' : first = #[] := by simpa using hf
  subst hf'
  obtain ⟨l, hl, rfl⟩ := map_some hc
  obtain ⟨l2, hl2, hlv⟩ := map_some hs
  subst hlv
  simp only [lexec, Option.some.injEq, Prod.mk.injEq] at hx
  obtain ⟨rfl, rfl⟩ := hx
  have hvr := listM_VRs (ρ := ρ) (ν := ν) hl hl2 fun x hx => hv x (by simpa [Op.operands] using hx)
  refine Good.pure hr (v' := .func fn #[] (cap.map ρ)) ?_ ?_
  ·simp [execOp, ho, Instr.makeFunc]
  ·refine .func ?_ ?_
   ·have := hvr.1; simpa using this
   ·intro i a b ha hb
    exact hvr.2 i a b (by simpa using ha) (by simpa using hb)
 ·cases hc

theorem good_makeMap {t : TypeId} (ho : o.op = .makeMap t none) {lo : LOp LO} {lv : LOp Value} (hc : cOp P (.makeMap t none) = some lo) (hs : lo.sub rd = some lv) (hx : lexec q lv h = some (v, h'))
  (hr : HR ν h w) : Good P o ρ ν h w v h' := by
 simp only [cOp, Option.some.injEq] at hc
 subst hc
 simp only [LOp.sub, Option.some.injEq] at hs
 subst hs
 simp only [lexec, Option.some.injEq, Prod.mk.injEq] at hx
 obtain ⟨rfl, rfl⟩ := hx
 have hal := hr.allocMap 0
 refine ⟨_, .map (some w.heap.size), _, .inl ?_, VR.map (Inj.put_same ν h.size _), hal.1, hal.2⟩
 simp [execOp, ho, Instr.makeMap]

end
end Go.E1

/-
 Slices, addresses, parts.
-/
namespace Go.E1
open Go

section
variable {P : Program} {q : EqF} {o : Oper} {ρ : Operand → Value} {ν : Inj} {h h' : LHeap} {w : World} {v : Value} {rd : LO → Option Value}

theorem sizeP_spec {t : TypeId} {n : Nat} (hn : sizeP P t = some n) : ∃ i, P.info? t = some i ∧ i.size = n := by
 unfold sizeP at hn
 obtain ⟨i, a, b⟩ := map_some hn
 exact ⟨i, a, b⟩

theorem good_fieldAddr {t : TypeId} {x : Operand} {k : Nat} (ho : o.op = .fieldAddr t x k) {lo : LOp LO} {lv : LOp Value} (hc : cOp P (.fieldAddr t x k) = some lo) (hs : lo.sub rd = some lv) (hx : lexec q lv h = some (v, h'))
  (hr : HR ν h w) (hv : OpsR ν (.fieldAddr t x k) rd ρ) : Good P o ρ ν h w v h' := by
 simp only [cOp] at hc
 split at hc
 ·rename_i fs lx hu ha
  split at hc
  ·rename_i f hf
   split at hc
   ·rename_i n hn
    split at hc
    ·cases hc
    ·rename_i h0
     cases hc
     obtain ⟨y, hy, rfl⟩ := rd1 hs
     have hva := hv x (by simp [Op.operands]) lx y ha hy
     simp only [lexec] at hx
     split at hx
     ·rename_i b j
      simp only [Option.some.injEq, Prod.mk.injEq] at hx
      obtain ⟨rfl, rfl⟩ := hx
      obtain ⟨pl, hb, he⟩ := hva.ptr_inv
      refine Good.pure hr (v' := .pointer (some ⟨pl.B, pl.base + (j + f.offset), none⟩)) ?_ (.ptr hb)
      simp [execOp, ho, Instr.fieldAt, run_underlying hu, hf, Instr.sureAddr, he, fieldPlace, run_sizeOf hn, h0, add_plain, Nat.add_assoc]
     ·rename_i b j
      simp only [Option.some.injEq, Prod.mk.injEq] at hx
      obtain ⟨rfl, rfl⟩ := hx
      have he := hva.glob_inv
      refine Good.pure hr (v' := .pointer (some ⟨b, j + f.offset, none⟩)) ?_ .glob
      simp [execOp, ho, Instr.fieldAt, run_underlying hu, hf, Instr.sureAddr, he, fieldPlace, run_sizeOf hn, h0, add_plain]
     ·cases hx
   ·cases hc
  ·cases hc
 ·cases hc

theorem VRs.extract {c c' : Array Value} (h : VRs ν c.toList c'.toList) (a b : Nat) : VR ν (.agg (c.extract a b)) (.agg (c'.extract a b)) := by
 refine VRs.agg ?_
 simp only [Array.toList_extract, List.extract]
 exact (h.drop a).take (b - a)

theorem run_part1 {t : TypeId} {c : Array Value} {k : Nat} {x : Value} (ha : isAggP P t = some false) (hx : c[k]? = some x) (w : World) : (part t c k).run P w = .ok x w := by
 simp [part, run_isAgg ha, hx]
theorem run_partN {t : TypeId} {c : Array Value} {k n : Nat} (ha : isAggP P t = some true) (hn : sizeP P t = some n) (w : World) : (part t c k).run P w = .ok (.agg (c.extract k (k + n))) w := by
 simp [part, run_isAgg ha, run_sizeOf hn]

theorem good_field {t : TypeId} {x : Operand} {k : Nat} (ho : o.op = .field t x k) {lo : LOp LO} {lv : LOp Value} (hc : cOp P (.field t x k) = some lo) (hs : lo.sub rd = some lv) (hx : lexec q lv h = some (v, h'))
  (hr : HR ν h w) (hv : OpsR ν (.field t x k) rd ρ) : Good P o ρ ν h w v h' := by
 simp only [cOp] at hc
 split at hc
 ·rename_i fs lx hu ha
  split at hc
  ·rename_i f hf
   split at hc
   ·rename_i n hagg hn
    cases hc
    obtain ⟨y, hy, rfl⟩ := rd1 hs
    have hva := hv x (by simp [Op.operands]) lx y ha hy
    simp only [lexec] at hx
    split at hx
    ·rename_i cs
     split at hx
     ·simp only [Option.some.injEq, Prod.mk.injEq] at hx
      obtain ⟨rfl, rfl⟩ := hx
      obtain ⟨cs', he⟩ := hva.agg_inv
      rw [he] at hva
      refine Good.pure hr ?_ ((VRs.of_agg hva).extract f.offset (f.offset + n))
      simp [execOp, ho, Instr.field, run_underlying hu, hf, asAgg, he, run_partN hagg hn]
     ·cases hx
    ·cases hx
   ·rename_i n hagg hn
    cases hc
    obtain ⟨y, hy, rfl⟩ := rd1 hs
    have hva := hv x (by simp [Op.operands]) lx y ha hy
    simp only [lexec] at hx
    split at hx
    ·rename_i cs
     obtain ⟨z, hz, hx⟩ := map_some hx
     simp only [Prod.mk.injEq] at hx
     obtain ⟨rfl, rfl⟩ := hx
     obtain ⟨cs', he⟩ := hva.agg_inv
     rw [he] at hva
     obtain ⟨z', hz', hvr⟩ := (VRs.of_agg hva).get (i := f.offset) (by simpa using hz)
     refine Good.pure hr ?_ hvr
     simp [execOp, ho, Instr.field, run_underlying hu, hf, asAgg, he, run_part1 hagg (show cs'[f.offset]? = some z' by simpa using hz')]
    ·cases hx
   ·cases hc
  ·cases hc
 ·cases hc

theorem good_indexAddr {t : TypeId} {x i : Operand} (ho : o.op = .indexAddr t x i) {lo : LOp LO} {lv : LOp Value} (hc : cOp P (.indexAddr t x i) = some lo) (hs : lo.sub rd = some lv) (hx : lexec q lv h = some (v, h'))
  (hr : HR ν h w) (hv : OpsR ν (.indexAddr t x i) rd ρ) : Good P o ρ ν h w v h' := by
 simp only [cOp] at hc
 split at hc
 ·rename_i len e lx li hu ha hi
  obtain ⟨n, hn, rfl⟩ := map_some hc
  obtain ⟨y, z, hy, hz, rfl⟩ := sub_idxAddrA hs
  have hva := hv x (by simp [Op.operands]) lx y ha hy
  have hvi := hv i (by simp [Op.operands]) li z hi hz
  simp only [lexec] at hx
  split at hx
  ·rename_i b j k ii
   split at hx
   ·rename_i hb'
    simp only [Option.some.injEq, Prod.mk.injEq] at hx
    obtain ⟨rfl, rfl⟩ := hx
    obtain ⟨pl, hb, he⟩ := hva.ptr_inv
    refine Good.pure hr (v' := .pointer (some ⟨pl.B, pl.base + (j + ii.toNat * n), none⟩)) ?_ (.ptr hb)
    simp [execOp, ho, Instr.indexAt, asIntOf, hvi.int_inv, run_underlying hu, Instr.sureAddr, he, hb', run_sizeOf hn, add_plain, Nat.add_assoc]
   ·cases hx
  ·rename_i b j k ii
   split at hx
   ·rename_i hb'
    simp only [Option.some.injEq, Prod.mk.injEq] at hx
    obtain ⟨rfl, rfl⟩ := hx
    have he := hva.glob_inv
    refine Good.pure hr (v' := .pointer (some ⟨b, j + ii.toNat * n, none⟩)) ?_ .glob
    simp [execOp, ho, Instr.indexAt, asIntOf, hvi.int_inv, run_underlying hu, Instr.sureAddr, he, hb', run_sizeOf hn, add_plain]
   ·cases hx
  ·cases hx
 ·rename_i e lx li hu ha hi
  obtain ⟨n, hn, rfl⟩ := map_some hc
  obtain ⟨y, z, hy, hz, rfl⟩ := sub_idxAddrS hs
  have hva := hv x (by simp [Op.operands]) lx y ha hy
  have hvi := hv i (by simp [Op.operands]) li z hi hz
  simp only [lexec] at hx
  split at hx
  ·rename_i b j m E k ii
   split at hx
   ·rename_i hb'
    obtain ⟨h1, h2, h3⟩ := hb'
    simp only [Option.some.injEq, Prod.mk.injEq] at hx
    obtain ⟨rfl, rfl⟩ := hx
    have key : ∃ pl cap, ν b = some pl ∧ ρ x = .slice (some ⟨pl.B, pl.base + j, none⟩) m cap := by
     generalize ρ x = z at hva ⊢
     cases hva with
     | slice hb _ _ => exact ⟨_, _, hb, rfl⟩
     | sempty => omega
    obtain ⟨pl, cap, hb, he⟩ := key
    refine Good.pure hr (v' := .pointer (some ⟨pl.B, pl.base + (j + ii.toNat * n), none⟩)) ?_ (.ptr hb)
    simp [execOp, ho, Instr.indexAt, asIntOf, hvi.int_inv, run_underlying hu, he, h1, h2, run_sizeOf hn, add_plain, Nat.add_assoc]
   ·cases hx
  ·cases hx
 ·cases hc

theorem good_index {t : TypeId} {x i : Operand} (ho : o.op = .index t x i) {lo : LOp LO} {lv : LOp Value} (hc : cOp P (.index t x i) = some lo) (hs : lo.sub rd = some lv) (hx : lexec q lv h = some (v, h'))
  (hr : HR ν h w) (hv : OpsR ν (.index t x i) rd ρ) : Good P o ρ ν h w v h' := by
 simp only [cOp] at hc
 split at hc
 ·rename_i len e lx li hu ha hi
  split at hc
  ·rename_i n hagg hn
   cases hc
   obtain ⟨y, z, hy, hz, rfl⟩ := sub_idxAN hs
   have hva := hv x (by simp [Op.operands]) lx y ha hy
   have hvi := hv i (by simp [Op.operands]) li z hi hz
   simp only [lexec] at hx
   split at hx
   ·rename_i cs k ii
    split at hx
    ·rename_i hb'
     obtain ⟨h1, h2, h3⟩ := hb'
     simp only [Option.some.injEq, Prod.mk.injEq] at hx
     obtain ⟨rfl, rfl⟩ := hx
     obtain ⟨cs', he⟩ := hva.agg_inv
     rw [he] at hva
     refine Good.pure hr ?_ ((VRs.of_agg hva).extract (ii.toNat * n) (ii.toNat * n + n))
     simp [execOp, ho, Instr.index, asIntOf, hvi.int_inv, run_underlying hu, he, h1, h2, run_sizeOf hn, run_partN hagg hn]
    ·cases hx
   ·cases hx
  ·rename_i hagg hn
   cases hc
   obtain ⟨y, z, hy, hz, rfl⟩ := sub_idxA1 hs
   have hva := hv x (by simp [Op.operands]) lx y ha hy
   have hvi := hv i (by simp [Op.operands]) li z hi hz
   simp only [lexec] at hx
   split at hx
   ·rename_i cs k ii
    split at hx
    ·rename_i hb'
     obtain ⟨h1, h2⟩ := hb'
     obtain ⟨z, hz, hx⟩ := map_some hx
     simp only [Prod.mk.injEq] at hx
     obtain ⟨rfl, rfl⟩ := hx
     obtain ⟨cs', he⟩ := hva.agg_inv
     rw [he] at hva
     obtain ⟨z', hz', hvr⟩ := (VRs.of_agg hva).get (i := ii.toNat) (by simpa using hz)
     refine Good.pure hr ?_ hvr
     simp [execOp, ho, Instr.index, asIntOf, hvi.int_inv, run_underlying hu, he, h1, h2, run_sizeOf hn, run_part1 hagg (show cs'[ii.toNat]? = some z' by simpa using hz')]
    ·cases hx
   ·cases hx
  ·cases hc
 ·rename_i lx li hu ha hi
  cases hc
  obtain ⟨y, z, hy, hz, rfl⟩ := sub_idxStr hs
  have hva := hv x (by simp [Op.operands]) lx y ha hy
  have hvi := hv i (by simp [Op.operands]) li z hi hz
  simp only [lexec] at hx
  split at hx
  ·rename_i s k ii
   split at hx
   ·rename_i h1
    obtain ⟨z, hz, hx⟩ := map_some hx
    simp only [Prod.mk.injEq] at hx
    obtain ⟨rfl, rfl⟩ := hx
    refine Good.pure hr ?_ (.int _ _)
    have hz' : s[ii.toNat]? = some z := by
     have h0 : s.data[ii.toNat]? = some z := by simpa [nthR_eq] using hz
     obtain ⟨hlt, he⟩ := Array.getElem?_eq_some_iff.1 h0
     rw [getElem?_pos s ii.toNat hlt]
     exact congrArg some he
    simp [execOp, ho, Instr.index, asIntOf, hvi.int_inv, run_underlying hu, hva.str_inv, h1, hz']
   ·cases hx
  ·cases hx
 ·cases hc

theorem good_extract {x : Operand} {i : Nat} (ho : o.op = .extract x i) {lo : LOp LO} {lv : LOp Value} (hc : (cLO x).map (LOp.extract i) = some lo) (hs : lo.sub rd = some lv) (hx : lexec q lv h = some (v, h'))
  (hr : HR ν h w) (hv : ∀ lx v, cLO x = some lx → rd lx = some v → VR ν v (ρ x)) : Good P o ρ ν h w v h' := by
 obtain ⟨lx, a, rfl⟩ := map_some hc
 obtain ⟨y, b, rfl⟩ := rd1 hs
 have hva := hv lx y a b
 simp only [lexec] at hx
 split at hx
 ·rename_i vs
  obtain ⟨z, hz, hx⟩ := map_some hx
  simp only [Prod.mk.injEq] at hx
  obtain ⟨rfl, rfl⟩ := hx
  have key : ∃ vs' z', ρ x = .tuple vs' ∧ vs'[i]? = some z' ∧ VR ν z z' := by
   generalize ρ x = u at hva ⊢
   cases hva with
   | tuple hsz hh =>
    rename_i vs'
    have hlt : i < vs.size := by
     rcases Nat.lt_or_ge i vs.size with hl | hl
     ·exact hl
     ·simp [Array.getElem?_eq_none hl] at hz
    have h1 : vs'[i]? = some (vs'[i]'(hsz ▸ hlt)) := by simp [← hsz, hlt]
    exact ⟨vs', _, rfl, h1, hh i z _ hz h1⟩
  obtain ⟨vs', z', he, hz', hvr⟩ := key
  refine Good.pure hr ?_ hvr
  simp [execOp, ho, Instr.extract, he, hz']
 ·cases hx

end
end Go.E1

/-
 Slicing, making, appending, copying.
-/
namespace Go.E1
open Go

section
variable {P : Program} {q : EqF} {o : Oper} {ρ : Operand → Value} {ν : Inj} {h h' : LHeap} {w : World} {v : Value} {rd : LO → Option Value}

theorem sub_slice {e : Nat} {x : LO} {lo hi mx : Option LO} {lv : LOp Value} (hs : (LOp.slice e x lo hi mx).sub rd = some lv) :
  ∃ x' lo' hi' mx', rd x = some x' ∧ LOp.optM rd lo = some lo' ∧ LOp.optM rd hi = some hi' ∧ LOp.optM rd mx = some mx' ∧ lv = .slice e x' lo' hi' mx' := by
 simp only [LOp.sub] at hs
 split at hs
 ·rename_i a b c d h1 h2 h3 h4; exact ⟨a, b, c, d, h1, h2, h3, h4, (Option.some.inj hs).symm⟩
 ·cases hs
theorem sub_sliceArr {n e : Nat} {x : LO} {lo hi mx : Option LO} {lv : LOp Value} (hs : (LOp.sliceArr n e x lo hi mx).sub rd = some lv) :
  ∃ x' lo' hi' mx', rd x = some x' ∧ LOp.optM rd lo = some lo' ∧ LOp.optM rd hi = some hi' ∧ LOp.optM rd mx = some mx' ∧ lv = .sliceArr n e x' lo' hi' mx' := by
 simp only [LOp.sub] at hs
 split at hs
 ·rename_i a b c d h1 h2 h3 h4; exact ⟨a, b, c, d, h1, h2, h3, h4, (Option.some.inj hs).symm⟩
 ·cases hs
theorem sub_sliceStr {x : LO} {lo hi : Option LO} {lv : LOp Value} (hs : (LOp.sliceStr x lo hi).sub rd = some lv) :
  ∃ x' lo' hi', rd x = some x' ∧ LOp.optM rd lo = some lo' ∧ LOp.optM rd hi = some hi' ∧ lv = .sliceStr x' lo' hi' := by
 simp only [LOp.sub] at hs
 split at hs
 ·rename_i a b c h1 h2 h3; exact ⟨a, b, c, h1, h2, h3, (Option.some.inj hs).symm⟩
 ·cases hs

/-- A bound: nothing, or a number. -/
def BoundR (l : Option Value) (r : Option Value) : Prop :=
 match l with
 | none => r = none
 | some v => ∀ k n, v = .int k n → r = some (.int k n)

theorem opt_BoundR {x : Option Operand} {lx : Option LO} {y : Option Value} (h1 : opt cLO x = some lx) (h2 : LOp.optM rd lx = some y) (hv : ∀ z, x = some z → ∀ lx v, cLO z = some lx → rd lx = some v → VR ν v (ρ z)) :
  BoundR y (x.map ρ) := by
 cases x with
 | none =>
  simp only [opt, Option.some.injEq] at h1
  subst h1
  simp only [LOp.optM, Option.some.injEq] at h2
  subst h2
  rfl
 | some z =>
  obtain ⟨l, hl, rfl⟩ := map_some h1
  obtain ⟨u, hu, rfl⟩ := map_some h2
  intro k n he
  subst he
  have := hv z rfl l _ hl hu
  simp [this.int_inv]

theorem lo1_spec {y : Option Value} {a : Option Nat} (h : lo1 y = some a) : (y = none ∧ a = none) ∨ ∃ (k : IntKind) (i : Int), y = some (.int k i) ∧ 0 ≤ i ∧ a = some i.toNat := by
 unfold lo1 at h
 split at h
 ·cases h; exact .inl ⟨rfl, rfl⟩
 ·rename_i k i
  split at h
  ·rename_i h0; cases h; exact .inr ⟨k, i, rfl, h0, rfl⟩
  ·cases h
 ·cases h

theorem run_sliceBound {k : IntKind} {i : Int} {y : Nat} {c : BoundsCode} (h0 : 0 ≤ i) (h1 : i.toNat ≤ y) : (Instr.sliceBound (.int k i) y c).run P w = .ok i.toNat w := by
 have : i ≤ (y : Int) := by omega
 simp [Instr.sliceBound, asIntOf, h0, this]

theorem run_sliceBounds {b : Bool} {len cap : Nat} {lo hi : Option Value} {rlo rhi : Option Value} {l1 h1 : Option Nat} (hl : lo1 lo = some l1) (hh : lo1 hi = some h1) (rl : BoundR lo rlo) (rh : BoundR hi rhi)
  (hcap : h1.getD len ≤ cap) (hle : l1.getD 0 ≤ h1.getD len) : (Instr.sliceBounds b len cap rlo rhi none).run P w = .ok (l1.getD 0, h1.getD len, cap) w := by
 rcases lo1_spec hh with ⟨rfl, rfl⟩ | ⟨k, i, rfl, hi0, rfl⟩
 ·have e2 : rhi = none := rh
  subst e2
  rcases lo1_spec hl with ⟨rfl, rfl⟩ | ⟨k', i', rfl, hi0', rfl⟩
  ·have e1 : rlo = none := rl
   subst e1
   simp [Instr.sliceBounds]
  ·have e1 := rl k' i' rfl
   subst e1
   simp at hle
   simp [Instr.sliceBounds, run_sliceBound hi0' (show i'.toNat ≤ len by omega)]
 ·have e2 := rh k i rfl
  subst e2
  simp at hcap hle
  rcases lo1_spec hl with ⟨rfl, rfl⟩ | ⟨k', i', rfl, hi0', rfl⟩
  ·have e1 : rlo = none := rl
   subst e1
   simp [Instr.sliceBounds, run_sliceBound hi0 (show i.toNat ≤ cap by omega)]
  ·have e1 := rl k' i' rfl
   subst e1
   simp at hle
   simp [Instr.sliceBounds, run_sliceBound hi0 (show i.toNat ≤ cap by omega), run_sliceBound hi0' (show i'.toNat ≤ i.toNat by omega)]

theorem run_sliceBounds3 {b : Bool} {len cap : Nat} {lo hi : Option Value} {rlo rhi : Option Value} {l1 : Option Nat} {h1 : Nat} {km : IntKind} {m : Int} (hl : lo1 lo = some l1) (hh : lo1 hi = some (some h1)) (rl : BoundR lo rlo) (rh : BoundR hi rhi)
  (hcap : h1 ≤ cap) (hle : l1.getD 0 ≤ h1) (hm : m = (h1 : Nat)) : (Instr.sliceBounds b len cap rlo rhi (some (.int km m))).run P w = .ok (l1.getD 0, h1, h1) w := by
 subst hm
 rcases lo1_spec hh with ⟨rfl, hn⟩ | ⟨k, i, rfl, hi0, hn⟩
 ·cases hn
 ·cases hn
  obtain ⟨n, rfl⟩ := Int.eq_ofNat_of_zero_le hi0
  simp only [Int.toNat_natCast] at *
  have e2 := rh k _ rfl
  subst e2
  have hb := run_sliceBound (P := P) (w := w) (k := km) (c := if b = true then .slice3Acap else .slice3Alen) (show 0 ≤ ((n : Nat) : Int) by omega) (show ((n : Nat) : Int).toNat ≤ cap by simpa using hcap)
  have hb2 := run_sliceBound (P := P) (w := w) (k := k) (y := n) (c := .slice3B) (show 0 ≤ ((n : Nat) : Int) by omega) (by simp)
  simp only [Int.toNat_natCast] at hb hb2
  rcases lo1_spec hl with ⟨rfl, rfl⟩ | ⟨k', i', rfl, hi0', rfl⟩
  ·have e1 : rlo = none := rl
   subst e1
   simp [Instr.sliceBounds, hb, hb2]
  ·have e1 := rl k' i' rfl
   subst e1
   simp only [Option.getD_some] at hle
   simp [Instr.sliceBounds, hb, hb2, run_sliceBound hi0' hle]

/-- What a slice of a slice is. -/
theorem VR.reslice {a : Option Addr} {n E l hh m : Nat} {x : Value} (hx : VR ν (.slice a n E) x) (h1 : l ≤ hh) (h2 : hh ≤ n) :
  ∃ a' cap, x = .slice a' n cap ∧ n ≤ cap ∧ ((m = hh ∨ m = cap) → m ≤ cap →
   VR ν (.slice (a.map fun p => ⟨p.block, p.off + l * E, p.spot⟩) (hh - l) E) (.slice (if m = l then a' else a'.map (·.add (l * E))) (hh - l) (m - l))) := by
 cases hx with
 | snil =>
  refine ⟨none, 0, rfl, Nat.le_refl _, ?_⟩
  intro hm hle
  have e1 : hh = 0 := by omega
  have e2 : m = 0 := by omega
  subst e1; subst e2
  have e3 : l = 0 := by omega
  subst e3
  exact .snil
 | slice hb hle hfin =>
  rename_i b o cap pl
  refine ⟨_, cap, rfl, hle, ?_⟩
  intro hm hmc
  by_cases e : m = l
  ·subst e
   have : hh - m = 0 := by omega
   rw [this]
   simp only [Nat.sub_self, if_pos]
   exact .sempty
  ·rw [if_neg e]
   simp only [Option.map_some, add_plain]
   have hadd : pl.base + o + l * E = pl.base + (o + l * E) := by omega
   rw [hadd]
   refine .slice hb (by omega) ?_
   have : (l + (m - l)) * E ≤ cap * E := Nat.mul_le_mul_right _ (by omega)
   rw [Nat.add_mul] at this
   omega
 | sempty =>
  refine ⟨_, 0, rfl, Nat.le_refl _, ?_⟩
  intro hm hle
  have e1 : hh = 0 := by omega
  have e2 : m = 0 := by omega
  subst e1; subst e2
  have e3 : l = 0 := by omega
  subst e3
  exact .sempty

theorem good_slice {t : TypeId} {x : Operand} {lo hi mx : Option Operand} (ho : o.op = .slice t x lo hi mx) {lop : LOp LO} {lv : LOp Value} (hc : cOp P (.slice t x lo hi mx) = some lop) (hs : lop.sub rd = some lv) (hx : lexec q lv h = some (v, h'))
  (hr : HR ν h w) (hv : OpsR ν (.slice t x lo hi mx) rd ρ) : Good P o ρ ν h w v h' := by
 have hvx := hv x (by simp [Op.operands])
 have hvlo : ∀ z, lo = some z → ∀ lx v, cLO z = some lx → rd lx = some v → VR ν v (ρ z) := fun z hz => hv z (by simp [Op.operands, hz])
 have hvhi : ∀ z, hi = some z → ∀ lx v, cLO z = some lx → rd lx = some v → VR ν v (ρ z) := fun z hz => hv z (by simp [Op.operands, hz])
 have hvmx : ∀ z, mx = some z → ∀ lx v, cLO z = some lx → rd lx = some v → VR ν v (ρ z) := fun z hz => hv z (by simp [Op.operands, hz])
 simp only [cOp] at hc
 split at hc
 ·rename_i e lx llo lhi lmx hu ha hlo hhi hmx
  split at hc
  ·rename_i n hn
   cases hc
   obtain ⟨x', lo', hi', mx', h1, h2, h3, h4, rfl⟩ := sub_slice hs
   have hva := hvx lx x' ha h1
   have blo := opt_BoundR (ρ := ρ) (ν := ν) hlo h2 hvlo
   have bhi := opt_BoundR (ρ := ρ) (ν := ν) hhi h3 hvhi
   have bmx := opt_BoundR (ρ := ρ) (ν := ν) hmx h4 hvmx
   simp only [lexec] at hx
   split at hx
   ·rename_i a len E l1 u1 hl1 hu1
    have em : mx.map ρ = none := bmx
    split at hx
    ·rename_i hE
     split at hx
     ·rename_i hb
      obtain ⟨hb1, hb2⟩ := hb
      simp only [Option.some.injEq, Prod.mk.injEq] at hx
      obtain ⟨rfl, rfl⟩ := hx
      obtain ⟨a', cap, he, hcap, hvr⟩ := hva.reslice (m := 0) hb2 hb1
      obtain ⟨a2, cap2, he2, hcap2, hvr⟩ := hva.reslice (m := cap) hb2 hb1
      have e12 := he.symm.trans he2
      simp only [Value.slice.injEq, true_and] at e12
      obtain ⟨rfl, rfl⟩ := e12
      have hvr := hvr (.inr rfl) (Nat.le_refl _)
      have hfix : VR ν (.slice (a.map fun p => ⟨p.block, p.off + l1.getD 0 * n, p.spot⟩) (u1.getD len - l1.getD 0) E) (.slice (if cap = l1.getD 0 then a' else a'.map (·.add (l1.getD 0 * n))) (u1.getD len - l1.getD 0) (cap - l1.getD 0)) := by
       rcases hE with rfl | rfl
       ·exact hvr
       ·have : a' = none := by
         rw [he] at hva; cases hva; rfl
        subst this
        simpa using hvr
      refine Good.pure hr ?_ hfix
      have hrun := run_sliceBounds (P := P) (w := w) (b := true) (cap := cap) hl1 hu1 blo bhi (by omega) hb2
      simp [execOp, ho, Instr.sliceAt, run_underlying hu, Instr.slice, he, em, hrun, run_sizeOf hn]
     ·cases hx
    ·cases hx
   ·rename_i a len E l1 u1 km m hl1 hu1
    split at hx
    ·rename_i hE
     split at hx
     ·rename_i hb
      obtain ⟨hb1, hb2, hb3⟩ := hb
      simp only [Option.some.injEq, Prod.mk.injEq] at hx
      obtain ⟨rfl, rfl⟩ := hx
      have em : mx.map ρ = some (.int km m) := bmx km m rfl
      obtain ⟨a', cap, he, hcap, hvr⟩ := hva.reslice (m := u1) hb2 hb1
      have hvr := hvr (.inl rfl) (by omega)
      have hfix : VR ν (.slice (a.map fun p => ⟨p.block, p.off + l1.getD 0 * n, p.spot⟩) (u1 - l1.getD 0) E) (.slice (if u1 = l1.getD 0 then a' else a'.map (·.add (l1.getD 0 * n))) (u1 - l1.getD 0) (u1 - l1.getD 0)) := by
       rcases hE with rfl | rfl
       ·exact hvr
       ·have : a' = none := by
         rw [he] at hva; cases hva; rfl
        subst this
        simpa using hvr
      refine Good.pure hr ?_ hfix
      have hrun := run_sliceBounds3 (P := P) (w := w) (b := true) (len := len) (cap := cap) (km := km) hl1 hu1 blo bhi (by omega) hb2 hb3
      simp [execOp, ho, Instr.sliceAt, run_underlying hu, Instr.slice, he, em, hrun, run_sizeOf hn]
     ·cases hx
    ·cases hx
   ·cases hx
  ·cases hc
 ·rename_i lx llo lhi hu ha hlo hhi hmx
  cases hc
  obtain ⟨x', lo', hi', h1, h2, h3, rfl⟩ := sub_sliceStr hs
  have hva := hvx lx x' ha h1
  have blo := opt_BoundR (ρ := ρ) (ν := ν) hlo h2 hvlo
  have bhi := opt_BoundR (ρ := ρ) (ν := ν) hhi h3 hvhi
  have em : mx = none := by
   cases mx with
   | none => rfl
   | some z => obtain ⟨_, _, hh⟩ := map_some hmx; cases hh
  subst em
  simp only [lexec] at hx
  split at hx
  ·rename_i s l1 u1 hl1 hu1
   split at hx
   ·rename_i hb
    obtain ⟨hb1, hb2⟩ := hb
    simp only [Option.some.injEq, Prod.mk.injEq] at hx
    obtain ⟨rfl, rfl⟩ := hx
    refine Good.pure hr ?_ (.string _)
    have hrun := run_sliceBounds (P := P) (w := w) (b := false) (len := s.size) (cap := s.size) hl1 hu1 blo bhi hb1 hb2
    simp [execOp, ho, Instr.sliceAt, run_underlying hu, Instr.slice, hva.str_inv, hrun]
   ·cases hx
  ·cases hx
 ·rename_i n e lx llo lhi lmx hu ha hlo hhi hmx
  split at hc
  ·rename_i k hk
   split at hc
   ·cases hc
   ·rename_i hk0
    cases hc
    obtain ⟨x', lo', hi', mx', h1, h2, h3, h4, rfl⟩ := sub_sliceArr hs
    have hva := hvx lx x' ha h1
    have blo := opt_BoundR (ρ := ρ) (ν := ν) hlo h2 hvlo
    have bhi := opt_BoundR (ρ := ρ) (ν := ν) hhi h3 hvhi
    have bmx := opt_BoundR (ρ := ρ) (ν := ν) hmx h4 hvmx
    simp only [lexec] at hx
    split at hx
    ·rename_i b j l1 u1 hl1 hu1
     have em : mx.map ρ = none := bmx
     split at hx
     ·rename_i cs tip rw hg
      split at hx
      ·rename_i hb
       obtain ⟨hb0, hb1, hb2⟩ := hb
       simp only [Option.some.injEq, Prod.mk.injEq] at hx
       obtain ⟨rfl, rfl⟩ := hx
       obtain ⟨pl, hbl, he⟩ := hva.ptr_inv
       obtain ⟨_, _, _, _, _, h3', _, _, _⟩ := hr.cells hbl hg
       have hrun := run_sliceBounds (P := P) (w := w) (b := false) (len := n) (cap := n) hl1 hu1 blo bhi hb1 hb2
       have hres : VR ν (.slice (some ⟨b, j + l1.getD 0 * k, none⟩) (u1.getD n - l1.getD 0) k) (.slice (some (if n = l1.getD 0 then ⟨pl.B, pl.base + j, none⟩ else (⟨pl.B, pl.base + j, none⟩ : Addr).add (l1.getD 0 * k))) (u1.getD n - l1.getD 0) (n - l1.getD 0)) := by
        by_cases e0 : n = l1.getD 0
        ·have : u1.getD n - l1.getD 0 = 0 := by omega
         rw [this, if_pos e0]
         have : n - l1.getD 0 = 0 := by omega
         rw [this]
         exact .sempty
        ·rw [if_neg e0, add_plain, Nat.add_assoc]
         refine .slice hbl (by omega) ?_
         have : (l1.getD 0 + (n - l1.getD 0)) * k ≤ n * k := Nat.mul_le_mul_right _ (by omega)
         rw [Nat.add_mul] at this
         omega
       refine Good.pure hr ?_ hres
       simp [execOp, ho, Instr.sliceAt, run_underlying hu, Instr.sureAddr, he, em, hrun, run_sizeOf hk]
      ·cases hx
     ·cases hx
    ·cases hx
  ·cases hc
 ·cases hc

end
end Go.E1

/-
 Making slices, lengths, appending, copying, the least and the greatest; all operations together.
-/
namespace Go.E1
open Go

section
variable {P : Program} {q : EqF} {o : Oper} {ρ : Operand → Value} {ν : Inj} {h h' : LHeap} {w : World} {v : Value} {rd : LO → Option Value}

theorem replicate_flatten_get {z : List Value} {n : Nat} : ∀ (m : Nat) (i : Nat) (v : Value), z.length = n → ((List.replicate m z).flatten)[i]? = some v → v ∈ z := by
 intro m
 induction m with
 | zero => intro i v _ h; simp at h
 | succ m ih =>
  intro i v hz h
  rw [List.replicate_succ, List.flatten_cons, List.getElem?_append] at h
  split at h
  ·exact List.mem_of_getElem? h
  ·exact ih _ _ hz h

theorem good_makeSlice {t : TypeId} {n c : Operand} (ho : o.op = .makeSlice t n c) {lo : LOp LO} {lv : LOp Value} (hc : cOp P (.makeSlice t n c) = some lo) (hs : lo.sub rd = some lv) (hx : lexec q lv h = some (v, h'))
  (hr : HR ν h w) (hv : OpsR ν (.makeSlice t n c) rd ρ) : Good P o ρ ν h w v h' := by
 simp only [cOp] at hc
 split at hc
 ·rename_i e hu
  split at hc
  ·rename_i i z ln lc hi hz hn hcc
   split at hc
   ·rename_i hzn
    obtain ⟨hzn, hpos⟩ := hzn
    cases hc
    obtain ⟨y1, y2, hy1, hy2, rfl⟩ := sub_makeSlice hs
    have hvn := hv n (by simp [Op.operands]) ln y1 hn hy1
    have hvc := hv c (by simp [Op.operands]) lc y2 hcc hy2
    obtain ⟨i2, u, hi2, hiu, rfl, hall⟩ := zeroOf_spec hz
    rw [hi] at hi2
    cases hi2
    simp only [lexec] at hx
    split at hx
    ·rename_i k1 a k2 b
     split at hx
     ·rename_i hb
      obtain ⟨h0, h1, h2, _⟩ := hb
      simp only [roomOk, Bool.and_eq_true, decide_eq_true_eq] at h2
      obtain ⟨h2, h3⟩ := h2
      simp only [Option.some.injEq, Prod.mk.injEq] at hx
      obtain ⟨rfl, rfl⟩ := hx
      obtain ⟨a, rfl⟩ := Int.eq_ofNat_of_zero_le h0
      obtain ⟨b, rfl⟩ := Int.eq_ofNat_of_zero_le (Int.le_trans h0 h1)
      simp only [Int.toNat_natCast] at *
      have hab : a ≤ b := by omega
      have hcells : (Array.range (b * i.size)).map (u.cells[· % u.cells.size]!) = ((List.replicate b u.cells.toList).flatten).toArray := by
       have := range_flatten u.cells.toList b i.size hzn hpos
       apply Array.ext'
       simpa using this
      have hsplit : (List.replicate b u.cells.toList).flatten = (List.replicate a u.cells.toList).flatten ++ (List.replicate (b - a) u.cells.toList).flatten := by
       rw [← List.flatten_append, List.replicate_append_replicate, show a + (b - a) = b by omega]
      have hlenb : ((List.replicate b u.cells.toList).flatten).length = b * i.size := by simp [List.length_flatten, ← hzn]
      have hlena : ((List.replicate a u.cells.toList).flatten).length = a * i.size := by simp [List.length_flatten, ← hzn]
      have hal := hr.alloc (List.replicate a u.cells.toList).flatten ((List.replicate b u.cells.toList).flatten).toArray e (0, 0) (by simp only [List.size_toArray]; rw [hlena, hlenb]; exact Nat.mul_le_mul_right _ hab)
       (fun j x hj => by
        refine ⟨x, ?_, ?_⟩
        ·simp only [List.getElem?_toArray]
         rw [hsplit, List.getElem?_append_left ?_]
         ·exact hj
         ·rcases Nat.lt_or_ge j ((List.replicate a u.cells.toList).flatten).length with hl | hl
          ·exact hl
          ·rw [List.getElem?_eq_none hl] at hj; cases hj
        ·exact constOk_VR (List.all_eq_true.1 hall x (replicate_flatten_get a j x hzn hj)) ν) (.inl rfl)
      refine ⟨_, .slice (some ⟨w.heap.size, 0, none⟩) a b, _, .inl ?_, VR.slice (o := 0) (Inj.put_same ν h.size _) hab (by simp only [List.size_toArray]; rw [hlenb]; omega), hal.1, hal.2⟩
      have hw1 : IntKind.i64.wrap (a : Int) = a := IntWalk.i64_in _ (by omega)
      have hw2 : IntKind.i64.wrap (b : Int) = b := IntWalk.i64_in _ (by omega)
      have hby : ¬ (281474976710656 < (i.bytes : Int) * (b : Int)) := by
       have : ((b * i.bytes : Nat) : Int) ≤ 140737488355328 := by omega
       rw [Nat.mul_comm] at this
       push_cast at this
       omega
      have hab' : ¬ ((b : Int) < (a : Int)) := by omega
      have hnn : ¬ ((b : Int) < 0) := by omega
      have hnn2 : ¬ ((a : Int) < 0) := by omega
      by_cases hb0 : b * i.size = 0
      ·have hA : ∀ f : Nat → Value, Array.map f (Array.range 0) = #[] := fun f => by apply Array.eq_empty_of_size_eq_zero; simp
       have hE : ((List.replicate b u.cells.toList).flatten).toArray = #[] := by
        apply Array.eq_empty_of_size_eq_zero
        simp only [List.size_toArray]; omega
       rw [hE]
       simp [execOp, ho, Instr.makeSlice, run_underlying hu, asInt, asIntOf, hvn.int_inv, hvc.int_inv, typeInfo, hi, hw1, hw2, hby, hab', hnn, hnn2, sizeOf, hb0, newRow, hA]
      ·simp [execOp, ho, Instr.makeSlice, run_underlying hu, asInt, asIntOf, hvn.int_inv, hvc.int_inv, typeInfo, hi, hw1, hw2, hby, hab', hnn, hnn2, sizeOf, hb0, newRow, run_zeroValue hi hiu, hcells]
     ·cases hx
    ·cases hx
   ·cases hc
  ·cases hc
 ·cases hc

/-! ### Built-in functions -/

theorem bi_run {b : Builtin} {args : Array Operand} {ts : Array TypeId} {s : Sem Value} {v' : Value} {w' : World} (ho : o.op = .call { callee := .builtin b, args, argTypes := ts })
  (hb : ∀ c, builtin b ts o.type c (args.map ρ) = (do pure (.value (← s)))) (hs : s.run P w = .ok v' w') : (execOp ρ o).run P w = .ok (.value v') w' := by
 simp [execOp, ho, resolve, invoke, hb, hs]

theorem listM1 {args : Array Operand} {x : LO} (hl : LOp.listM cLO args.toList = some [x]) : ∃ X, args = #[X] ∧ cLO X = some x := by
 cases hA : args.toList with
 | nil => rw [hA] at hl; simp [LOp.listM] at hl
 | cons X r =>
  rw [hA] at hl
  simp only [LOp.listM] at hl
  split at hl
  ·rename_i y m hy hm
   simp only [Option.some.injEq, List.cons.injEq] at hl
   obtain ⟨rfl, rfl⟩ := hl
   cases r with
   | nil => exact ⟨X, by apply Array.ext'; simpa using hA, hy⟩
   | cons Y r =>
    simp only [LOp.listM] at hm
    split at hm <;> simp at hm
  ·cases hl

theorem listM2 {args : Array Operand} {x y : LO} (hl : LOp.listM cLO args.toList = some [x, y]) : ∃ X Y, args = #[X, Y] ∧ cLO X = some x ∧ cLO Y = some y := by
 cases hA : args.toList with
 | nil => rw [hA] at hl; simp [LOp.listM] at hl
 | cons X r =>
  rw [hA] at hl
  simp only [LOp.listM] at hl
  split at hl
  ·rename_i z m hz hm
   simp only [Option.some.injEq, List.cons.injEq] at hl
   obtain ⟨rfl, rfl⟩ := hl
   have := listM1 (args := r.toArray) (by simpa using hm)
   obtain ⟨Y, hY, hy⟩ := this
   have hr : r = [Y] := by simpa using congrArg Array.toList hY
   subst hr
   exact ⟨X, Y, by apply Array.ext'; simpa using hA, hz, hy⟩
  ·cases hl

theorem good_len (hrc : ∀ v, rd (.c v) = some v) {args : Array Operand} {ts : Array TypeId} (ho : o.op = .call { callee := .builtin .len, args, argTypes := ts }) {l : List LO} {lo : LOp LO} {lv : LOp Value} (hl : LOp.listM cLO args.toList = some l)
  (hc : cBuiltin P .len ts l = some lo) (hs : lo.sub rd = some lv) (hx : lexec q lv h = some (v, h')) (hr : HR ν h w) (hv : OpsR ν o.op rd ρ) : Good P o ρ ν h w v h' := by
 rcases l with _ | ⟨x, _ | ⟨y, l⟩⟩
 ·simp [cBuiltin] at hc
 ·obtain ⟨X, rfl, hX⟩ := listM1 hl
  have hvX := hv X (by rw [ho]; simp [Op.operands, Call.operands]) x
  simp only [cBuiltin] at hc
  cases ht : ts[0]? with
  | none => simp [ht] at hc
  | some t =>
   have hb : ∀ c, builtin .len ts o.type c (#[X].map ρ) = (do pure (.value (← Builtin.len_ ts o.type #[ρ X]))) := fun c => by simp [builtin]
   split at hc
   ·rename_i hu
    rw [ht] at hu
    replace hu : P.underlying t = some .string := hu
    cases hc
    obtain ⟨y, hy, rfl⟩ := rd1 hs
    have hva := hvX y hX hy
    simp only [lexec] at hx
    split at hx
    ·simp only [Option.some.injEq, Prod.mk.injEq] at hx
     obtain ⟨rfl, rfl⟩ := hx
     refine Good.pure hr (bi_run ho hb ?_) (.int _ _)
     simp [Builtin.len_, ht, hva.str_inv, run_underlying hu, goInt]
    ·cases hx
   ·rename_i e hu
    rw [ht] at hu
    replace hu : P.underlying t = some (.slice e) := hu
    cases hc
    obtain ⟨y, hy, rfl⟩ := rd1 hs
    have hva := hvX y hX hy
    simp only [lexec] at hx
    split at hx
    ·simp only [Option.some.injEq, Prod.mk.injEq] at hx
     obtain ⟨rfl, rfl⟩ := hx
     obtain ⟨a', cap, he, _⟩ := hva.slice_inv
     refine Good.pure hr (bi_run ho hb ?_) (.int _ _)
     simp [Builtin.len_, ht, he, run_underlying hu, goInt]
    ·cases hx
   ·rename_i n e hu
    rw [ht] at hu
    replace hu : P.underlying t = some (.array n e) := hu
    cases hc
    simp only [LOp.sub] at hs
    rw [hrc] at hs
    simp only [Option.map_some, Option.some.injEq] at hs
    subst hs
    simp only [lexec, Option.some.injEq, Prod.mk.injEq] at hx
    obtain ⟨rfl, rfl⟩ := hx
    refine Good.pure hr (bi_run ho hb ?_) (.int _ _)
    simp [Builtin.len_, ht, run_underlying hu, goInt]
   ·cases hc
 ·simp [cBuiltin] at hc

theorem byteCells_one (s : ByteArray) : ∀ u ∈ byteCells s, u.oneCell' = true := fun u hu => by
 obtain ⟨_, _, rfl⟩ := List.mem_map.1 hu
 rfl

theorem loadCells_len {b k n : Nat} {vs : List Value} (hl : h.loadCells b k n = some vs) : vs.length = n := by
 unfold LHeap.loadCells at hl
 split at hl
 ·split at hl
  ·cases hl; simp; omega
  ·cases hl
 ·cases hl

theorem firstCells_len {e : Nat} {x : Value} {m : Nat} {news : List Value} (hf : h.firstCells e x = some (m, news)) : news.length = m * e := by
 unfold LHeap.firstCells at hf
 split at hf
 ·cases hf; simp
 ·split at hf
  ·split at hf
   ·cases hf; simp
   ·obtain ⟨vs, hvs, hh⟩ := map_some hf
    cases hh
    rename_i hE _
    subst hE
    exact loadCells_len hvs
  ·cases hf
 ·rename_i s
  split at hf
  ·rename_i he
   subst he
   cases hf
   simp
  ·cases hf
 ·cases hf

theorem HR.congr {h₁ h₂ : LHeap} (hr : HR ν h₁ w) (hg : ∀ c, h₁.get c = h₂.get c) (hs : h₁.size = h₂.size) : HR ν h₂ w :=
 ⟨⟨fun b pl hb => hs ▸ hr.dom b pl hb, fun b pl hb => hg b ▸ hr.obj b pl hb, fun b c pl ql hb hc hne hB => by rw [← hg b, ← hg c]; exact hr.sep b c pl ql hb hc hne hB, hr.real⟩, fun g cs h => ⟨(hr.gl g cs h).1, fun b pl hb hB => by rw [← hg b]; exact (hr.gl g cs h).2 b pl hb hB⟩⟩

theorem Step.congr {ν' : Inj} {w' : World} {h₁ h₂ : LHeap} (st : Step ν h w ν' h₁ w') (hg : ∀ c, h₁.get c = h₂.get c) (hs : h₁.size = h₂.size) : Step ν h w ν' h₂ w' :=
 ⟨st.le, st.os, st.tape, st.output, st.size, hs ▸ st.lsize, st.frame, fun b pl hb hw => st.back b pl hb (by rw [hg b]; exact hw), fun b hb hn => ⟨(st.un b hb hn).1, by rw [← hg b]; exact (st.un b hb hn).2⟩⟩

/-- Where what is appended comes from. -/
theorem HR.src (hr : HR ν h w) {e : Nat} {x x' : Value} {m : Nat} {news : List Value} (hf : h.firstCells e x = some (m, news)) (hx : VR ν x x') (hone : oneCells news = true) {tx : TypeId}
  (hk : (∃ e', P.underlying tx = some (.slice e')) ∨ P.underlying tx = some .string) : ∃ news', VRs ν news news' ∧ Src P e tx x' m news' w ∧ news.length = m * e := by
 unfold LHeap.firstCells at hf
 split at hf
 ·cases hf
  cases hx
  exact ⟨[], .nil ν, ⟨hk, fun _ => rfl, run_firstCells_none w e 0 0 0, run_firstCells_none w.drew e 0 0 0, by simp, fun _ h => by cases h⟩, by simp⟩
 ·rename_i b k n E
  split at hf
  ·rename_i hE
   subst hE
   split at hf
   ·rename_i h0
    subst h0
    cases hf
    obtain ⟨a', cap, he, hn⟩ := hx.slice_inv
    cases a' with
    | none => simp at hn
    | some a' =>
     subst he
     exact ⟨[], .nil ν, ⟨hk, fun _ => rfl, run_firstCells_some w E 0 a' 0 cap [] (by simp) (by simp), run_firstCells_some w.drew E 0 a' 0 cap [] (by simp) (by simp), by simp, fun _ h => by cases h⟩, by simp⟩
   ·rename_i h0
    obtain ⟨vs, hvs, hh⟩ := map_some hf
    cases hh
    cases hx with
    | slice hb hle hfin =>
     rename_i cap pl
     obtain ⟨hl, vs', hvr, hcell⟩ := hr.loadCells hvs hb
     refine ⟨vs', hvr, ⟨hk, fun _ => rfl, ?_, ?_, by rw [← hvr.1, hl], hvr.oneCells hone⟩, hl⟩
     ·exact run_firstCells_some w E m _ m cap vs' (by rw [← hvr.1, hl]) (fun j x hj => by rw [add_plain]; exact hcell j x hj)
     ·exact run_firstCells_some w.drew E m _ m cap vs' (by rw [← hvr.1, hl]) (fun j x hj => by rw [add_plain]; have := hcell j x hj; simpa using this)
    | sempty => exact absurd rfl h0
  ·cases hf
 ·rename_i s
  split at hf
  ·rename_i he
   subst he
   cases hf
   rw [hx.str_inv]
   refine ⟨byteCells s, ?_, ⟨hk, fun _ => rfl, firstCells_string s w, firstCells_string s w.drew, by rw [byteCells_length, Nat.mul_one], byteCells_one s⟩, ?_⟩
   ·refine ⟨by simp [byteCells], ?_⟩
    intro i v v' h1 h2
    have : (byteCells s)[i]? = some v := h1
    rw [this] at h2
    cases h2
    simp only [List.getElem?_map, Option.map_eq_some_iff] at h1
    obtain ⟨b, _, rfl⟩ := h1
    exact .int _ _
   ·simp
  ·cases hf
 ·cases hf

theorem zeroLen {e : TypeId} {i : TypeInfo} (hi : P.info? e = some i) (hz : (zeroOf P e).map (·.length) = some i.size) : ∃ z, i.zero = some z ∧ z.cells.size = i.size := by
 obtain ⟨l, hl, hh⟩ := map_some hz
 obtain ⟨i2, u, hi2, hu, rfl, _⟩ := zeroOf_spec hl
 rw [hi] at hi2
 cases hi2
 exact ⟨u, hu, by simpa using hh⟩

theorem grownCap_need (w : World) (n c : Nat) (e : TypeId) : n ≤ grownCap w n c e := by
 simp [grownCap, Question.cut]

theorem size_zeroCells (z : Array Value) (n : Nat) : (Builtin.zeroCells z n).size = n * z.size := by simp [Builtin.zeroCells]

/-- A growing append, as the two heaps see it. -/
theorem grow_good (hr : HR ν h w) {olds olds' news news' : List Value} (h1 : VRs ν olds olds') (h2 : VRs ν news news') {n m E cap : Nat} {z : Array Value} {e : TypeId} (hol : olds.length = n * E) (hnl : news.length = m * E) (hz : z.size = E) (hcap : n + m ≤ cap) :
  ∃ ν', HR ν' (h.push (.cells (olds ++ news) true true)) (w.drew.alloc (.cells ((olds' ++ news').toArray ++ Builtin.zeroCells z (cap - (n + m))) e)) ∧
   Step ν h w ν' (h.push (.cells (olds ++ news) true true)) (w.drew.alloc (.cells ((olds' ++ news').toArray ++ Builtin.zeroCells z (cap - (n + m))) e)) ∧
   VR ν' (.slice (some ⟨h.size, 0, none⟩) (n + m) E) (.slice (some ⟨w.heap.size, 0, none⟩) (n + m) cap) := by
 have hvr := h1.append h2
 have hlen := hvr.1
 have hsz : ((olds' ++ news').toArray ++ Builtin.zeroCells z (cap - (n + m))).size = cap * E := by
  rw [Array.size_append, size_zeroCells, hz, List.size_toArray, ← hlen, List.length_append, hol, hnl, ← Nat.add_mul, ← Nat.add_mul]
  rw [show n + m + (cap - (n + m)) = cap by omega]
 have hd : HR ν h w.drew := hr.drew _
 have hal := hd.alloc (olds ++ news) ((olds' ++ news').toArray ++ Builtin.zeroCells z (cap - (n + m))) e (0, 0) (by
   rw [hsz, List.length_append, hol, hnl, ← Nat.add_mul]; exact Nat.mul_le_mul_right _ hcap)
  (fun j v hj => by
   obtain ⟨v', hv', hh⟩ := hvr.get hj
   refine ⟨v', ?_, hh⟩
   have hlt : j < (olds' ++ news').length := by
    rcases Nat.lt_or_ge j (olds' ++ news').length with q | q
    ·exact q
    ·rw [List.getElem?_eq_none q] at hv'; cases hv'
   rw [Array.getElem?_append_left (by simpa using hlt)]
   simpa using hv') (.inl rfl)
 refine ⟨_, hal.1, Step.trans (Step.drew _) hal.2, VR.slice (o := 0) (Inj.put_same ν h.size _) hcap ?_⟩
 simp only [hsz]
 omega

/-- The free cells at a block's end need not be its own. -/
theorem HR.trunc (hr : HR ν h w) {b : Nat} {pl0 : Place} {cs : List Value} (hb0 : ν b = some pl0) (hg : h.get b = some (.cells cs true true)) (j : Nat) :
  HR ν (h.set b (.cells (cs.take j) true true)) w ∧ Step ν h w ν (h.set b (.cells (cs.take j) true true)) w := by
 refine hr.of0 ⟨⟨hr.dom, fun c pl hc => ?_, fun c d pl ql hc hd hne hB => ?_, hr.real⟩, ⟨Inj.le_refl ν, rfl, rfl, rfl, Nat.le_refl _, Nat.le_refl _, fun _ _ _ => rfl, fun c pl hc hw _ => ⟨c, pl, hc, rfl, ?_⟩, fun c _ hn => ⟨hn, ?_⟩⟩⟩
 ·have ho := hr.obj c pl hc
  by_cases e : c = b
  ·subst e
   rw [hg] at ho
   simp only [LHeap.get_set, if_true]
   obtain ⟨c', e', fz, k1, k2, k3, k4, k5, k6⟩ := ho
   refine ⟨c', e', fz, k1, k2, by rw [List.length_take]; omega, k4, fun i v hi => k5 i v ?_, k6⟩
   rw [List.getElem?_take] at hi
   split at hi
   ·exact hi
   ·cases hi
  ·simp only [LHeap.get_set, e, if_false]; exact ho
 ·have hs := hr.sep c d pl ql hc hd hne hB
  by_cases e : c = b
  ·subst e
   simp only [LHeap.get_set, if_true, Ne.symm hne, if_false]
   rw [hg] at hs
   cases hgd : h.get d with
   | none => trivial
   | some ox => rw [hgd] at hs; cases ox <;> exact hs
  ·by_cases e2 : d = b
   ·subst e2
    simp only [LHeap.get_set, if_true, e, if_false]
    rw [hg] at hs
    cases hgc : h.get c with
    | none => trivial
    | some ox => rw [hgc] at hs; cases ox <;> exact hs
   ·simp only [LHeap.get_set, e, e2, if_false]; exact hs
 ·by_cases e : c = b
  ·subst e; rw [hg]; rfl
  ·simp only [LHeap.get_set, e, if_false] at hw; exact hw
 ·have e : c ≠ b := fun e => by rw [e, hb0] at hn; cases hn
  left; simp only [LHeap.get_set, e, if_false]

theorem good_append {args : Array Operand} {ts : Array TypeId} (ho : o.op = .call { callee := .builtin .append, args, argTypes := ts }) {l : List LO} {lo : LOp LO} {lv : LOp Value} (hl : LOp.listM cLO args.toList = some l)
  (hc : cBuiltin P .append ts l = some lo) (hs : lo.sub rd = some lv) (hx : lexec q lv h = some (v, h')) (hr : HR ν h w) (hv : OpsR ν o.op rd ρ) : Good P o ρ ν h w v h' := by
 rcases l with _ | ⟨x, _ | ⟨y, _ | ⟨z, l⟩⟩⟩
 ·simp [cBuiltin] at hc
 ·simp [cBuiltin] at hc
 ·obtain ⟨S, X, rfl, hS, hX⟩ := listM2 hl
  have hvS := hv S (by rw [ho]; simp [Op.operands, Call.operands]) x
  have hvX := hv X (by rw [ho]; simp [Op.operands, Call.operands]) y
  have hb : ∀ c, builtin .append ts o.type c (#[S, X].map ρ) = (do pure (.value (← Builtin.append_ ts o.type #[ρ S, ρ X]))) := fun c => by simp [builtin]
  have key : ∃ t tx e i, ts[0]? = some t ∧ ts[1]? = some tx ∧ P.underlying t = some (.slice e) ∧ P.info? e = some i ∧ i.size ≠ 0 ∧ (zeroOf P e).map (·.length) = some i.size ∧
    ((∃ e', P.underlying tx = some (.slice e')) ∨ P.underlying tx = some .string) ∧ lo = .append i.size i.bytes x y := by
   simp only [cBuiltin] at hc
   cases h0 : ts[0]? with
   | none => simp [h0] at hc
   | some t =>
    cases h1 : ts[1]? with
    | none => simp [h0, h1] at hc; split at hc <;> simp at hc
    | some tx =>
     rw [h0, h1] at hc
     simp only [Option.bind_some] at hc
     split at hc
     ·rename_i e hu
      split at hc
      ·rename_i i e' hi hk
       split at hc
       ·rename_i hcond
        cases hc
        exact ⟨t, tx, e, i, rfl, rfl, hu, hi, hcond.1, hcond.2, .inl ⟨_, hk⟩, rfl⟩
       ·cases hc
      ·rename_i i hi hk
       split at hc
       ·rename_i hcond
        cases hc
        exact ⟨t, tx, e, i, rfl, rfl, hu, hi, hcond.1, hcond.2, .inr hk, rfl⟩
       ·cases hc
      ·cases hc
     ·cases hc
  obtain ⟨t, tx, e, i, ht0, ht1, hu, hi, hpos, hzl, hk, rfl⟩ := key
  obtain ⟨zz, hiz, hzs⟩ := zeroLen hi hzl
  obtain ⟨s, xv, hs1, hs2, rfl⟩ := sub_append hs
  have hvs := hvS s hS hs1
  have hvx := hvX xv hX hs2
  have hts : ∀ ty vs, Builtin.append_ ts ty vs = Builtin.append_ #[t, tx] ty vs := fun ty vs => by
   unfold Builtin.append_
   simp [ht0, ht1]
  simp only [lexec] at hx
  split at hx
  ·-- onto nothing
   rename_i E m news hf
   split at hx
   ·rename_i hm
    subst hm
    simp only [Option.some.injEq, Prod.mk.injEq] at hx
    obtain ⟨rfl, rfl⟩ := hx
    have hnews : news = [] := by
     have := firstCells_len hf
     simpa using this
    subst hnews
    obtain ⟨news', hn1, hsrc, _⟩ := hr.src (P := P) hf hvx rfl hk
    have := hn1.nil_inv
    subst this
    have he : ρ S = .slice none 0 0 := by
     generalize ρ S = u at hvs ⊢
     cases hvs; rfl
    refine Good.pure hr (bi_run ho hb ?_) (.snil)
    rw [hts, he]
    exact run_append_nothing w t tx _ e i hu hi none 0 0 (Nat.le_refl _) _ hsrc
   ·rename_i hm
    split at hx
    ·rename_i hcond
     obtain ⟨hroom, hone⟩ := hcond
     simp only [roomOk, Bool.and_eq_true, decide_eq_true_eq] at hroom
     obtain ⟨hroom, hroom2⟩ := hroom
     simp only [Option.some.injEq, Prod.mk.injEq] at hx
     obtain ⟨rfl, rfl⟩ := hx
     obtain ⟨news', hn1, hsrc, hnl⟩ := hr.src (P := P) hf hvx hone hk
     have he : ρ S = .slice none 0 0 := by
      generalize ρ S = u at hvs ⊢
      cases hvs; rfl
     have hrun := run_append_grow_src (P := P) w t tx o.type e i zz hu hi hiz none 0 0 [] (run_firstCells_none w.drew i.size 0 0 0) (ρ X) m news' hsrc (by omega) (by omega) (growslice_fits (by omega) (by simpa using hroom))
     simp only [Nat.zero_add, List.nil_append] at hrun
     obtain ⟨ν', g1, g2, g3⟩ := grow_good (h := h) (e := e) hr (VRs.nil ν) hn1 (n := 0) (m := m) (E := i.size) (by simp) hnl hzs (cap := grownCap w m 0 e) (by rw [Nat.zero_add]; exact grownCap_need _ _ _ _)
     simp only [Nat.zero_add, List.nil_append] at g1 g2 g3
     refine ⟨ν', _, _, .inl (bi_run ho hb ?_), g3, g1, g2⟩
     rw [hts, he]
     exact hrun
    ·cases hx
  ·-- onto a slice
   rename_i b k n E m news hf
   split at hx
   ·rename_i hcond
    obtain ⟨hE, hone, hroom⟩ := hcond
    subst hE
    simp only [roomOk, Bool.and_eq_true, decide_eq_true_eq] at hroom
    obtain ⟨hroom, hroom2⟩ := hroom
    split at hx
    ·rename_i cs tip rw' hg
     have main : tip = true → k + n * i.size ≤ cs.length → m ≠ 0 → Good P o ρ ν h w (.slice (some ⟨h.size, 0, none⟩) (n + m) i.size) ((h.set b .dead).push (.cells ((cs.take (k + n * i.size)).drop k ++ news) true true)) := by
      intro htip hend hm
      subst htip
      generalize hLd : cs.take (k + n * i.size) = L
      have hLl : L.length = k + n * i.size := by rw [← hLd, List.length_take]; omega
      obtain ⟨news', hn1, hsrc, hnl⟩ := hr.src (P := P) hf hvx hone hk
      have grows : ∀ (a' : Addr) (cap : Nat) (olds' : List Value), ρ S = .slice (some a') n cap → cap < n + m → VRs ν (L.drop k) olds' → olds'.length = n * i.size →
        (∀ (j : Nat) u, olds'[j]? = some u → w.cell? (a'.add j) = some u) → Good P o ρ ν h w (.slice (some ⟨h.size, 0, none⟩) (n + m) i.size) ((h.set b .dead).push (.cells (L.drop k ++ news) true true)) := by
       intro a' cap olds' he hlt hvo hol hcell
       have hrun := run_append_grow_src (P := P) w t tx o.type e i zz hu hi hiz (some a') n cap olds' (run_firstCells_some w.drew i.size n a' n cap olds' hol (fun j u hj => by simpa using hcell j u hj)) (ρ X) m news' hsrc hlt (by omega) (growslice_fits hlt (by simpa using hroom))
       obtain ⟨k1, k2⟩ := hr.kill b
       obtain ⟨ν', g1, g2, g3⟩ := grow_good (e := e) k1 hvo hn1 (n := n) (m := m) (E := i.size) (by rw [hvo.1, hol]) hnl hzs (cap := grownCap w (n + m) cap e) (grownCap_need _ _ _ _)
       refine ⟨ν', _, _, .inl (bi_run ho hb ?_), g3, g1, k2.trans g2⟩
       rw [hts, he]
       exact hrun
      have hdl : (L.drop k).length = n * i.size := by simp; omega
      have hvs0 := hvs
      generalize hρ : ρ S = u at hvs
      cases hvs with
      | slice hbp hle hfin =>
       rename_i cap pl
       have htr : HR ν (h.set b (.cells L true true)) w ∧ Step ν h w ν (h.set b (.cells L true true)) w := by
        have hrw : rw' = true := (hr.cells hbp hg).choose_spec.choose_spec.choose_spec.2.2.2.1 rfl
        subst hrw
        rw [← hLd]; exact hr.trunc hbp hg _
       obtain ⟨t1, t2⟩ := htr
       have hg1 : (h.set b (.cells L true true)).get b = some (.cells L true true) := by simp
       by_cases hcap : n + m ≤ cap
       ·obtain ⟨c, ee, fz, c1, c2, c3, c4, c5, c6⟩ := t1.cells hbp hg1
        have hmul : (n + m) * i.size ≤ cap * i.size := Nat.mul_le_mul_right _ hcap
        rw [Nat.add_mul] at hmul
        have hfit : pl.base + L.length + news.length ≤ pl.fin := by omega
        have hn1l := hn1.1
        have hrun := run_append_room_src (P := P) w t tx o.type e i hu hi pl.B (pl.base + k) n cap (ρ X) m news' hsrc hcap (fun j hj => by
          rw [cell?_of_heap c1]; simp; omega) (fun j hj => frozen?_of_heap c1 ((c6 rfl).not _ (by omega)))
        rw [show pl.base + k + n * i.size = pl.base + L.length by omega] at hrun
        obtain ⟨g1, g2⟩ := t1.grow hbp hg1 hfit hn1
        obtain ⟨m1, m2⟩ := g1.move (o := k) (cs := L ++ news) hbp (by simp) (by rw [List.length_append]; omega)
        have hget : ∀ c, (((((h.set b (.cells L true true)).set b (.cells (L ++ news) true true)).set b .dead).push (.cells ((L ++ news).drop k) true true)).get c) = (((h.set b .dead).push (.cells (L.drop k ++ news) true true)).get c) := by
         intro c
         have hkl : k ≤ L.length := by omega
         simp only [LHeap.get_push, LHeap.get_set, LHeap.size_set]
         rw [List.drop_append_of_le_length hkl]
         split
         ·rfl
         ·split <;> rfl
        refine ⟨_, .slice (some ⟨pl.B, pl.base + k, none⟩) (n + m) cap, _, .inl (bi_run ho hb ?_), ?_, m1.congr hget rfl, ((t2.trans g2).trans m2).congr hget rfl⟩
        ·rw [hts]
         simp only [hρ]
         exact hrun
        ·refine VR.slice (o := 0) (Inj.put_same ν h.size _) hcap ?_
         simp only []
         omega
       ·have hvo : ∃ olds', VRs ν (L.drop k) olds' ∧ ∀ (j : Nat) u, olds'[j]? = some u → w.cell? ⟨pl.B, pl.base + k + j, none⟩ = some u := by
         have hld : (h.set b (.cells L true true)).loadCells b k (n * i.size) = some (L.drop k) := by
          unfold LHeap.loadCells
          rw [hg1]
          simp only
          rw [if_pos (by omega), List.take_of_length_le (by omega)]
         obtain ⟨_, olds', hvo, hcell⟩ := t1.loadCells hld hbp
         exact ⟨olds', hvo, hcell⟩
        obtain ⟨olds', hvo, hcell⟩ := hvo
        exact grows _ cap olds' hρ (by omega) hvo (by rw [← hvo.1, hdl]) (fun j u hj => by rw [add_plain]; exact hcell j u hj)
      | sempty =>
       rename_i a'
       have : L.drop k = [] := List.eq_nil_of_length_eq_zero (by simpa using hdl)
       exact grows a' 0 [] hρ (by omega) (by rw [this]; exact .nil ν) (by simp) (by simp)
     split at hx
     ·rename_i htip
      split at hx
      ·rename_i hm
       subst hm
       have hnews : news = [] := by
        have := firstCells_len hf
        simpa using this
       subst hnews
       simp only [Option.some.injEq, Prod.mk.injEq] at hx
       obtain ⟨rfl, rfl⟩ := hx
       obtain ⟨news', hn1, hsrc, _⟩ := hr.src (P := P) hf hvx rfl hk
       have := hn1.nil_inv
       subst this
       have hcapx : ∃ a' cap, ρ S = .slice (some a') n cap ∧ n ≤ cap := by
        generalize ρ S = u at hvs ⊢
        cases hvs with
        | slice _ hle _ => exact ⟨_, _, rfl, hle⟩
        | sempty => exact ⟨_, _, rfl, Nat.le_refl _⟩
       obtain ⟨a', cap, he, hle⟩ := hcapx
       refine Good.pure hr (bi_run ho hb ?_) hvs
       rw [hts, he]
       exact run_append_nothing w t tx _ e i hu hi (some a') n cap hle _ hsrc
      ·rename_i hm
       simp only [Option.some.injEq, Prod.mk.injEq] at hx
       obtain ⟨rfl, rfl⟩ := hx
       obtain ⟨htip, hend⟩ := htip.resolve_right hm
       have := main htip (by omega) hm
       rwa [List.take_of_length_le (by omega)] at this
     ·rename_i hno
      split at hx
      ·rename_i htip
       simp only [Option.some.injEq, Prod.mk.injEq] at hx
       obtain ⟨rfl, rfl⟩ := hx
       exact main htip.1 htip.2 (fun hm => hno (.inr hm))
      ·cases hx
    ·cases hx
   ·cases hx
  ·cases hx
 ·simp [cBuiltin] at hc

end
end Go.E1

/-
 Copying; the least and the greatest; all operations together.
-/
namespace Go.E1
open Go

section
variable {P : Program} {q : EqF} {o : Oper} {ρ : Operand → Value} {ν : Inj} {h h' : LHeap} {w : World} {v : Value} {rd : LO → Option Value}

theorem good_copy {args : Array Operand} {ts : Array TypeId} (ho : o.op = .call { callee := .builtin .copy, args, argTypes := ts }) {l : List LO} {lo : LOp LO} {lv : LOp Value} (hl : LOp.listM cLO args.toList = some l)
  (hc : cBuiltin P .copy ts l = some lo) (hs : lo.sub rd = some lv) (hx : lexec q lv h = some (v, h')) (hr : HR ν h w) (hv : OpsR ν o.op rd ρ) : Good P o ρ ν h w v h' := by
 rcases l with _ | ⟨x, _ | ⟨y, _ | ⟨z, l⟩⟩⟩
 ·simp [cBuiltin] at hc
 ·simp [cBuiltin] at hc
 ·obtain ⟨D, S, rfl, hD, hS⟩ := listM2 hl
  have hvD := hv D (by rw [ho]; simp [Op.operands, Call.operands]) x
  have hvS := hv S (by rw [ho]; simp [Op.operands, Call.operands]) y
  have hb : ∀ c, builtin .copy ts o.type c (#[D, S].map ρ) = (do pure (.value (← Builtin.copy_ ts o.type #[ρ D, ρ S]))) := fun c => by simp [builtin]
  have key : ∃ t e n, ts[0]? = some t ∧ P.underlying t = some (.slice e) ∧ sizeP P e = some n ∧ n ≠ 0 ∧ lo = .copy n x y := by
   simp only [cBuiltin] at hc
   cases h0 : ts[0]? with
   | none => simp [h0] at hc
   | some t =>
    rw [h0] at hc
    simp only [Option.bind_some] at hc
    split at hc
    ·rename_i e hu
     split at hc
     ·rename_i n hn
      split at hc
      ·cases hc
      ·rename_i hn0
       cases hc
       exact ⟨t, e, n, rfl, hu, hn, hn0, rfl⟩
     ·cases hc
    ·cases hc
  obtain ⟨t, e, n, ht0, hu, hn, hn0, rfl⟩ := key
  obtain ⟨i, hi, rfl⟩ := sizeP_spec hn
  obtain ⟨d, s, hs1, hs2, rfl⟩ := sub_copy hs
  have hvd := hvD d hD hs1
  have hvs := hvS s hS hs2
  simp only [lexec] at hx
  have hlen : ∀ {m : Nat} {cs : List Value}, h.firstCells i.size s = some (m, cs) → (Builtin.lenOf (ρ S)).run P w = .ok m w := by
   intro m cs hf
   unfold LHeap.firstCells at hf
   split at hf
   ·cases hf
    generalize ρ S = u at hvs ⊢
    cases hvs; rfl
   ·rename_i b0 k0 n0 E0
    split at hf
    ·have hm : m = n0 := by
      split at hf
      ·rename_i h0; cases hf; exact h0.symm
      ·obtain ⟨_, _, hh⟩ := map_some hf; cases hh; rfl
     subst hm
     obtain ⟨p, c, he, _⟩ := hvs.slice_inv
     rw [he]; rfl
    ·cases hf
   ·split at hf
    ·cases hf; rw [hvs.str_inv]; rfl
    ·cases hf
   ·cases hf
  have hfirst0 : (Builtin.firstCells i.size 0 (ρ S)).run P w = .ok #[] w := by
   have : ∃ r, h.firstCells i.size s = some r := by
    cases hf : h.firstCells i.size s with
    | some r => exact ⟨r, rfl⟩
    | none =>
     rw [hf] at hx
     split at hx
     ·rename_i hh; cases hh
     ·rename_i hh; cases hh
     ·cases hx
   obtain ⟨⟨m, cs⟩, hf⟩ := this
   unfold LHeap.firstCells at hf
   split at hf
   ·have : ρ S = .slice none 0 0 := by
     generalize ρ S = u at hvs ⊢
     cases hvs; rfl
    rw [this]
    exact run_firstCells_none w i.size 0 0 0
   ·obtain ⟨p, c, he, hp⟩ := hvs.slice_inv
    rw [he]
    cases p with
    | none => simp at hp
    | some p => exact run_firstCells_some w i.size 0 p _ c [] (by simp) (by simp)
   ·rw [hvs.str_inv]
    simp [Builtin.firstCells]
   ·cases hf
  split at hx
  ·rename_i E r hf
   obtain ⟨m, cs⟩ := r
   simp only [Option.some.injEq, Prod.mk.injEq] at hx
   obtain ⟨rfl, rfl⟩ := hx
   have he : ρ D = .slice none 0 0 := by
    generalize ρ D = u at hvd ⊢
    cases hvd; rfl
   refine Good.pure hr (bi_run ho hb ?_) (.int _ _)
   simp [Builtin.copy_, ht0, run_underlying hu, he, hlen hf, sizeOf, typeInfo, hi, hfirst0, goInt]
  ·rename_i b k dn E m cs hf
   split at hx
   ·rename_i hE
    subst hE
    split at hx
    ·rename_i hmin
     simp only [Option.some.injEq, Prod.mk.injEq] at hx
     obtain ⟨rfl, rfl⟩ := hx
     obtain ⟨p, c, he, hp⟩ := hvd.slice_inv
     cases p with
     | none => simp at hp
     | some p =>
      refine Good.pure hr (bi_run ho hb ?_) (.int _ _)
      have hmin' : Nat.min m dn = 0 := hmin
      simp [Builtin.copy_, ht0, run_underlying hu, he, hlen hf, sizeOf, typeInfo, hi, hmin', hfirst0, goInt, Go.storeCells]
    ·rename_i hmin
     obtain ⟨h2, hst, hx⟩ := map_some hx
     simp only [Prod.mk.injEq] at hx
     obtain ⟨rfl, rfl⟩ := hx
     have hDx : ∃ pl cap, ν b = some pl ∧ ρ D = .slice (some ⟨pl.B, pl.base + k, none⟩) dn cap := by
      generalize ρ D = u at hvd ⊢
      cases hvd with
      | slice hb _ _ => exact ⟨_, _, hb, rfl⟩
      | sempty => exact absurd (Nat.min_zero m) hmin
     obtain ⟨pl, cap, hbp, he⟩ := hDx
     have hcl := firstCells_len hf
     have hmm : min m dn ≤ m := Nat.min_le_left _ _
     -- the source's first cells, really
     have hsrc : ∃ cs', VRs ν cs cs' ∧ (Builtin.firstCells i.size (min m dn) (ρ S)).run P w = .ok (cs'.take (min m dn * i.size)).toArray w := by
      unfold LHeap.firstCells at hf
      split at hf
      ·cases hf; exact absurd (Nat.zero_min dn) hmin
      ·rename_i b2 k2 sn E2
       split at hf
       ·rename_i hE2
        subst hE2
        split at hf
        ·cases hf; exact absurd (Nat.zero_min dn) hmin
        ·obtain ⟨vs, hvs', hh⟩ := map_some hf
         cases hh
         generalize ρ S = u at hvs ⊢
         cases hvs with
         | slice hb2 hle hfin =>
          rename_i cap2 pl2
          obtain ⟨hl, cs', hvr, hcell⟩ := hr.loadCells hvs' hb2
          refine ⟨cs', hvr, ?_⟩
          have hmul : min m dn * i.size ≤ m * i.size := Nat.mul_le_mul_right _ hmm
          refine run_firstCells_some w i.size (min m dn) _ m cap2 _ ?_ ?_
          ·rw [List.length_take, ← hvr.1, hl]; omega
          ·intro j u hj
           rw [List.getElem?_take] at hj
           split at hj
           ·rw [add_plain]; exact hcell j u hj
           ·cases hj
         | sempty => exact absurd (Nat.zero_min dn) hmin
       ·cases hf
      ·rename_i str
       split at hf
       ·rename_i h1
        cases hf
        rw [hvs.str_inv]
        refine ⟨byteCells str, ?_, ?_⟩
        ·refine ⟨by simp [byteCells], ?_⟩
         intro i v v' h1 h2
         have : (byteCells str)[i]? = some v := h1
         rw [this] at h2
         cases h2
         simp only [List.getElem?_map, Option.map_eq_some_iff] at h1
         obtain ⟨b, _, rfl⟩ := h1
         exact .int _ _
        ·rw [h1]
         simp only [Builtin.firstCells, Nat.mul_one, Sem.run_pure]
         congr 1
         apply Array.ext'
         simp [byteCells]
       ·cases hf
      ·cases hf
     obtain ⟨cs', hvr, hfst⟩ := hsrc
     obtain ⟨hrun, hh, hstep⟩ := hr.storeCells hbp hst (hvr.take (min m dn * i.size)) P
     refine ⟨ν, _, _, .inl (bi_run ho hb ?_), .int _ _, hh, hstep⟩
     have hfst' : (Builtin.firstCells i.size (Nat.min m dn) (ρ S)).run P w = .ok (cs'.take (min m dn * i.size)).toArray w := hfst
     have hrun' : (Go.storeCells ⟨pl.B, pl.base + k, none⟩ (cs'.take (min m dn * i.size))).run P w = .ok () (w.setCells pl.B (pl.base + k) (cs'.take (min m dn * i.size))) := hrun
     simp [Builtin.copy_, ht0, run_underlying hu, he, hlen hf, sizeOf, typeInfo, hi, hfst', hrun', goInt]
   ·cases hx
  ·cases hx
 ·simp [cBuiltin] at hc

end
end Go.E1

/-
 Maps whose keys are whole numbers: looked up, written, struck.
-/
namespace Go.E1
open Go

/-- A map's entries become others. -/
theorem HR.putMap {ν : Inj} {h : LHeap} {w : World} (hr : HR ν h w) {r : Nat} {pl : Place} {es es' : List (Value × Value)} {ents' : Array MapEntry} {clock' : Nat} (hb : ν r = some pl) (hg : h.get r = some (.map es)) (hM : MapR ν es' ents') (hS : MapKept.Stamped ents' clock') :
  HR ν (h.set r (.map es')) (wput w pl.B (.map ents' clock')) ∧ Step ν h w ν (h.set r (.map es')) (wput w pl.B (.map ents' clock')) := by
 have hreal := hr.real r pl hb
 have ho := hr.obj r pl hb
 rw [hg] at ho
 obtain ⟨ents, clock, h1, h2⟩ := ho
 refine hr.of0 ?_
 refine ⟨⟨hr.dom, ?_, ?_, ?_⟩, ⟨Inj.le_refl ν, rfl, rfl, rfl, by simp [wput], by simp, ?_, ?_, fun x _ hn => ⟨hn, .inl (by rw [LHeap.get_set, if_neg (fun e => by rw [e, hb] at hn; cases hn)])⟩⟩⟩
 ·intro x ql hx
  by_cases ex : x = r
  ·subst ex
   rw [hb] at hx
   cases hx
   simp only [LHeap.get_set, if_pos]
   exact ⟨ents', clock', wput_same hreal, hM, hS⟩
  ·simp only [LHeap.get_set, ex, if_false]
   by_cases hB : ql.B = pl.B
   ·have hox := hr.obj x ql hx
    cases hgx : h.get x with
    | none => trivial
    | some ox =>
     rw [hgx] at hox
     cases ox with
     | dead => trivial
     | map es2 =>
      have := hr.sep r x pl ql hb hx (Ne.symm ex) hB.symm
      rw [hg, hgx] at this
      exact this.elim
     | cells ds t rw' =>
      obtain ⟨c', e', fz', k1, _⟩ := hox
      rw [hB, h1] at k1
      cases k1
   ·exact (hr.obj x ql hx).mono (Inj.le_refl ν) (wput_other hB)
 ·intro x y pl' ql' hx hy hne hB
  have hs := hr.sep x y pl' ql' hx hy hne hB
  by_cases ex : x = r
  ·subst ex
   have ey : y ≠ x := Ne.symm hne
   simp only [LHeap.get_set, if_pos, ey, if_false]
   rw [hg] at hs
   cases hgy : h.get y with
   | none => trivial
   | some oy =>
    rw [hgy] at hs
    cases oy with
    | dead => trivial
    | map es => exact hs
    | cells ds t r => trivial
  ·by_cases ey : y = r
   ·subst ey
    simp only [LHeap.get_set, if_pos, ex, if_false]
    rw [hg] at hs
    cases hgx : h.get x with
    | none => trivial
    | some ox =>
     rw [hgx] at hs
     cases ox with
     | dead => trivial
     | map es => exact hs
     | cells ds t r => trivial
   ·simp only [LHeap.get_set, ex, ey, if_false]
    exact hs
 ·intro x ql hx
  have := hr.real x ql hx
  simpa [wput] using this
 ·intro B hB hno
  by_cases eB : B = pl.B
  ·have := hno r pl hb eB.symm
   rw [hg] at this
   simp [LObj.writable] at this
  ·exact wput_other eB
 ·intro x ql hx hwr _
  by_cases ex : x = r
  ·subst ex; exact ⟨x, ql, hx, rfl, by rw [hg]; rfl⟩
  ·simp only [LHeap.get_set, ex, if_false] at hwr
   exact ⟨x, ql, hx, rfl, hwr⟩

section
variable {P : Program} {q : EqF} {o : Oper} {ρ : Operand → Value} {ν : Inj} {h h' : LHeap} {w : World} {v : Value} {rd : LO → Option Value}

/-- Entries one by one. -/
def EntR (ν : Inj) (es : List (Value × Value)) (L : List MapEntry) : Prop := es.length = L.length ∧ ∀ (i : Nat) (e : Value × Value) (e' : MapEntry), es[i]? = some e → L[i]? = some e' → VR ν e.1 e'.key ∧ VR ν e.2 e'.val
theorem MapR.ent {es : List (Value × Value)} {ents : Array MapEntry} (h : MapR ν es ents) : EntR ν es ents.toList := ⟨by simpa using h.1, fun i e e' a b => h.2 i e e' a (by simpa using b)⟩
theorem EntR.map {es : List (Value × Value)} {ents : Array MapEntry} (h : EntR ν es ents.toList) : MapR ν es ents := ⟨by simpa using h.1, fun i e e' a b => h.2 i e e' a (by simpa using b)⟩
theorem EntR.tail {e : Value × Value} {es : List (Value × Value)} {e' : MapEntry} {L : List MapEntry} (h : EntR ν (e :: es) (e' :: L)) : EntR ν es L := ⟨by simpa using h.1, fun i a b p q => h.2 (i + 1) a b (by simpa using p) (by simpa using q)⟩

theorem find_spec {k0 k : IntKind} {n : Int} : ∀ {es : List (Value × Value)} {L : List MapEntry} (i0 : Nat) {r : Option Value}, EntR ν es L → mfind k n es = some r →
  (r = none ∧ Instr.findNow (.int k0) (.int k n) L i0 = some none ∧ (∀ u, mput k n u es = es ++ [(.int k n, u)]) ∧ mdel n es = es ∧ ∀ x ∈ L, x.key ≠ .int k n) ∨
  (∃ j u u' e', r = some u ∧ Instr.findNow (.int k0) (.int k n) L i0 = some (some (i0 + j, u')) ∧ VR ν u u' ∧ L[j]? = some e' ∧ e'.key = .int k n ∧ (∀ x, mput k n x es = es.set j (.int k n, x)) ∧ mdel n es = es.eraseIdx j)
 | [], [], i0, r, _, hf => by
  simp only [mfind, Option.some.injEq] at hf
  exact .inl ⟨hf.symm, rfl, fun _ => rfl, rfl, by simp⟩
 | [], _ :: _, _, _, hR, _ => by have := hR.1; simp at this
 | _ :: _, [], _, _, hR, _ => by have := hR.1; simp at this
 | e :: es, e' :: L, i0, r, hR, hf => by
  obtain ⟨key, val⟩ := e
  obtain ⟨hk, hv⟩ := hR.2 0 (key, val) e' rfl rfl
  cases key with
  | int k' m =>
   simp only at hk hv
   have hk' := hk.int_inv
   simp only [mfind] at hf
   split at hf
   ·rename_i hkk
    subst hkk
    split at hf
    ·rename_i hnm
     subst hnm
     cases hf
     refine .inr ⟨0, val, e'.val, e', rfl, ?_, hv, rfl, hk', fun x => ?_, ?_⟩
     ·simp [Instr.findNow, Instr.sameNow, hk']
     ·simp [mput]
     ·simp [mdel]
    ·rename_i hnm
     have hs : Instr.sameNow (.int k0) (.int k n) e'.key = some false := by simp [Instr.sameNow, hk', hnm]
     rcases find_spec (k0 := k0) (i0 + 1) hR.tail hf with ⟨h1, h2, h3, h4, hno⟩ | ⟨j, u, u', e'', h1, h2, h3, h4, h5, h6, h7⟩
     ·refine .inl ⟨h1, by simp [Instr.findNow, hs, h2], fun u => ?_, ?_, ?_⟩
      ·simp [mput, hnm, h3]
      ·simp [mdel, hnm, h4]
      ·intro x hx
       rcases List.mem_cons.1 hx with rfl | hx
       ·rw [hk']; simp only [ne_eq, Value.int.injEq, not_and]; intro _ e; exact hnm e.symm
       ·exact hno x hx
     ·refine .inr ⟨j + 1, u, u', e'', h1, ?_, h3, by simpa using h4, h5, fun x => ?_, ?_⟩
      ·simp only [Instr.findNow, hs, h2]
       congr 3
       omega
      ·simp [mput, hnm, h6]
      ·simp [mdel, hnm, h7]
   ·cases hf
  | _ => simp [mfind] at hf

theorem run_findKeyI {kt : TypeId} {k0 k : IntKind} {n : Int} {L : List MapEntry} {r : Option (Nat × Value)} (hu : P.underlying kt = some (.int k0)) (h : Instr.findNow (.int k0) (.int k n) L 0 = some r) (w : World) : (Instr.findKey kt (.int k n) L).run P w = .ok r w := by
 simp [Instr.findKey, run_underlying hu, h]
theorem run_checkKeyI {kt : TypeId} {k0 k : IntKind} {n : Int} (hu : P.underlying kt = some (.int k0)) (b : Bool) (w : World) : (Instr.checkKey b 10000 kt (.int k n)).run P w = .ok () w := by
 have e : ∀ m, (Instr.checkKey b (m + 1) kt (.int k n)).run P w = .ok () w := fun m => by simp [Instr.checkKey, run_underlying hu]
 exact e 9999
theorem run_getMap {r : Nat} {ents : Array MapEntry} {clock : Nat} {w : World} (h : w.heap[r]? = some (.map ents clock)) : (getObj r).run P w = .ok (.map ents clock) w := by
 simp [getObj, Sem.run, h]
theorem run_setMap {r : Nat} {ents : Array MapEntry} {clock : Nat} {w : World} (h : w.heap[r]? = some (.map ents clock)) (o' : Obj) : (setObj r o').run P w = .ok () (wput w r o') := by
 simp [setObj, Sem.run, h, wput]
theorem zeroV_spec {t : TypeId} {z : Value} (hz : zeroV P t = some z) : ∃ i, P.info? t = some i ∧ i.zero = some z ∧ plain z = true := by
 unfold zeroV at hz
 split at hz
 ·rename_i u hu
  split at hz
  ·rename_i ha
   cases hz
   cases hi : P.info? t with
   | none => simp [hi] at hu
   | some i => simp [hi] at hu; exact ⟨i, rfl, hu, ha⟩
  ·cases hz
 ·cases hz
mutual
theorem plain_VR0 (ν : Inj) : ∀ (v : Value), plain v = true → VR ν v v
 | .bool _, _ => .bool _
 | .int _ _, _ => .int _ _
 | .string _, _ => .string _
 | .pointer none, _ => .pnil
 | .slice none 0 0, _ => .snil
 | .map none, _ => .mnil
 | .nilFunc, _ => .fnil
 | .nilIface, _ => .inil
 | .agg ⟨a⟩, hp => (plains_VR0 ν a (by simpa [plain] using hp)).agg
 | .tuple ⟨a⟩, hp => (plains_VR0 ν a (by simpa [plain] using hp)).tuple
 | .iface _ v, hp => .iface (plain_VR0 ν v (by simpa [plain] using hp))
 | .pointer (some _), hp => by simp [plain] at hp
 | .slice (some _) _ _, hp => by simp [plain] at hp
 | .slice none (_ + 1) _, hp => by simp [plain] at hp
 | .slice none 0 (_ + 1), hp => by simp [plain] at hp
 | .map (some _), hp => by simp [plain] at hp
 | .func _ _ _, hp => by simp [plain] at hp
 | .float _ _, hp => by simp [plain] at hp
 | .complex _ _ _, hp => by simp [plain] at hp
 | .chan _, hp => by simp [plain] at hp
theorem plains_VR0 (ν : Inj) : ∀ (l : List Value), plains l = true → VRs ν l l
 | [], _ => .nil ν
 | v :: l, hp => by
  simp only [plains, Bool.and_eq_true] at hp
  exact .cons (plain_VR0 ν v hp.1) (plains_VR0 ν l hp.2)
end

theorem mres_VR {v v' : Value} (hv : VR ν v v') (ok b : Bool) : VR ν (mres ok v b) (if ok then .tuple #[v', .bool b] else v') := by
 cases ok with
 | false => exact hv
 | true => exact VRs.tuple (c := #[v, .bool b]) (c' := #[v', .bool b]) (.cons hv (.cons (.bool b) (.nil ν)))

theorem good_mapGet {t : TypeId} {M K : Operand} {ok : Bool} (ho : o.op = .lookup t M K ok) {lo : LOp LO} {lv : LOp Value} (hc : cOp P (.lookup t M K ok) = some lo) (hs : lo.sub rd = some lv) (hx : lexec q lv h = some (v, h'))
  (hr : HR ν h w) (hv : OpsR ν (.lookup t M K ok) rd ρ) : Good P o ρ ν h w v h' := by
 simp only [cOp] at hc
 split at hc
 ·rename_i kt e hu
  split at hc
  ·rename_i k0 z m k hk hz hm hkk
   cases hc
   have hvm := hv M (by simp [Op.operands]) m
   have hvk := hv K (by simp [Op.operands]) k
   simp only [LOp.sub] at hs
   split at hs
   ·rename_i mv kv hmv hkv
    cases hs
    have vm := hvm mv hm hmv
    have vk := hvk kv hkk hkv
    obtain ⟨i, hi, hiz, hpz⟩ := zeroV_spec hz
    have vz := plain_VR0 ν z hpz
    simp only [lexec] at hx
    split at hx
    ·rename_i k n
     cases hx
     have ek := vk.int_inv
     have em : ρ M = .map none := by
      generalize ρ M = u at vm ⊢
      cases vm; rfl
     refine Good.pure hr (v' := if ok then .tuple #[z, .bool false] else z) ?_ (mres_VR vz ok false)
     have hcheck := run_checkKeyI (P := P) (kt := kt) (k := k) (n := n) hk true w
     have hfind := run_findKeyI (P := P) (kt := kt) (k := k) (n := n) (L := []) (r := none) hk rfl w
     simp [execOp, ho, em, ek, Instr.lookup, run_underlying hu, hcheck, hfind, run_zeroValue hi hiz]
    ·rename_i r k n
     split at hx
     ·rename_i es hg
      have ek := vk.int_inv
      obtain ⟨pl, hpl, em⟩ : ∃ pl, ν r = some pl ∧ ρ M = .map (some pl.B) := by
       generalize ρ M = u at vm ⊢
       cases vm with
       | map hp => exact ⟨_, hp, rfl⟩
      have hob := hr.obj r pl hpl
      rw [hg] at hob
      obtain ⟨ents, clock, g1, g2, gs⟩ := hob
      have hcheck := run_checkKeyI (P := P) (kt := kt) (k := k) (n := n) hk ents.isEmpty w
      split at hx
      ·rename_i u hf
       cases hx
       rcases find_spec (k0 := k0) 0 g2.ent hf with ⟨h1, _⟩ | ⟨j, u2, u', e', h1, h2, h3, _⟩
       ·cases h1
       ·cases h1
        refine Good.pure hr (v' := if ok then .tuple #[u', .bool true] else u') ?_ (mres_VR h3 ok true)
        have hfind := run_findKeyI hk h2 w
        simp [execOp, ho, em, ek, Instr.lookup, run_underlying hu, run_getMap g1, hcheck, hfind]
      ·rename_i hf
       cases hx
       rcases find_spec (k0 := k0) 0 g2.ent hf with ⟨_, h2, _⟩ | ⟨j, u2, u', e', h1, _⟩
       ·refine Good.pure hr (v' := if ok then .tuple #[z, .bool false] else z) ?_ (mres_VR vz ok false)
        have hfind := run_findKeyI hk h2 w
        simp [execOp, ho, em, ek, Instr.lookup, run_underlying hu, run_getMap g1, hcheck, hfind, run_zeroValue hi hiz]
       ·cases h1
      ·cases hx
     ·cases hx
    ·cases hx
   ·cases hs
  ·cases hc
 ·cases hc

theorem good_mapSet {t : TypeId} {M K U : Operand} (ho : o.op = .mapUpdate t M K U) {lo : LOp LO} {lv : LOp Value} (hc : cOp P (.mapUpdate t M K U) = some lo) (hs : lo.sub rd = some lv) (hx : lexec q lv h = some (v, h'))
  (hr : HR ν h w) (hv : OpsR ν (.mapUpdate t M K U) rd ρ) : Good P o ρ ν h w v h' := by
 simp only [cOp] at hc
 split at hc
 ·rename_i kt e hu
  split at hc
  ·rename_i k0 m k u hk hm hkk huu
   cases hc
   have hvm := hv M (by simp [Op.operands]) m
   have hvk := hv K (by simp [Op.operands]) k
   have hvu := hv U (by simp [Op.operands]) u
   simp only [LOp.sub] at hs
   split at hs
   ·rename_i mv kv uv hmv hkv huv
    cases hs
    have vm := hvm mv hm hmv
    have vk := hvk kv hkk hkv
    have vu := hvu uv huu huv
    simp only [lexec] at hx
    split at hx
    ·rename_i r k n
     split at hx
     ·rename_i es hg
      have ek := vk.int_inv
      obtain ⟨pl, hpl, em⟩ : ∃ pl, ν r = some pl ∧ ρ M = .map (some pl.B) := by
       generalize ρ M = u at vm ⊢
       cases vm with
       | map hp => exact ⟨_, hp, rfl⟩
      have hob := hr.obj r pl hpl
      rw [hg] at hob
      obtain ⟨ents, clock, g1, g2, gs⟩ := hob
      have hcheck := run_checkKeyI (P := P) (kt := kt) (k := k) (n := n) hk false w
      have ge := g2.ent
      split at hx
      ·rename_i fr hf
       cases hx
       rcases find_spec (k0 := k0) 0 ge hf with ⟨_, h2, h3, _, hno⟩ | ⟨j, u2, u', e', h1, h2, _, h4, h5, h6, _⟩
       ·have hfind := run_findKeyI hk h2 w
        have hM : MapR ν (mput k n uv es) (ents.push { key := .int k n, val := ρ U, born := clock }) := by
         rw [h3]
         refine EntR.map ⟨by have := ge.1; simp at this ⊢; omega, fun i a b ha hb => ?_⟩
         rw [Array.toList_push] at hb
         by_cases hi : i < es.length
         ·rw [List.getElem?_append_left hi] at ha
          rw [List.getElem?_append_left (by have := ge.1; omega)] at hb
          exact ge.2 i a b ha hb
         ·rw [List.getElem?_append_right (by omega)] at ha
          rw [List.getElem?_append_right (by have := ge.1; omega)] at hb
          have hl := ge.1
          cases hj : i - es.length with
          | zero =>
           rw [hj] at ha
           rw [show i - ents.toList.length = 0 by omega] at hb
           cases ha; cases hb
           exact ⟨.int k n, vu⟩
          | succ j => rw [hj] at ha; simp at ha
        obtain ⟨H1, H2⟩ := hr.putMap (clock' := clock + 1) hpl hg hM (MapKept.stamped_push gs hno)
        refine ⟨ν, undef, _, .inr ⟨?_, rfl⟩, VRs.tuple (c := #[]) (c' := #[]) (.nil ν), H1, H2⟩
        simp [execOp, ho, em, ek, Instr.mapUpdate, run_underlying hu, run_getMap g1, hcheck, hfind, run_setMap g1]
       ·have hfind := run_findKeyI hk h2 w
        simp only [Nat.zero_add] at hfind
        have h4' : ents[j]? = some e' := by simpa using h4
        have hM : MapR ν (mput k n uv es) (ents.modify j fun e => { e with key := .int k n, val := ρ U }) := by
         rw [h6]
         refine EntR.map ⟨by have := ge.1; simp at this ⊢; omega, fun i a b ha hb => ?_⟩
         rw [Array.getElem?_toList, Array.getElem?_modify] at hb
         rw [List.getElem?_set] at ha
         by_cases hij : j = i
         ·subst hij
          rw [if_pos rfl] at ha hb
          split at ha
          ·cases ha
           rw [h4'] at hb
           cases hb
           exact ⟨.int k n, vu⟩
          ·cases ha
         ·rw [if_neg hij] at ha hb
          exact ge.2 i a b ha (by simpa using hb)
        obtain ⟨H1, H2⟩ := hr.putMap (clock' := clock) hpl hg hM (MapKept.stamped_modify gs j _ (fun _ _ => rfl) (fun x _ hx => by rw [h4'] at hx; cases hx; exact h5.symm))
        refine ⟨ν, undef, _, .inr ⟨?_, rfl⟩, VRs.tuple (c := #[]) (c' := #[]) (.nil ν), H1, H2⟩
        have hstay : ∀ w, (Instr.keyThatStays (.int k n) (.int k n)).run P w = .ok (.int k n) w := fun w => by simp [Instr.keyThatStays, Instr.sameBits]
        simp [execOp, ho, em, ek, Instr.mapUpdate, run_underlying hu, run_getMap g1, hcheck, hfind, h4', h5, hstay, run_setMap g1]
      ·cases hx
     ·cases hx
    ·cases hx
   ·cases hs
  ·cases hc
 ·cases hc

theorem good_clearS {args : Array Operand} {ts : Array TypeId} (ho : o.op = .call { callee := .builtin .clear, args, argTypes := ts }) {l : List LO} {lo : LOp LO} {lv : LOp Value} (hl : LOp.listM cLO args.toList = some l)
  (hc : cBuiltin P .clear ts l = some lo) (hs : lo.sub rd = some lv) (hx : lexec q lv h = some (v, h')) (hr : HR ν h w) (hv : OpsR ν o.op rd ρ) : Good P o ρ ν h w v h' := by
 rcases l with _ | ⟨x, _ | ⟨y, l⟩⟩
 ·simp [cBuiltin] at hc
 ·obtain ⟨X, rfl, hX⟩ := listM1 hl
  have hvX := hv X (by rw [ho]; simp [Op.operands, Call.operands]) x
  have hb : ∀ c, builtin .clear ts o.type c (#[X].map ρ) = (do pure (.value (← Builtin.clear_ ts o.type #[ρ X]))) := fun c => by simp [builtin]
  obtain ⟨t, e, i, z, ht0, hu, hi, hz, hzl, hpos, rfl⟩ : ∃ t e i z, ts[0]? = some t ∧ P.underlying t = some (.slice e) ∧ P.info? e = some i ∧ zeroOf P e = some z ∧ z.length = i.size ∧ i.size ≠ 0 ∧ lo = .clearS z x := by
   simp only [cBuiltin] at hc
   cases h0 : ts[0]? with
   | none => simp [h0] at hc
   | some t =>
    rw [h0] at hc
    simp only [Option.bind_some] at hc
    split at hc
    ·rename_i e hu
     split at hc
     ·rename_i i z hi hz
      split at hc
      ·rename_i hcond
       cases hc
       exact ⟨t, e, i, z, rfl, hu, hi, hz, hcond.1, hcond.2, rfl⟩
      ·cases hc
     ·cases hc
    ·cases hc
  obtain ⟨xv, hxv, rfl⟩ := rd1 hs
  have vx := hvX xv hX hxv
  obtain ⟨i2, u, hi2, hiu, rfl, hall⟩ := zeroOf_spec hz
  rw [hi] at hi2
  cases hi2
  have unit : ∀ (k : Nat) (a' : Option Addr) cap, ρ X = .slice a' 0 cap → (Builtin.clear_ ts o.type #[ρ X]).run P w = .ok (.tuple #[]) w := fun k a' cap he => by
   cases a' <;> simp [Builtin.clear_, ht0, he, run_underlying hu]
  simp only [lexec] at hx
  split at hx
  ·cases hx
   have he : ρ X = .slice none 0 0 := by
    generalize ρ X = y at vx ⊢
    cases vx; rfl
   exact Good.pure hr (v' := .tuple #[]) (bi_run ho hb (unit 0 _ _ he)) (VRs.tuple (c := #[]) (c' := #[]) (.nil ν))
  ·rename_i b k n E
   split at hx
   ·rename_i hE
    split at hx
    ·rename_i h0
     subst h0
     cases hx
     obtain ⟨a', cap, he, _⟩ := vx.slice_inv
     exact Good.pure hr (v' := .tuple #[]) (bi_run ho hb (unit 0 _ _ he)) (VRs.tuple (c := #[]) (c' := #[]) (.nil ν))
    ·rename_i h0
     obtain ⟨h2, hst, hh⟩ := map_some hx
     simp only [Prod.mk.injEq] at hh
     obtain ⟨rfl, rfl⟩ := hh
     obtain ⟨pl, cap, hb', he⟩ : ∃ pl cap, ν b = some pl ∧ ρ X = .slice (some ⟨pl.B, pl.base + k, none⟩) n cap := by
      generalize ρ X = y at vx ⊢
      cases vx with
      | slice hb _ _ => exact ⟨_, _, hb, rfl⟩
      | sempty => exact absurd rfl h0
     have hzs : VRs ν (List.replicate n u.cells.toList).flatten (List.replicate n u.cells.toList).flatten := all_const_VRs (by
      rw [List.all_eq_true] at hall ⊢
      intro y hy
      simp only [List.mem_flatten, List.mem_replicate] at hy
      obtain ⟨l, ⟨_, rfl⟩, hy⟩ := hy
      exact hall y hy) ν
     obtain ⟨hrun, hh, hstep⟩ := hr.storeCells hb' hst hzs P
     have hzc : (Builtin.zeroCells u.cells n).toList = (List.replicate n u.cells.toList).flatten := by
      have := range_flatten u.cells.toList n i.size hzl hpos
      have e2 : u.cells.size = i.size := by simpa using hzl
      unfold Builtin.zeroCells
      rw [e2]
      simpa [e2] using this
     refine ⟨ν, .tuple #[], _, .inl (bi_run ho hb ?_), VRs.tuple (c := #[]) (c' := #[]) (.nil ν), hh, hstep⟩
     cases n with
     | zero => exact absurd rfl h0
     | succ n =>
      simp only [Builtin.clear_, ht0, he]
      simp [run_underlying hu, run_zeroValue hi hiu, hzc, hrun]
   ·cases hx
  ·cases hx
 ·simp [cBuiltin] at hc

theorem good_mapDel {args : Array Operand} {ts : Array TypeId} (ho : o.op = .call { callee := .builtin .delete, args, argTypes := ts }) {l : List LO} {lo : LOp LO} {lv : LOp Value} (hl : LOp.listM cLO args.toList = some l)
  (hc : cBuiltin P .delete ts l = some lo) (hs : lo.sub rd = some lv) (hx : lexec q lv h = some (v, h')) (hr : HR ν h w) (hv : OpsR ν o.op rd ρ) : Good P o ρ ν h w v h' := by
 rcases l with _ | ⟨x, _ | ⟨y, _ | ⟨z, l⟩⟩⟩
 ·simp [cBuiltin] at hc
 ·simp [cBuiltin] at hc
 ·obtain ⟨M, K, rfl, hM, hK⟩ := listM2 hl
  have hvM := hv M (by rw [ho]; simp [Op.operands, Call.operands]) x
  have hvK := hv K (by rw [ho]; simp [Op.operands, Call.operands]) y
  have hb : ∀ c, builtin .delete ts o.type c (#[M, K].map ρ) = (do pure (.value (← Builtin.delete_ ts o.type #[ρ M, ρ K]))) := fun c => by simp [builtin]
  obtain ⟨t, kt, e, k0, ht0, hu, hk, rfl⟩ : ∃ t kt e k0, ts[0]? = some t ∧ P.underlying t = some (.map kt e) ∧ P.underlying kt = some (.int k0) ∧ lo = .mapDel x y := by
   simp only [cBuiltin] at hc
   cases h0 : ts[0]? with
   | none => simp [h0] at hc
   | some t =>
    rw [h0] at hc
    simp only [Option.bind_some] at hc
    split at hc
    ·rename_i kt e hu
     split at hc
     ·rename_i k0 hk
      cases hc
      exact ⟨t, kt, e, k0, rfl, hu, hk, rfl⟩
     ·cases hc
    ·cases hc
  simp only [LOp.sub] at hs
  split at hs
  ·rename_i mv kv hmv hkv
   cases hs
   have vm := hvM mv hM hmv
   have vk := hvK kv hK hkv
   simp only [lexec] at hx
   split at hx
   ·rename_i r k n
    split at hx
    ·rename_i es hg
     have ek := vk.int_inv
     obtain ⟨pl, hpl, em⟩ : ∃ pl, ν r = some pl ∧ ρ M = .map (some pl.B) := by
      generalize ρ M = u at vm ⊢
      cases vm with
      | map hp => exact ⟨_, hp, rfl⟩
     have hob := hr.obj r pl hpl
     rw [hg] at hob
     obtain ⟨ents, clock, g1, g2, gs⟩ := hob
     have hcheck := run_checkKeyI (P := P) (kt := kt) (k := k) (n := n) hk ents.isEmpty w
     have ge := g2.ent
     split at hx
     ·rename_i fr hf
      cases hx
      rcases find_spec (k0 := k0) 0 ge hf with ⟨_, h2, _, h4, _⟩ | ⟨j, u2, u', e', h1, h2, _, h4, h5, _, h7⟩
      ·have hfind := run_findKeyI hk h2 w
       rw [h4]
       obtain ⟨H1, H2⟩ := hr.putMap (clock' := clock) hpl hg g2 gs
       refine ⟨ν, .tuple #[], _, .inl (bi_run ho hb ?_), VRs.tuple (c := #[]) (c' := #[]) (.nil ν), H1, H2⟩
       simp [Builtin.delete_, ht0, em, ek, run_underlying hu, run_getMap g1, hcheck, hfind, run_setMap g1]
      ·have hfind := run_findKeyI hk h2 w
       simp only [Nat.zero_add] at hfind
       have hM2 : MapR ν (mdel n es) (ents.eraseIdxIfInBounds j) := by
        rw [h7]
        refine EntR.map ?_
        have hlt : j < ents.size := by
         have := List.getElem?_eq_some_iff.1 h4
         obtain ⟨q, _⟩ := this
         simpa using q
        have he : (ents.eraseIdxIfInBounds j).toList = ents.toList.eraseIdx j := by
         simp [Array.eraseIdxIfInBounds, hlt]
        rw [he]
        refine ⟨by rw [List.length_eraseIdx, List.length_eraseIdx, ge.1], fun i a b ha hb => ?_⟩
        rw [List.getElem?_eraseIdx] at ha hb
        split at ha
        ·rename_i hij
         rw [if_pos hij] at hb
         exact ge.2 i a b ha hb
        ·rename_i hij
         rw [if_neg hij] at hb
         exact ge.2 (i + 1) a b ha hb
       obtain ⟨H1, H2⟩ := hr.putMap (clock' := clock) hpl hg hM2 (MapKept.stamped_erase gs j)
       refine ⟨ν, .tuple #[], _, .inl (bi_run ho hb ?_), VRs.tuple (c := #[]) (c' := #[]) (.nil ν), H1, H2⟩
       simp [Builtin.delete_, ht0, em, ek, run_underlying hu, run_getMap g1, hcheck, hfind, run_setMap g1]
     ·cases hx
    ·cases hx
   ·cases hx
  ·cases hs
 ·simp [cBuiltin] at hc
end
end Go.E1

/-
 All operations together.
-/
namespace Go.E1
open Go

section
variable {P : Program} {q : EqF} {o : Oper} {ρ : Operand → Value} {ν : Inj} {h h' : LHeap} {w : World} {v : Value} {rd : LO → Option Value}

def mmStep (mx : Bool) (acc : Option Value) (v : Value) : Option Value :=
 match acc, v with
 | some (Value.int k x), .int k' y => if k = k' then some (Value.int k (if mx then (if y > x then y else x) else (if y < x then y else x))) else none
 | _, _ => none

theorem mm_none (mx : Bool) (l : List Value) : l.foldl (mmStep mx) none = none := by
 induction l with
 | nil => rfl
 | cons v l ih => simpa [mmStep] using ih

theorem mm_run (mx : Bool) : ∀ (l l' : List Value) (k : IntKind) (a : Int) (r : Value), VRs ν l l' → l.foldl (mmStep mx) (some (.int k a)) = some r →
  ∃ b, r = .int k b ∧ (l'.foldlM (if mx then Builtin.max2 else Builtin.min2) (.int k a)).run P w = .ok (.int k b) w
 | [], l', k, a, r, h1, h2 => by
  rw [h1.nil_inv]
  simp only [List.foldl_nil, Option.some.injEq] at h2
  exact ⟨a, h2.symm, by simp⟩
 | v :: l, l', k, a, r, h1, h2 => by
  obtain ⟨v', m, rfl, hv, hl⟩ := h1.cons_inv
  simp only [List.foldl_cons] at h2
  cases v with
  | int k' y =>
   have hv' := hv.int_inv
   subst hv'
   by_cases hk : k = k'
   ·subst hk
    have hstep : mmStep mx (some (.int k a)) (.int k y) = some (Value.int k (if mx then (if y > a then y else a) else (if y < a then y else a))) := by simp [mmStep]
    rw [hstep] at h2
    obtain ⟨b, hb, hrun⟩ := mm_run mx l m k _ r hl h2
    refine ⟨b, hb, ?_⟩
    rw [List.foldlM_cons, Sem.run_bind]
    cases mx
    ·simp only [Bool.false_eq_true, if_false] at hrun ⊢
     simp only [Builtin.min2, Sem.run_pure, Result.andThen_ok]
     exact hrun
    ·simp only [if_true] at hrun ⊢
     simp only [Builtin.max2, Sem.run_pure, Result.andThen_ok]
     exact hrun
   ·simp only [mmStep, hk, if_false] at h2
    rw [mm_none] at h2; cases h2
  | _ => simp only [mmStep] at h2; rw [mm_none] at h2; cases h2

theorem good_minmax {mx : Bool} {args : Array Operand} {ts : Array TypeId} (ho : o.op = .call { callee := .builtin (if mx then .max else .min), args, argTypes := ts }) {l : List LO} {lv : LOp Value} (hl : LOp.listM cLO args.toList = some l)
  (hs : (LOp.minmax mx l).sub rd = some lv) (hx : lexec q lv h = some (v, h')) (hr : HR ν h w) (hv : OpsR ν o.op rd ρ) : Good P o ρ ν h w v h' := by
 obtain ⟨l2, hl2, hh⟩ := map_some hs
 subst hh
 have hvr := listM_VRs (ρ := ρ) (ν := ν) hl hl2 fun x hx => hv x (by rw [ho]; simp only [Op.operands, Call.operands]; simpa using hx)
 simp only [lexec] at hx
 split at hx
 ·rename_i k a r
  obtain ⟨u, hu, hx⟩ := map_some hx
  simp only [Prod.mk.injEq] at hx
  obtain ⟨rfl, rfl⟩ := hx
  obtain ⟨v', m, hm, hv0, hlm⟩ := hvr.cons_inv
  have hv' := hv0.int_inv
  subst hv'
  obtain ⟨b, hb, hrun⟩ := mm_run (P := P) (w := w) mx r m k a u hlm hu
  subst hb
  have hargs : (args.map ρ).toList = .int k a :: m := by simpa using hm
  cases mx
  ·refine Good.pure hr (bi_run (b := .min) ho (s := Builtin.min_ ts o.type (args.map ρ)) (fun c => by simp [builtin]) ?_) (.int _ _)
   unfold Builtin.min_
   rw [hargs]
   exact hrun
  ·refine Good.pure hr (bi_run (b := .max) ho (s := Builtin.max_ ts o.type (args.map ρ)) (fun c => by simp [builtin]) ?_) (.int _ _)
   unfold Builtin.max_
   rw [hargs]
   exact hrun
 ·cases hx

theorem cOp_sound (hq : QOk P q) (hrc : ∀ v, rd (.c v) = some v) {lo : LOp LO} {lv : LOp Value} (hc : cOp P o.op = some lo) (hs : lo.sub rd = some lv) (hx : lexec q lv h = some (v, h'))
  (hr : HR ν h w) (hv : OpsR ν o.op rd ρ) : Good P o ρ ν h w v h' := by
 cases ho : o.op with
 | move x => rw [ho] at hc hv; exact good_mov (.inl ho) hc hs hx hr (hv x (by simp [Op.operands]))
 | assign x => rw [ho] at hc hv; exact good_mov (.inr ho) hc hs hx hr (hv x (by simp [Op.operands]))
 | alloc e => rw [ho] at hc; exact good_alloc ho hc hs hx hr
 | box e x => rw [ho] at hc hv; exact good_box ho hc hs hx hr (hv x (by simp [Op.operands]))
 | build t ps => rw [ho] at hc hv; exact good_build ho hc hs hx hr hv
 | buildSlice t n ps => rw [ho] at hc hv; exact good_buildSlice ho hc hs hx hr hv
 | load t a => rw [ho] at hc hv; exact good_load ho hc hs hx hr hv
 | store t a x => rw [ho] at hc hv; exact good_store ho hc hs hx hr hv
 | nilCheck x => rw [ho] at hc hv; exact good_nilCheck ho hc hs hx hr (hv x (by simp [Op.operands]))
 | binOp op t x y yt => rw [ho] at hc hv; exact good_bin hq ho hc hs hx hr hv
 | unOp op t x => rw [ho] at hc hv; exact good_un ho hc hs hx hr (hv x (by simp [Op.operands]))
 | convert s d x => rw [ho] at hc hv; exact good_convert ho hc hs hx hr hv
 | makeFunc f a b => rw [ho] at hc hv; exact good_makeFunc ho hc hs hx hr hv
 | makeMap t r =>
  rw [ho] at hc
  cases r with
  | none => exact good_makeMap ho hc hs hx hr
  | some r => simp [cOp] at hc
 | lookup t m k ok => rw [ho] at hc hv; exact good_mapGet ho hc hs hx hr hv
 | mapUpdate t m k u => rw [ho] at hc hv; exact good_mapSet ho hc hs hx hr hv
 | makeSlice t n c => rw [ho] at hc hv; exact good_makeSlice ho hc hs hx hr hv
 | slice t x lo hi mx => rw [ho] at hc hv; exact good_slice ho hc hs hx hr hv
 | fieldAddr t x k => rw [ho] at hc hv; exact good_fieldAddr ho hc hs hx hr hv
 | field t x k => rw [ho] at hc hv; exact good_field ho hc hs hx hr hv
 | indexAddr t x i => rw [ho] at hc hv; exact good_indexAddr ho hc hs hx hr hv
 | index t x i => rw [ho] at hc hv; exact good_index ho hc hs hx hr hv
 | extract x i => rw [ho] at hc hv; exact good_extract ho hc hs hx hr (hv x (by simp [Op.operands]))
 | call c =>
  obtain ⟨callee, args, ts⟩ := c
  cases callee with
  | value f => rw [ho] at hc; simp [cOp] at hc
  | invoke r m => rw [ho] at hc; simp [cOp] at hc
  | builtin b =>
   rw [ho] at hc
   simp only [cOp] at hc
   split at hc
   ·rename_i l hl
    cases b with
    | len => exact good_len hrc ho hl hc hs hx hr hv
    | append => exact good_append ho hl hc hs hx hr hv
    | copy => exact good_copy ho hl hc hs hx hr hv
    | clear => exact good_clearS ho hl hc hs hx hr hv
    | delete => exact good_mapDel ho hl hc hs hx hr hv
    | max =>
     simp only [cBuiltin, Option.some.injEq] at hc
     subst hc
     exact good_minmax (mx := true) ho hl hs hx hr hv
    | min =>
     simp only [cBuiltin, Option.some.injEq] at hc
     subst hc
     exact good_minmax (mx := false) ho hl hs hx hr hv
    | _ => simp [cBuiltin] at hc
   ·cases hc
 | _ => rw [ho] at hc; simp [cOp] at hc

end
end Go.E1

/-
 What only makes a block, wherever the block lies among the logical ones.
-/
namespace Go.E1
open Go

section
variable {P : Program} {q : EqF} {o : Oper} {ρ : Operand → Value} {ν : Inj} {h h' : LHeap} {w : World} {v : Value} {rd : LO → Option Value}

/-- A new object, the logical one and the real one. -/
def NewR (ν : Inj) (lo : LObj) (ro : Obj) (fin : Nat) : Prop :=
 (∃ (cs : List Value) (cs' : Array Value) (t : TypeId), lo = .cells cs true true ∧ ro = .cells cs' t (0, 0) ∧ fin = cs'.size ∧ cs.length ≤ cs'.size ∧ ∀ (i : Nat) v, cs[i]? = some v → ∃ v', cs'[i]? = some v' ∧ VR ν v v') ∨ (lo = .map [] ∧ ro = .map #[] 0)

/-- It makes a block, and yields its address. -/
def GoodA (P : Program) (o : Oper) (ρ : Operand → Value) (ν : Inj) (h : LHeap) (w : World) (v : Value) (h' : LHeap) : Prop :=
 ∃ (lo : LObj) (ro : Obj) (fin : Nat) (mk : Nat → Value) (v' : Value), (execOp ρ o).run P w = .ok (.value v') (w.alloc ro) ∧ v = mk h.size ∧ h' = h.push lo ∧ NewR ν lo ro fin ∧
  ∀ (ν' : Inj) b, ν' b = some ⟨w.heap.size, 0, fin⟩ → VR ν' (mk b) v'

theorem goodA_of {cs : List Value} {cs' : Array Value} {t : TypeId} {mk : Nat → Value} {v' : Value} (h1 : (execOp ρ o).run P w = .ok (.value v') (w.alloc (.cells cs' t (0, 0)))) (h2 : v = mk h.size) (h3 : h' = h.push (.cells cs true true)) (h4 : cs.length ≤ cs'.size)
  (h5 : ∀ (i : Nat) v, cs[i]? = some v → ∃ v', cs'[i]? = some v' ∧ VR ν v v') (h6 : ∀ (ν' : Inj) b, ν' b = some ⟨w.heap.size, 0, cs'.size⟩ → VR ν' (mk b) v') : GoodA P o ρ ν h w v h' :=
 ⟨_, _, _, mk, v', h1, h2, h3, .inl ⟨cs, cs', t, rfl, rfl, rfl, h4, h5⟩, h6⟩

theorem goodA_alloc {e : TypeId} (ho : o.op = .alloc e) {lo : LOp LO} {lv : LOp Value} (hc : (zeroOf P e).map LOp.alloc = some lo) (hs : lo.sub rd = some lv) (hx : lexec q lv h = some (v, h'))
  : GoodA P o ρ ν h w v h' := by
 obtain ⟨z, a, rfl⟩ := map_some hc
 simp only [LOp.sub, Option.some.injEq] at hs
 subst hs
 simp only [lexec, Option.some.injEq, Prod.mk.injEq] at hx
 obtain ⟨rfl, rfl⟩ := hx
 obtain ⟨i, u, hi, hu, rfl, hall⟩ := zeroOf_spec a
 have hz := all_const_VRs hall
 refine goodA_of (cs := u.cells.toList) (cs' := u.cells) (t := e) (mk := fun b => .pointer (some ⟨b, 0, none⟩)) (v' := .pointer (some ⟨w.heap.size, 0, none⟩)) ?_ rfl rfl (by simp) (fun j v hj => ⟨v, by simpa using hj, (hz ν).2 j v v hj hj⟩) ?_
 ·simp [execOp, ho, Instr.alloc, run_zeroValue hi hu, newVar, newRow]
 ·intro ν' b hb
  exact VR.ptr (o := 0) hb

theorem goodA_box {e : TypeId} {x : Operand} (ho : o.op = .box e x) {lo : LOp LO} {lv : LOp Value} (hc : (cLO x).map LOp.box = some lo) (hs : lo.sub rd = some lv) (hx : lexec q lv h = some (v, h'))
  (hv : ∀ lx v, cLO x = some lx → rd lx = some v → VR ν v (ρ x)) : GoodA P o ρ ν h w v h' := by
 obtain ⟨lx, a, rfl⟩ := map_some hc
 obtain ⟨y, b, rfl⟩ := rd1 hs
 simp only [lexec, Option.some.injEq, Prod.mk.injEq] at hx
 obtain ⟨rfl, rfl⟩ := hx
 have hvr := VRs.cells (hv lx _ a b)
 refine goodA_of (cs := y.cells.toList) (cs' := (ρ x).cells) (t := e) (mk := fun b => .pointer (some ⟨b, 0, none⟩)) (v' := .pointer (some ⟨w.heap.size, 0, none⟩)) ?_ rfl rfl (by have := hvr.1; simp at this; simp; omega) (fun j v hj => by
  obtain ⟨v', p, q⟩ := hvr.get hj
  exact ⟨v', by simpa using p, q⟩) ?_
 ·simp [execOp, ho, Instr.box, newVar, newRow]
 ·intro ν' b hb
  exact VR.ptr (o := 0) hb

theorem goodA_buildSlice {t : TypeId} {len : Nat} {ps : Array (Nat × Operand)} (ho : o.op = .buildSlice t len ps) {lo : LOp LO} {lv : LOp Value} (hc : cOp P (.buildSlice t len ps) = some lo) (hs : lo.sub rd = some lv) (hx : lexec q lv h = some (v, h'))
  (hv : OpsR ν (.buildSlice t len ps) rd ρ) : GoodA P o ρ ν h w v h' := by
 have hv' : ∀ x ∈ ps.toList.map (·.2), ∀ lx v, cLO x = some lx → rd lx = some v → VR ν v (ρ x) := fun x hx => hv x (by simpa [Op.operands] using hx)
 have hps : (ps.map fun (i, x) => (i, ρ x)).toList = ps.toList.map fun (i, x) => (i, ρ x) := by simp
 simp only [cOp] at hc
 split at hc
 ·rename_i e hu
  split at hc
  ·rename_i n z hn hz
   split at hc
   ·rename_i hzn
    obtain ⟨hzn, hpos⟩ := hzn
    obtain ⟨i, u, hi, hiu, rfl, hall⟩ := zeroOf_spec hz
    obtain ⟨lp, hlp, rfl⟩ := map_some hc
    obtain ⟨lp2, hlp2, hlv⟩ := map_some hs
    subst hlv
    simp only [lexec] at hx
    split at hx
    ·rename_i hsmall
     obtain ⟨r, hfill, hx⟩ := map_some hx
     simp only [Prod.mk.injEq] at hx
     obtain ⟨rfl, rfl⟩ := hx
     have hpr := cParts_PartsR hlp hlp2 hv'
     have hz0 : (Array.range (len * n)).map (u.cells[· % u.cells.size]!) = ((List.replicate len u.cells.toList).flatten).toArray := by
      have := range_flatten u.cells.toList len n hzn hpos
      apply Array.ext'
      simpa using this
     have hzero : VRs ν (List.replicate len u.cells.toList).flatten ((Array.range (len * n)).map (u.cells[· % u.cells.size]!)).toList := by
      rw [hz0]
      refine all_const_VRs ?_ ν
      rw [List.all_eq_true] at hall ⊢
      intro x hx
      simp only [List.mem_flatten, List.mem_replicate] at hx
      obtain ⟨l, ⟨_, rfl⟩, hx⟩ := hx
      exact hall x hx
     obtain ⟨r', hr', hrr⟩ := fill_VRs lp2 _ _ _ r hpr hzero hfill
     have hlen := hrr.1
     have hl2 : r'.size = len * n := by
      have hgen : ∀ (l : List (Nat × Nat × Value)) (cs r : List Value), lfill cs l = some r → r.length = cs.length := by
       intro l
       induction l with
       | nil => intro cs r h; simp only [lfill, Option.some.injEq] at h; rw [h]
       | cons p l ih =>
        obtain ⟨a, b, c⟩ := p
        intro cs r h
        simp only [lfill] at h
        split at h
        ·rename_i hh
         rw [ih _ _ h, length_splice _ _ _ (by simp; omega)]
        ·cases h
      have := hgen _ _ _ hfill
      simp only [Array.length_toList] at hlen
      rw [← hlen, this]
      simp [List.length_flatten, ← hzn]
     refine goodA_of (cs := r) (cs' := r') (t := e) (mk := fun b => .slice (some ⟨b, 0, none⟩) len n) (v' := .slice (some ⟨w.heap.size, 0, none⟩) len len) ?_ rfl rfl (by simp at hlen; omega) (fun j v hj => by
      obtain ⟨v', p, q⟩ := hrr.get hj
      exact ⟨v', by simpa using p, q⟩) ?_
     ·have hcong' : Instr.fill (fun i => some (i * n, n)) ((Array.range (len * n)).map (u.cells[· % u.cells.size]!)) (ps.toList.map fun x => (x.fst, ρ x.snd)) = some r' := by simpa using (hps ▸ hr')
      have hsm : ¬ (2 ^ 24 < len * n) := by omega
      simp only [execOp, ho, Instr.buildSlice, Sem.run_bind, run_underlying hu, Result.andThen_ok, run_sizeOf hn]
      by_cases h0 : len * n = 0
      ·have hrz : r' = #[] := by apply Array.eq_empty_of_size_eq_zero; omega
       subst hrz
       have hA : ∀ f : Nat → Value, Array.map f (Array.range 0) = #[] := fun f => by apply Array.eq_empty_of_size_eq_zero; simp
       have hpe : Instr.fill (fun i => some (i * n, n)) #[] (ps.toList.map fun x => (x.fst, ρ x.snd)) = some #[] := by
        simpa [h0, hA] using hcong'
       simp [h0, newRow, hA, hpe]
      ·simp [h0, hsm, run_zeroValue hi hiu, newRow]
       simp [hcong']
     ·intro ν' b hb
      exact VR.slice (o := 0) hb (Nat.le_refl _) (by simp [hl2])
    ·cases hx
   ·cases hc
  ·cases hc
 ·cases hc

theorem goodA_makeSlice {t : TypeId} {n c : Operand} (ho : o.op = .makeSlice t n c) {lo : LOp LO} {lv : LOp Value} (hc : cOp P (.makeSlice t n c) = some lo) (hs : lo.sub rd = some lv) (hx : lexec q lv h = some (v, h'))
  (hv : OpsR ν (.makeSlice t n c) rd ρ) : GoodA P o ρ ν h w v h' := by
 simp only [cOp] at hc
 split at hc
 ·rename_i e hu
  split at hc
  ·rename_i i z ln lc hi hz hn hcc
   split at hc
   ·rename_i hzn
    obtain ⟨hzn, hpos⟩ := hzn
    cases hc
    obtain ⟨y1, y2, hy1, hy2, rfl⟩ := sub_makeSlice hs
    have hvn := hv n (by simp [Op.operands]) ln y1 hn hy1
    have hvc := hv c (by simp [Op.operands]) lc y2 hcc hy2
    obtain ⟨i2, u, hi2, hiu, rfl, hall⟩ := zeroOf_spec hz
    rw [hi] at hi2
    cases hi2
    simp only [lexec] at hx
    split at hx
    ·rename_i k1 a k2 b
     split at hx
     ·rename_i hb
      obtain ⟨h0, h1, h2, _⟩ := hb
      simp only [roomOk, Bool.and_eq_true, decide_eq_true_eq] at h2
      obtain ⟨h2, h3⟩ := h2
      simp only [Option.some.injEq, Prod.mk.injEq] at hx
      obtain ⟨rfl, rfl⟩ := hx
      obtain ⟨a, rfl⟩ := Int.eq_ofNat_of_zero_le h0
      obtain ⟨b, rfl⟩ := Int.eq_ofNat_of_zero_le (Int.le_trans h0 h1)
      simp only [Int.toNat_natCast] at *
      have hab : a ≤ b := by omega
      have hcells : (Array.range (b * i.size)).map (u.cells[· % u.cells.size]!) = ((List.replicate b u.cells.toList).flatten).toArray := by
       have := range_flatten u.cells.toList b i.size hzn hpos
       apply Array.ext'
       simpa using this
      have hsplit : (List.replicate b u.cells.toList).flatten = (List.replicate a u.cells.toList).flatten ++ (List.replicate (b - a) u.cells.toList).flatten := by
       rw [← List.flatten_append, List.replicate_append_replicate, show a + (b - a) = b by omega]
      have hlenb : ((List.replicate b u.cells.toList).flatten).length = b * i.size := by simp [List.length_flatten, ← hzn]
      have hlena : ((List.replicate a u.cells.toList).flatten).length = a * i.size := by simp [List.length_flatten, ← hzn]
      have hcs : ∀ (j : Nat) x, ((List.replicate a u.cells.toList).flatten)[j]? = some x → ∃ v', ((List.replicate b u.cells.toList).flatten).toArray[j]? = some v' ∧ VR ν x v' :=
       (fun j x hj => by
        refine ⟨x, ?_, ?_⟩
        ·simp only [List.getElem?_toArray]
         rw [hsplit, List.getElem?_append_left ?_]
         ·exact hj
         ·rcases Nat.lt_or_ge j ((List.replicate a u.cells.toList).flatten).length with hl | hl
          ·exact hl
          ·rw [List.getElem?_eq_none hl] at hj; cases hj
        ·exact constOk_VR (List.all_eq_true.1 hall x (replicate_flatten_get a j x hzn hj)) ν)
      refine goodA_of (cs := (List.replicate a u.cells.toList).flatten) (cs' := ((List.replicate b u.cells.toList).flatten).toArray) (t := e) (mk := fun c => .slice (some ⟨c, 0, none⟩) a i.size) (v' := .slice (some ⟨w.heap.size, 0, none⟩) a b) ?_ rfl rfl (by simp only [List.size_toArray]; rw [hlena, hlenb]; exact Nat.mul_le_mul_right _ hab) hcs (fun ν' c hc' => VR.slice (o := 0) hc' hab (by simp only [List.size_toArray]; rw [hlenb]; omega))
      have hw1 : IntKind.i64.wrap (a : Int) = a := IntWalk.i64_in _ (by omega)
      have hw2 : IntKind.i64.wrap (b : Int) = b := IntWalk.i64_in _ (by omega)
      have hby : ¬ (281474976710656 < (i.bytes : Int) * (b : Int)) := by
       have : ((b * i.bytes : Nat) : Int) ≤ 140737488355328 := by omega
       rw [Nat.mul_comm] at this
       push_cast at this
       omega
      have hab' : ¬ ((b : Int) < (a : Int)) := by omega
      have hnn : ¬ ((b : Int) < 0) := by omega
      have hnn2 : ¬ ((a : Int) < 0) := by omega
      by_cases hb0 : b * i.size = 0
      ·have hA : ∀ f : Nat → Value, Array.map f (Array.range 0) = #[] := fun f => by apply Array.eq_empty_of_size_eq_zero; simp
       have hE : ((List.replicate b u.cells.toList).flatten).toArray = #[] := by
        apply Array.eq_empty_of_size_eq_zero
        simp only [List.size_toArray]; omega
       rw [hE]
       simp [execOp, ho, Instr.makeSlice, run_underlying hu, asInt, asIntOf, hvn.int_inv, hvc.int_inv, typeInfo, hi, hw1, hw2, hby, hab', hnn, hnn2, sizeOf, hb0, newRow, hA]
      ·simp [execOp, ho, Instr.makeSlice, run_underlying hu, asInt, asIntOf, hvn.int_inv, hvc.int_inv, typeInfo, hi, hw1, hw2, hby, hab', hnn, hnn2, sizeOf, hb0, newRow, run_zeroValue hi hiu, hcells]
     ·cases hx
    ·cases hx
   ·cases hc
  ·cases hc
 ·cases hc

theorem goodA_makeMap {t : TypeId} (ho : o.op = .makeMap t none) {lo : LOp LO} {lv : LOp Value} (hc : cOp P (.makeMap t none) = some lo) (hs : lo.sub rd = some lv) (hx : lexec q lv h = some (v, h')) : GoodA P o ρ ν h w v h' := by
 simp only [cOp, Option.some.injEq] at hc
 subst hc
 simp only [LOp.sub, Option.some.injEq] at hs
 subst hs
 simp only [lexec, Option.some.injEq, Prod.mk.injEq] at hx
 obtain ⟨rfl, rfl⟩ := hx
 refine ⟨_, .map #[] 0, 0, fun b => .map (some b), .map (some w.heap.size), ?_, rfl, rfl, .inr ⟨rfl, rfl⟩, fun ν' b hb => VR.map hb⟩
 simp [execOp, ho, Instr.makeMap]

theorem cOp_la (hla : laOp o = true) {lo : LOp LO} {lv : LOp Value} (hc : cOp P o.op = some lo) (hs : lo.sub rd = some lv) (hx : lexec q lv h = some (v, h'))
  (hv : OpsR ν o.op rd ρ) : GoodA P o ρ ν h w v h' := by
 unfold laOp at hla
 cases ho : o.op with
 | alloc e => rw [ho] at hc; exact goodA_alloc ho hc hs hx
 | box e x => rw [ho] at hc hv; exact goodA_box ho hc hs hx (hv x (by simp [Op.operands]))
 | buildSlice t n ps => rw [ho] at hc hv; exact goodA_buildSlice ho hc hs hx hv
 | makeSlice t n c => rw [ho] at hc hv; exact goodA_makeSlice ho hc hs hx hv
 | makeMap t r =>
  cases r with
  | none => rw [ho] at hc; exact goodA_makeMap ho hc hs hx
  | some r => rw [ho] at hla; cases hla
 | _ => rw [ho] at hla; cases hla

/-- A block that was there logically, and is made now. -/
theorem HR.adopt (hr : HR ν h w) {b : Nat} (hn : ν b = none) (hb : b < h.size) {lo : LObj} {ro : Obj} {fin : Nat} (hN : NewR ν lo ro fin) (hg : h.get b = some lo ∨ h.get b = some .dead) :
  HR (ν.put b ⟨w.heap.size, 0, fin⟩) h (w.alloc ro) := by
 have hle := Inj.le_put (pl := ⟨w.heap.size, 0, fin⟩) hn
 have old : ∀ c pl, (ν.put b ⟨w.heap.size, 0, fin⟩) c = some pl → c ≠ b → ν c = some pl := fun c pl hc hne => by simpa [Inj.put, hne] using hc
 have new : ∀ pl, (ν.put b ⟨w.heap.size, 0, fin⟩) b = some pl → pl = ⟨w.heap.size, 0, fin⟩ := fun pl hc => by rw [Inj.put_same] at hc; exact (Option.some.inj hc).symm
 refine ⟨⟨?_, ?_, ?_, ?_⟩, ?_⟩
 ·intro c pl hc
  by_cases e : c = b
  ·rw [e]; exact hb
  ·exact hr.dom c pl (old c pl hc e)
 ·intro c pl hc
  by_cases e : c = b
  ·subst e
   have := new pl hc; subst this
   rcases hg with hg | hg
   ·rw [hg]
    rcases hN with ⟨cs, cs', t, rfl, rfl, rfl, hlen, hv⟩ | ⟨rfl, rfl⟩
    ·exact ⟨cs', t, (0, 0), alloc_new, rfl, by simpa using hlen, fun _ => rfl, fun i v hi => let ⟨v', a, b⟩ := hv i v hi; ⟨v', by simpa using a, b.mono hle⟩, fun _ => .inl rfl⟩
    ·exact ⟨#[], 0, alloc_new, ⟨rfl, fun i e e' h => by simp at h⟩, MapKept.stamped_empty 0⟩
   ·rw [hg]; trivial
  ·have hc' := old c pl hc e
   exact (hr.obj c pl hc').mono hle (alloc_get _ (hr.real c pl hc'))
 ·intro c d pl ql hc hd hne hB
  by_cases e : c = b
  ·subst e
   have := new pl hc; subst this
   have := hr.real d ql (old d ql hd (Ne.symm hne))
   simp at hB; omega
  ·by_cases e' : d = b
   ·subst e'
    have := new ql hd; subst this
    have := hr.real c pl (old c pl hc e)
    simp at hB; omega
   ·exact hr.sep c d pl ql (old c pl hc e) (old d ql hd e') hne hB
 ·intro c pl hc
  by_cases e : c = b
  ·subst e
   have := new pl hc; subst this
   rw [alloc_size]; simp
  ·have := hr.real c pl (old c pl hc e); rw [alloc_size]; omega
 ·intro g cs hgg
  obtain ⟨⟨c, e, fz, h1, h2, h3⟩, h4⟩ := hr.gl g cs hgg
  have hlt : g < w.heap.size := by
   rcases Nat.lt_or_ge g w.heap.size with h | h
   ·exact h
   ·simp [Array.getElem?_eq_none h] at h1
  refine ⟨⟨c, e, fz, by rw [alloc_get g hlt]; exact h1, h2, h3⟩, fun c pl hc hB => ?_⟩
  by_cases e : c = b
  ·subst e
   have := new pl hc; subst this
   simp only at hB; omega
  ·exact h4 c pl (old c pl hc e) hB

theorem Step.adopt {ν₀ : Inj} {h₀ : LHeap} {w₀ : World} (s : Step ν₀ h₀ w₀ ν h w) {b : Nat} (hn : ν b = none) (hb : h₀.size ≤ b) (c : Nat) (x : Obj) :
  Step ν₀ h₀ w₀ (ν.put b ⟨w.heap.size, 0, c⟩) h (w.alloc x) := by
 refine ⟨Inj.le_trans s.le (Inj.le_put hn), s.os, s.tape, s.output, by rw [alloc_size]; have := s.size; omega, s.lsize, ?_, ?_, ?_⟩
 ·intro B hB hno
  rw [alloc_get B (Nat.lt_of_lt_of_le hB s.size)]
  exact s.frame B hB hno
 ·intro d pl hd hw hlt
  by_cases e : d = b
  ·subst e
   rw [Inj.put_same] at hd
   cases hd
   have := s.size
   simp only at hlt
   omega
  ·exact s.back d pl (by simpa [Inj.put, e] using hd) hw hlt
 ·intro d hd hnd
  obtain ⟨h1, h2⟩ := s.un d hd hnd
  have : d ≠ b := by omega
  exact ⟨by simp [Inj.put, this, h1], h2⟩

/-- A logical block that nothing real stands for. -/
theorem HR.pushU (hr : HR ν h w) (x : LObj) : HR ν (h.push x) w ∧ Step ν h w ν (h.push x) w := by
 have hg : ∀ c pl, ν c = some pl → (h.push x).get c = h.get c := fun c pl hc => by have := hr.dom c pl hc; simp [Nat.ne_of_lt this]
 refine hr.of0 ?_
 refine ⟨⟨fun c pl hc => by have := hr.dom c pl hc; simp; omega, fun c pl hc => by rw [hg c pl hc]; exact hr.obj c pl hc, fun c d pl ql hc hd hne hB => by rw [hg c pl hc, hg d ql hd]; exact hr.sep c d pl ql hc hd hne hB, hr.real⟩,
  ⟨Inj.le_refl ν, rfl, rfl, rfl, Nat.le_refl _, by simp, fun _ _ _ => rfl, fun c pl hc hw _ => ⟨c, pl, hc, rfl, by rw [← hg c pl hc]; exact hw⟩, fun c hc hn => ⟨hn, .inl (by simp [Nat.ne_of_lt hc])⟩⟩⟩
end
end Go.E1
