/-
  Each operation of the engine is sound: what it yields, the model's operation yields too, renamed.
-/
import Derived.Test.YtmopgljjpmepnaaE1App
import Derived.Laws.Append
import Derived.Laws.Entries
namespace Go.E1
open Go

def Gives (P : Program) (o : Oper) (ρ : Operand → Value) (w : World) (v : Value) (w' : World) : Prop :=
  (execOp ρ o).run P w = .ok (.value v) w' ∨ ((execOp ρ o).run P w = .ok .skip w' ∧ v = undef)

structure QOk (P : Program) (q : EqF) : Prop where
  eq : ∀ t x y b, q t x y = some b → ∀ ν x' y' w, VR ν x x' → VR ν y y' → (Op.equal t x' y').run P w = .ok b w
  guard : ∀ t x y b, q t x y = some b → P.eqGuardType P.depth t = false

/-- The operands, read on both sides. -/
def OpsR (ν : Inj) (op : Op) (rd : LO → Option Value) (ρ : Operand → Value) : Prop :=
  ∀ x ∈ op.operands, ∀ lx v, cLO x = some lx → rd lx = some v → VR ν v (ρ x)

/-- What is to be shown of one operation. -/
def Good (P : Program) (o : Oper) (ρ : Operand → Value) (ν : Inj) (h : LHeap) (w : World) (v : Value) (h' : LHeap) : Prop :=
  ∃ ν' v' w', Gives P o ρ w v' w' ∧ VR ν' v v' ∧ HR ν' h' w' ∧ Step ν h w ν' h' w'

section
variable {P : Program} {q : EqF} {o : Oper} {ρ : Operand → Value} {ν : Inj} {h h' : LHeap} {w : World} {v : Value} {rd : LO → Option Value}

theorem Good.pure {v' : Value} (hr : HR ν h w) (hg : (execOp ρ o).run P w = .ok (.value v') w) (hv : VR ν v v') : Good P o ρ ν h w v h :=
  ⟨ν, v', w, .inl hg, hv, hr, Step.refl _ _ _⟩

theorem map_some {α β : Type} {f : α → β} {x : Option α} {y : β} (h : x.map f = some y) : ∃ z, x = some z ∧ f z = y := by
  cases x with
  | none => cases h
  | some z => exact ⟨z, rfl, Option.some.inj h⟩

theorem rd1 {lx : LO} {f : Value → LOp Value} {lv : LOp Value} (h : (rd lx).map f = some lv) : ∃ x, rd lx = some x ∧ lv = f x := by
  obtain ⟨z, a, b⟩ := map_some h; exact ⟨z, a, b.symm⟩

/-! Constants. -/
theorem constOk_VR {x : Value} (hx : constOk x = true) (ν : Inj) : VR ν x x := by
  unfold constOk at hx
  split at hx <;> first | (cases hx; done) | constructor

theorem all_const_VRs {l : List Value} (hl : l.all constOk = true) (ν : Inj) : VRs ν l l := by
  induction l with
  | nil => exact .nil ν
  | cons x l ih => simp only [List.all_cons, Bool.and_eq_true] at hl; exact .cons (constOk_VR hl.1 ν) (ih hl.2)

theorem zeroOf_spec {t : TypeId} {z : List Value} (hz : zeroOf P t = some z) : ∃ i u, P.info? t = some i ∧ i.zero = some u ∧ u.cells.toList = z ∧ z.all constOk = true := by
  unfold zeroOf at hz
  split at hz
  · rename_i u hu
    split at hz
    · rename_i ha
      cases hz
      cases hi : P.info? t with
      | none => simp [hi] at hu
      | some i => simp [hi] at hu; exact ⟨i, u, rfl, hu, rfl, ha⟩
    · cases hz
  · cases hz

theorem run_zeroValue {t : TypeId} {i : TypeInfo} {u : Value} (hi : P.info? t = some i) (hu : i.zero = some u) (w : World) : (zeroValue t).run P w = .ok u w := by
  simp [zeroValue, typeInfo, hi, hu]

theorem run_sizeOf {t : TypeId} {n : Nat} (hn : sizeP P t = some n) (w : World) : (sizeOf t).run P w = .ok n w := by
  unfold sizeP at hn
  cases hi : P.info? t with
  | none => simp [hi] at hn
  | some i => simp [hi] at hn; simp [sizeOf, typeInfo, hi, hn]

theorem run_isAgg {t : TypeId} {b : Bool} (hb : isAggP P t = some b) (w : World) : (isAgg t).run P w = .ok b w := by
  unfold isAggP at hb
  split at hb
  · rename_i hu; cases hb; simp [isAgg, run_underlying hu]
  · rename_i hu; cases hb; simp [isAgg, run_underlying hu]
  · rename_i d h1 h2 hu
    cases hb
    cases d <;> simp_all [isAgg, run_underlying hu]
  · cases hb

/-! ### One by one -/

theorem good_mov {x : Operand} (ho : o.op = .move x ∨ o.op = .assign x) {lo : LOp LO} {lv : LOp Value} (hc : (cLO x).map LOp.mov = some lo) (hs : lo.sub rd = some lv) (hx : lexec q lv h = some (v, h'))
    (hr : HR ν h w) (hv : ∀ lx v, cLO x = some lx → rd lx = some v → VR ν v (ρ x)) : Good P o ρ ν h w v h' := by
  obtain ⟨lx, a, rfl⟩ := map_some hc
  obtain ⟨y, b, rfl⟩ := rd1 hs
  simp only [lexec, Option.some.injEq, Prod.mk.injEq] at hx
  obtain ⟨rfl, rfl⟩ := hx
  refine Good.pure hr (v' := ρ x) ?_ (hv lx _ a b)
  rcases ho with ho | ho <;> simp [execOp, ho]

theorem good_alloc {e : TypeId} (ho : o.op = .alloc e) {lo : LOp LO} {lv : LOp Value} (hc : (zeroOf P e).map LOp.alloc = some lo) (hs : lo.sub rd = some lv) (hx : lexec q lv h = some (v, h'))
    (hr : HR ν h w) : Good P o ρ ν h w v h' := by
  obtain ⟨z, a, rfl⟩ := map_some hc
  simp only [LOp.sub, Option.some.injEq] at hs
  subst hs
  simp only [lexec, Option.some.injEq, Prod.mk.injEq] at hx
  obtain ⟨rfl, rfl⟩ := hx
  obtain ⟨i, u, hi, hu, rfl, hall⟩ := zeroOf_spec a
  have hz := all_const_VRs hall
  have hal := hr.alloc u.cells.toList u.cells e (0, 0) (by simp) (fun j v hj => ⟨v, by simpa using hj, (hz ν).2 j v v hj hj⟩) (fun k _ => by simp)
  refine ⟨_, .pointer (some ⟨w.heap.size, 0, none⟩), _, .inl ?_, ?_, hal.1, hal.2⟩
  · simp [execOp, ho, Instr.alloc, run_zeroValue hi hu, newVar, newRow]
  · exact VR.ptr (o := 0) (Inj.put_same ν h.size _)

theorem good_box {e : TypeId} {x : Operand} (ho : o.op = .box e x) {lo : LOp LO} {lv : LOp Value} (hc : (cLO x).map LOp.box = some lo) (hs : lo.sub rd = some lv) (hx : lexec q lv h = some (v, h'))
    (hr : HR ν h w) (hv : ∀ lx v, cLO x = some lx → rd lx = some v → VR ν v (ρ x)) : Good P o ρ ν h w v h' := by
  obtain ⟨lx, a, rfl⟩ := map_some hc
  obtain ⟨y, b, rfl⟩ := rd1 hs
  simp only [lexec, Option.some.injEq, Prod.mk.injEq] at hx
  obtain ⟨rfl, rfl⟩ := hx
  have hvr := VRs.cells (hv lx _ a b)
  have hal := hr.alloc y.cells.toList (ρ x).cells e (0, 0) (by have := hvr.1; simp at this; simp; omega) (fun j v hj => by
    obtain ⟨v', p, q⟩ := hvr.get hj
    exact ⟨v', by simpa using p, q⟩) (fun k _ => by simp)
  refine ⟨_, .pointer (some ⟨w.heap.size, 0, none⟩), _, .inl ?_, ?_, hal.1, hal.2⟩
  · simp [execOp, ho, Instr.box, newVar, newRow]
  · exact VR.ptr (o := 0) (Inj.put_same ν h.size _)

/-! build -/

theorem listM_VRs {l : List Operand} {l1 : List LO} {l2 : List Value} (h1 : LOp.listM cLO l = some l1) (h2 : LOp.listM rd l1 = some l2)
    (hv : ∀ x ∈ l, ∀ lx v, cLO x = some lx → rd lx = some v → VR ν v (ρ x)) : VRs ν l2 (l.map ρ) := by
  induction l generalizing l1 l2 with
  | nil => simp only [LOp.listM, Option.some.injEq] at h1; subst h1; simp only [LOp.listM, Option.some.injEq] at h2; subst h2; exact .nil ν
  | cons x l ih =>
    simp only [LOp.listM] at h1
    split at h1
    · rename_i y m hy hm
      simp only [Option.some.injEq] at h1
      subst h1
      simp only [LOp.listM] at h2
      split at h2
      · rename_i z k hz hk
        simp only [Option.some.injEq] at h2
        subst h2
        exact .cons (hv x (by simp) y z hy hz) (ih hm hk fun x' hx' => hv x' (by simp [hx']))
      · cases h2
    · cases h1

/-- The parts of a literal: each at its place, each related. -/
def PartsR (ν : Inj) (f : Nat → Option (Nat × Nat)) : List (Nat × Value) → List (Nat × Nat × Value) → Prop
  | [], [] => True
  | (i, v') :: r', (off, sz, v) :: r => f i = some (off, sz) ∧ VR ν v v' ∧ PartsR ν f r' r
  | _, _ => False

theorem cParts_PartsR {f : Nat → Option (Nat × Nat)} {l : List (Nat × Operand)} {l1 : List (Nat × Nat × LO)} {l2 : List (Nat × Nat × Value)} (h1 : cParts f l = some l1) (h2 : LOp.partsM rd l1 = some l2)
    (hv : ∀ x ∈ l.map (·.2), ∀ lx v, cLO x = some lx → rd lx = some v → VR ν v (ρ x)) : PartsR ν f (l.map fun (i, x) => (i, ρ x)) l2 := by
  induction l generalizing l1 l2 with
  | nil => simp only [cParts, Option.some.injEq] at h1; subst h1; simp only [LOp.partsM, Option.some.injEq] at h2; subst h2; trivial
  | cons p l ih =>
    obtain ⟨i, x⟩ := p
    simp only [cParts] at h1
    split at h1
    · rename_i off n y m hf hy hm
      simp only [Option.some.injEq] at h1
      subst h1
      simp only [LOp.partsM] at h2
      split at h2
      · rename_i z k hz hk
        simp only [Option.some.injEq] at h2
        subst h2
        exact ⟨hf, hv x (by simp) y z hy hz, ih hm hk fun x' hx' => hv x' (by simp at hx' ⊢; exact .inr hx')⟩
      · cases h2
    · cases h1

theorem foldl_splice : ∀ (vs : List Value) (off j : Nat) (cs : Array Value), off + j + vs.length ≤ cs.size →
    ((vs.zipIdx j).foldl (fun cs (c, j) => cs.setIfInBounds (off + j) c) cs).toList = splice cs.toList (off + j) vs
  | [], off, j, cs, _ => by simp [splice_nil]
  | v :: vs, off, j, cs, h => by
    simp only [List.zipIdx_cons, List.foldl_cons]
    rw [foldl_splice vs off (j + 1) _ (by simp at h ⊢; omega)]
    have := splice_cons cs.toList (off + j) v vs (by simp at h ⊢; omega)
    rw [show off + (j + 1) = off + j + 1 by omega]
    simpa using this

theorem VRs.splice {cs cs' vs vs' : List Value} (h1 : VRs ν cs cs') (h2 : VRs ν vs vs') (o : Nat) : VRs ν (splice cs o vs) (splice cs' o vs') := by
  simp only [E1.splice, ← h2.1]
  exact ((h1.take o).append h2).append (h1.drop _)

theorem fill_VRs {f : Nat → Option (Nat × Nat)} : ∀ (l : List (Nat × Nat × Value)) (l' : List (Nat × Value)) (cs : List Value) (cs' : Array Value) (r : List Value), PartsR ν f l' l → VRs ν cs cs'.toList → lfill cs l = some r →
    ∃ r', Instr.fill f cs' l' = some r' ∧ VRs ν r r'.toList
  | [], [], cs, cs', r, _, h2, h3 => by
    simp only [lfill, Option.some.injEq] at h3; subst h3
    exact ⟨cs', rfl, h2⟩
  | [], _ :: _, _, _, _, h1, _, _ => h1.elim
  | _ :: _, [], _, _, _, h1, _, _ => h1.elim
  | (off, sz, v) :: l, (i, v') :: l', cs, cs', r, h1, h2, h3 => by
    obtain ⟨hf, hvr, hp⟩ := h1
    simp only [lfill] at h3
    split at h3
    · rename_i hc
      have hcell := VRs.cells hvr
      have hl := hcell.1
      simp only [Array.length_toList] at hl
      have hcl := h2.1
      simp only [Array.length_toList] at hcl
      have hfold := foldl_splice v'.cells.toList off 0 cs' (by simp; omega)
      simp only [Instr.fill, hf]
      rw [if_neg (by simp; omega)]
      refine fill_VRs l l' _ _ r hp ?_ h3
      rw [show v'.cells.zipIdx = v'.cells.zipIdx 0 from rfl]
      rw [← Array.foldl_toList]
      simp only [Array.toList_zipIdx]
      rw [hfold]
      exact h2.splice hcell off
    · cases h3

theorem mapM_places {fs : List Field} {pl : List (Nat × Nat)} (h : cPlaces P fs = some pl) (w : World) :
    (fs.mapM (fun f => Prod.mk f.offset <$> sizeOf f.type) : Sem (List (Nat × Nat))).run P w = .ok pl w := by
  induction fs generalizing pl with
  | nil => simp only [cPlaces, Option.some.injEq] at h; subst h; rfl
  | cons f r ih =>
    simp only [cPlaces] at h
    split at h
    · rename_i n m hn hm
      simp only [Option.some.injEq] at h
      subst h
      simp [List.mapM_cons, run_sizeOf hn, ih hm]
    · cases h

theorem good_build {t : TypeId} {ps : Array (Nat × Operand)} (ho : o.op = .build t ps) {lo : LOp LO} {lv : LOp Value} (hc : cOp P (.build t ps) = some lo) (hs : lo.sub rd = some lv) (hx : lexec q lv h = some (v, h'))
    (hr : HR ν h w) (hv : OpsR ν (.build t ps) rd ρ) : Good P o ρ ν h w v h' := by
  have hv' : ∀ x ∈ ps.toList.map (·.2), ∀ lx v, cLO x = some lx → rd lx = some v → VR ν v (ρ x) := fun x hx => hv x (by simpa [Op.operands] using hx)
  have hps : (ps.map fun (i, x) => (i, ρ x)).toList = ps.toList.map fun (i, x) => (i, ρ x) := by simp
  simp only [cOp] at hc
  split at hc
  · rename_i fs z hu hz
    obtain ⟨i, u, hi, hiu, rfl, hall⟩ := zeroOf_spec hz
    split at hc
    · rename_i pl hpl
      obtain ⟨lp, hlp, rfl⟩ := map_some hc
      obtain ⟨lp2, hlp2, hlv⟩ := map_some hs
      subst hlv
      simp only [lexec] at hx
      obtain ⟨r, hfill, hx⟩ := map_some hx
      simp only [Prod.mk.injEq] at hx
      obtain ⟨rfl, rfl⟩ := hx
      have hpr := cParts_PartsR hlp hlp2 hv'
      obtain ⟨r', hr', hrr⟩ := fill_VRs lp2 _ _ u.cells r hpr (all_const_VRs hall ν) hfill
      refine Good.pure hr (v' := .agg r') ?_ (VRs.agg (by simpa using hrr))
      have hm := mapM_places hpl w
      have hfun : (fun (i : Nat) => pl.toArray[i]?) = (fun (i : Nat) => pl[i]?) := by funext i; simp
      have hcong : Instr.fill (fun (i : Nat) => pl.toArray[i]?) u.cells (ps.map fun (i, x) => (i, ρ x)).toList = some r' := by rw [hfun, hps]; exact hr'
      have hcong' : Instr.fill (fun (i : Nat) => pl.toArray[i]?) u.cells (ps.toList.map fun x => (x.fst, ρ x.snd)) = some r' := by simpa using hcong
      simp [execOp, ho, Instr.build, run_zeroValue hi hiu, run_underlying hu, Array.mapM_eq_mapM_toList, hm]
      simp at hcong'
      simp [hcong']
    · cases hc
  · rename_i n e z hu hz
    obtain ⟨i, u, hi, hiu, rfl, hall⟩ := zeroOf_spec hz
    split at hc
    · rename_i k hk
      obtain ⟨lp, hlp, rfl⟩ := map_some hc
      obtain ⟨lp2, hlp2, hlv⟩ := map_some hs
      subst hlv
      simp only [lexec] at hx
      obtain ⟨r, hfill, hx⟩ := map_some hx
      simp only [Prod.mk.injEq] at hx
      obtain ⟨rfl, rfl⟩ := hx
      have hpr := cParts_PartsR hlp hlp2 hv'
      obtain ⟨r', hr', hrr⟩ := fill_VRs lp2 _ _ u.cells r hpr (all_const_VRs hall ν) hfill
      refine Good.pure hr (v' := .agg r') ?_ (VRs.agg (by simpa using hrr))
      have hcong : Instr.fill (fun i => some (i * k, k)) u.cells (ps.map fun (i, x) => (i, ρ x)).toList = some r' := by rw [hps]; exact hr'
      simp [execOp, ho, Instr.build, run_zeroValue hi hiu, run_underlying hu, run_sizeOf hk]
      have hcong' : Instr.fill (fun i => some (i * k, k)) u.cells (ps.toList.map fun x => (x.fst, ρ x.snd)) = some r' := by simpa using hcong
      simp [hcong']
    · cases hc
  · cases hc

theorem range_flatten (z : List Value) (len n : Nat) (hn : z.length = n) (hpos : n ≠ 0) : ((Array.range (len * n)).map (z.toArray[· % z.toArray.size]!)).toList = (List.replicate len z).flatten := by
  apply List.ext_getElem?
  intro i
  have hfl : ∀ (m i : Nat), ((List.replicate m z).flatten)[i]? = if i < m * n then z[i % n]? else none := by
    intro m
    induction m with
    | zero => intro i; simp
    | succ m ih =>
      intro i
      rw [List.replicate_succ, List.flatten_cons, List.getElem?_append, hn]
      by_cases h1 : i < n
      · rw [if_pos h1, if_pos (by rw [Nat.succ_mul]; omega), Nat.mod_eq_of_lt h1]
      · rw [if_neg h1, ih]
        have e1 : i % n = (i - n) % n := by
          rw [Nat.mod_eq_sub_mod (by omega)]
        by_cases h2 : i < (m + 1) * n
        · rw [if_pos h2, if_pos (by rw [Nat.succ_mul] at h2; omega), e1]
        · rw [if_neg h2, if_neg (by rw [Nat.succ_mul] at h2; omega)]
  rw [hfl]
  simp only [Array.toList_map, Array.toList_range, List.getElem?_map, List.size_toArray, hn]
  by_cases h1 : i < len * n
  · rw [if_pos h1, List.getElem?_range h1]
    have : i % n < z.length := by rw [hn]; exact Nat.mod_lt _ (by omega)
    simp [this]
  · rw [if_neg h1, List.getElem?_eq_none (by simp; omega)]
    rfl

theorem good_buildSlice {t : TypeId} {len : Nat} {ps : Array (Nat × Operand)} (ho : o.op = .buildSlice t len ps) {lo : LOp LO} {lv : LOp Value} (hc : cOp P (.buildSlice t len ps) = some lo) (hs : lo.sub rd = some lv) (hx : lexec q lv h = some (v, h'))
    (hr : HR ν h w) (hv : OpsR ν (.buildSlice t len ps) rd ρ) : Good P o ρ ν h w v h' := by
  have hv' : ∀ x ∈ ps.toList.map (·.2), ∀ lx v, cLO x = some lx → rd lx = some v → VR ν v (ρ x) := fun x hx => hv x (by simpa [Op.operands] using hx)
  have hps : (ps.map fun (i, x) => (i, ρ x)).toList = ps.toList.map fun (i, x) => (i, ρ x) := by simp
  simp only [cOp] at hc
  split at hc
  · rename_i e hu
    split at hc
    · rename_i n z hn hz
      split at hc
      · rename_i hzn
        obtain ⟨hzn, hpos⟩ := hzn
        obtain ⟨i, u, hi, hiu, rfl, hall⟩ := zeroOf_spec hz
        obtain ⟨lp, hlp, rfl⟩ := map_some hc
        obtain ⟨lp2, hlp2, hlv⟩ := map_some hs
        subst hlv
        simp only [lexec] at hx
        split at hx
        · rename_i hsmall
          obtain ⟨r, hfill, hx⟩ := map_some hx
          simp only [Prod.mk.injEq] at hx
          obtain ⟨rfl, rfl⟩ := hx
          have hpr := cParts_PartsR hlp hlp2 hv'
          have hz0 : (Array.range (len * n)).map (u.cells[· % u.cells.size]!) = ((List.replicate len u.cells.toList).flatten).toArray := by
            have := range_flatten u.cells.toList len n hzn hpos
            apply Array.ext'
            simpa using this
          have hzero : VRs ν (List.replicate len u.cells.toList).flatten ((Array.range (len * n)).map (u.cells[· % u.cells.size]!)).toList := by
            rw [hz0]
            refine all_const_VRs ?_ ν
            rw [List.all_eq_true] at hall ⊢
            intro x hx
            simp only [List.mem_flatten, List.mem_replicate] at hx
            obtain ⟨l, ⟨_, rfl⟩, hx⟩ := hx
            exact hall x hx
          obtain ⟨r', hr', hrr⟩ := fill_VRs lp2 _ _ _ r hpr hzero hfill
          have hlen := hrr.1
          have hl2 : r'.size = len * n := by
            have hgen : ∀ (l : List (Nat × Nat × Value)) (cs r : List Value), lfill cs l = some r → r.length = cs.length := by
              intro l
              induction l with
              | nil => intro cs r h; simp only [lfill, Option.some.injEq] at h; rw [h]
              | cons p l ih =>
                obtain ⟨a, b, c⟩ := p
                intro cs r h
                simp only [lfill] at h
                split at h
                · rename_i hh
                  rw [ih _ _ h, length_splice _ _ _ (by simp; omega)]
                · cases h
            have := hgen _ _ _ hfill
            simp only [Array.length_toList] at hlen
            rw [← hlen, this]
            simp [List.length_flatten, ← hzn]
          have hal := hr.alloc r r' e (0, 0) (by simp at hlen; omega) (fun j v hj => by
            obtain ⟨v', p, q⟩ := hrr.get hj
            exact ⟨v', by simpa using p, q⟩) (fun k _ => by simp)
          refine ⟨_, .slice (some ⟨w.heap.size, 0, none⟩) len len, _, .inl ?_, ?_, hal.1, hal.2⟩
          · have hcong' : Instr.fill (fun i => some (i * n, n)) ((Array.range (len * n)).map (u.cells[· % u.cells.size]!)) (ps.toList.map fun x => (x.fst, ρ x.snd)) = some r' := by simpa using (hps ▸ hr')
            have hsm : ¬ (2 ^ 24 < len * n) := by omega
            simp only [execOp, ho, Instr.buildSlice, Sem.run_bind, run_underlying hu, Result.andThen_ok, run_sizeOf hn]
            by_cases h0 : len * n = 0
            · have hrz : r' = #[] := by apply Array.eq_empty_of_size_eq_zero; omega
              subst hrz
              have hA : ∀ f : Nat → Value, Array.map f (Array.range 0) = #[] := fun f => by apply Array.eq_empty_of_size_eq_zero; simp
              have hpe : Instr.fill (fun i => some (i * n, n)) #[] (ps.toList.map fun x => (x.fst, ρ x.snd)) = some #[] := by
                simpa [h0, hA] using hcong'
              simp [h0, newRow, hA, hpe]
            · simp [h0, hsm, run_zeroValue hi hiu, newRow]
              simp [hcong']
          · exact VR.slice (o := 0) (Inj.put_same ν h.size _) (Nat.le_refl _) (by simp [hl2])
        · cases hx
      · cases hc
    · cases hc
  · cases hc

end
end Go.E1
