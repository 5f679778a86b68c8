/-
  Rules by which the weakest conditions are reckoned out, one operation at a time.
-/
import Derived.Test.YtmopgljjpmepnaaE1Plain
import Derived.IntWalk
namespace Go.E1
open Go

/-! ### The machine: states without any function in them, so that the simplifier goes step by step -/

inductive Cont where
  | done (rs : List LRes)
  | code (c : LCode) (k : Cont)
  | block (id : Nat) (k : Cont)
  | inv (J : Fr → LHeap → Prop) (k : Cont)

def kont (E : Env) (Q : Value → LHeap → Prop) : Cont → LEx → Fr → LHeap → Prop
  | .done rs, x, fr, h => onX x (bnd (finish rs fr h) fun v => Q v h) (fun _ => False) (bnd (finish rs fr h) fun v => Q v h)
  | .code c k, x, fr, h => onX x (LC E c fr h (kont E Q k)) (fun j => kont E Q k (.exit j) fr h) (kont E Q k .ret fr h)
  | .block id k, x, fr, h => onX x (kont E Q k .normal fr h) (fun j => if j = id then kont E Q k .normal fr h else kont E Q k (.exit j) fr h) (kont E Q k .ret fr h)
  | .inv J k, x, fr, h => onX x (J fr h) (fun j => kont E Q k (.exit j) fr h) (kont E Q k .ret fr h)

def MC (E : Env) (c : LCode) (k : Cont) (fr : Fr) (h : LHeap) (Q : Value → LHeap → Prop) : Prop := LC E c fr h (kont E Q k)
def MK (E : Env) (x : LEx) (k : Cont) (fr : Fr) (h : LHeap) (Q : Value → LHeap → Prop) : Prop := kont E Q k x fr h
def MO (E : Env) (ops : List LOper) (ks : List Nat) (k : Cont) (fr : Fr) (h : LHeap) (Q : Value → LHeap → Prop) : Prop := LOps E ops fr h fun fr' h' => kont E Q k .normal (fr'.keep ks) h'
/-- A branch. -/
def MB (E : Env) (x : Option Value) (a b : LCode) (k : Cont) (fr : Fr) (h : LHeap) (Q : Value → LHeap → Prop) : Prop := bnd x fun v => onB v (MC E a k fr h Q) (MC E b k fr h Q)
/-- The end. -/
def MF (x : Option Value) (h : LHeap) (Q : Value → LHeap → Prop) : Prop := bnd x fun v => Q v h
/-- Behind an operation. -/
def MX (E : Env) (x : Option (Value × LHeap)) (d : Option Nat) (r : List LOper) (ks : List Nat) (k : Cont) (fr : Fr) (Q : Value → LHeap → Prop) : Prop := bnd x fun p => MO E r ks k (fr.put d p.1) p.2 Q
/-- Behind what answers by its arguments alone. -/
def MXp (E : Env) (x : Option Value) (d : Option Nat) (r : List LOper) (ks : List Nat) (k : Cont) (fr : Fr) (h : LHeap) (Q : Value → LHeap → Prop) : Prop := bnd x fun v => MO E r ks k (fr.put d v) h Q
def MP (E : Env) (c a b : Option Value) (d : Option Nat) (r : List LOper) (ks : List Nat) (k : Cont) (fr : Fr) (h : LHeap) (Q : Value → LHeap → Prop) : Prop := bnd c fun v => onB v (bnd a fun x => MO E r ks k (fr.put d x) h Q) (bnd b fun x => MO E r ks k (fr.put d x) h Q)
def MV (E : Env) (f : Option Value) (args : Option (List Value)) (d : Option Nat) (r : List LOper) (ks : List Nat) (k : Cont) (fr : Fr) (h : LHeap) (Q : Value → LHeap → Prop) : Prop := bnd f fun v => bnd args fun vs => onF v fun g cap => LCalls E g (vs ++ cap.toList) h fun v h' => MO E r ks k (fr.put d v) h' Q
/-- At a call. -/
def MCall (E : Env) (g : FuncId) (args : List Value) (h : LHeap) (d : Option Nat) (r : List LOper) (ks : List Nat) (k : Cont) (fr : Fr) (Q : Value → LHeap → Prop) : Prop := LCalls E g args h fun v h' => MO E r ks k (fr.put d v) h' Q
/-- At a guard. -/
def MG (E : Env) (x : Option Value) (w : Bool) (d : Option Nat) (a : LAct) (r : List LOper) (ks : List Nat) (k : Cont) (fr : Fr) (h : LHeap) (Q : Value → LHeap → Prop) : Prop :=
  bnd x fun v => onB v (if w then MO E (⟨d, a, none⟩ :: r) ks k fr h Q else MO E r ks k (fr.put d undefL) h Q) (if w then MO E r ks k (fr.put d undefL) h Q else MO E (⟨d, a, none⟩ :: r) ks k fr h Q)
def lxs (q : EqF) (x : Option (LOp Value)) (h : LHeap) : Option (Value × LHeap) := x.bind fun lv => lexec q lv h

theorem LCalls.enter {E : Env} {f : FuncId} {lf : LFunc} {args : List Value} {h : LHeap} {Q : Value → LHeap → Prop} (hp : E.prim f = none) (hc : E.code f = some lf) (hl : args.length ≤ lf.ntmps)
    (w : MC E lf.body (.done lf.results) (params 0 args) h Q) : LCalls E f args h Q := LCalls.code hp hc hl w

/-- A call by what is known of it. -/
theorem MCall.by {E : Env} {g : FuncId} {args : List Value} {h : LHeap} {d : Option Nat} {r : List LOper} {ks : List Nat} {k : Cont} {fr : Fr} {Q R : Value → LHeap → Prop}
    (hc : LCalls E g args h R) (w : ∀ v h', R v h' → MO E r ks k (fr.put d v) h' Q) : MCall E g args h d r ks k fr Q := hc.mono w

theorem MC.loop {E : Env} {a : LCode} {k : Cont} {fr : Fr} {h : LHeap} {Q : Value → LHeap → Prop} (I : Nat → Fr → LHeap → Prop) (n : Nat) (start : I n fr h)
    (step : ∀ n fr h (J : Fr → LHeap → Prop), I n fr h → (∀ m fr h, m < n → I m fr h → J fr h) → MC E a (.inv J k) fr h Q) : MC E (.loop a) k fr h Q :=
  LC.loop I n start fun n fr h hI => step n fr h (fun fr h => ∃ m, m < n ∧ I m fr h) hI fun m _ _ hm hI => ⟨m, hm, hI⟩

section
variable {E : Env} {fr : Fr} {h : LHeap} {Q : Value → LHeap → Prop} {k : Cont}

@[go_sem] theorem MC_skip : MC E .skip k fr h Q = MK E .normal k fr h Q := Eq.trans rfl rfl
@[go_sem] theorem MC_region (ops : List LOper) (ks : List Nat) : MC E (.region ops ks) k fr h Q = MO E ops ks k fr h Q := Eq.trans rfl rfl
@[go_sem] theorem MC_seq (a b : LCode) : MC E (.seq a b) k fr h Q = MC E a (.code b k) fr h Q := Eq.trans rfl rfl
@[go_sem] theorem MC_cond (c : LO) (a b : LCode) : MC E (.cond c a b) k fr h Q = MB E (fr.rd c) a b k fr h Q := Eq.trans rfl rfl
@[go_sem] theorem MC_block (id : Nat) (a : LCode) : MC E (.block id a) k fr h Q = MC E a (.block id k) fr h Q := Eq.trans rfl rfl
@[go_sem] theorem MC_exit (id : Nat) : MC E (.exit id) k fr h Q = MK E (.exit id) k fr h Q := Eq.trans rfl rfl
@[go_sem] theorem MC_ret : MC E .ret k fr h Q = MK E .ret k fr h Q := Eq.trans rfl rfl
@[go_sem] theorem MB_t (a b : LCode) : MB E (some (.bool true)) a b k fr h Q = MC E a k fr h Q := by simp [MB, bnd, onB]
@[go_sem] theorem MB_f (a b : LCode) : MB E (some (.bool false)) a b k fr h Q = MC E b k fr h Q := by simp [MB, bnd, onB]
theorem MB.split {c : Bool} {a b : LCode} (x : c = true → MC E a k fr h Q) (y : c = false → MC E b k fr h Q) : MB E (some (.bool c)) a b k fr h Q := ⟨x, y⟩
@[go_sem] theorem MK_code (c : LCode) : MK E .normal (.code c k) fr h Q = MC E c k fr h Q := Eq.trans rfl rfl
@[go_sem] theorem MK_code_x (j : Nat) (c : LCode) : MK E (.exit j) (.code c k) fr h Q = MK E (.exit j) k fr h Q := Eq.trans rfl rfl
@[go_sem] theorem MK_code_r (c : LCode) : MK E .ret (.code c k) fr h Q = MK E .ret k fr h Q := Eq.trans rfl rfl
@[go_sem] theorem MK_block (id : Nat) : MK E .normal (.block id k) fr h Q = MK E .normal k fr h Q := Eq.trans rfl rfl
@[go_sem] theorem MK_block_x (j id : Nat) : MK E (.exit j) (.block id k) fr h Q = if j = id then MK E .normal k fr h Q else MK E (.exit j) k fr h Q := Eq.trans rfl rfl
@[go_sem] theorem MK_block_r (id : Nat) : MK E .ret (.block id k) fr h Q = MK E .ret k fr h Q := Eq.trans rfl rfl
@[go_sem] theorem MK_inv (J : Fr → LHeap → Prop) : MK E .normal (.inv J k) fr h Q = J fr h := Eq.trans rfl rfl
@[go_sem] theorem MK_inv_x (J : Fr → LHeap → Prop) (j : Nat) : MK E (.exit j) (.inv J k) fr h Q = MK E (.exit j) k fr h Q := Eq.trans rfl rfl
@[go_sem] theorem MK_inv_r (J : Fr → LHeap → Prop) : MK E .ret (.inv J k) fr h Q = MK E .ret k fr h Q := Eq.trans rfl rfl
@[go_sem] theorem MK_done (rs : List LRes) : MK E .normal (.done rs) fr h Q = MF (finish rs fr h) h Q := Eq.trans rfl rfl
@[go_sem] theorem MK_done_r (rs : List LRes) : MK E .ret (.done rs) fr h Q = MF (finish rs fr h) h Q := Eq.trans rfl rfl
@[go_sem] theorem MF_some (v : Value) : MF (some v) h Q = Q v h := Eq.trans rfl rfl
@[go_sem] theorem MO_nil (ks : List Nat) : MO E [] ks k fr h Q = MK E .normal k (fr.keep ks) h Q := Eq.trans rfl rfl
@[go_sem] theorem MO_op (d : Option Nat) (o : LOp LO) (r : List LOper) (ks : List Nat) : MO E (⟨d, .op o, none⟩ :: r) ks k fr h Q = MX E (lxs E.q (o.sub fr.rd) h) d r ks k fr Q := by
  simp only [MO, MX, LOps, LAct.wp, lxs]
  cases o.sub fr.rd <;> rfl
@[go_sem] theorem MO_pick (d : Option Nat) (c a b : LO) (r : List LOper) (ks : List Nat) : MO E (⟨d, .pick c a b, none⟩ :: r) ks k fr h Q = MP E (fr.rd c) (fr.rd a) (fr.rd b) d r ks k fr h Q := Eq.trans rfl rfl
@[go_sem] theorem MO_call (d : Option Nat) (f : LO) (args : List LO) (r : List LOper) (ks : List Nat) : MO E (⟨d, .call f args, none⟩ :: r) ks k fr h Q = MV E (fr.rd f) (LOp.listM fr.rd args) d r ks k fr h Q := Eq.trans rfl rfl
@[go_sem] theorem MO_guard (d : Option Nat) (a : LAct) (t : Nat) (w : Bool) (r : List LOper) (ks : List Nat) : MO E (⟨d, a, some (t, w)⟩ :: r) ks k fr h Q = MG E (fr.get t) w d a r ks k fr h Q := by
  cases w <;> rfl
@[go_sem] theorem MX_some (v : Value) (h' : LHeap) (d : Option Nat) (r : List LOper) (ks : List Nat) : MX E (some (v, h')) d r ks k fr Q = MO E r ks k (fr.put d v) h' Q := Eq.trans rfl rfl
@[go_sem] theorem MXp_some (v : Value) (d : Option Nat) (r : List LOper) (ks : List Nat) : MXp E (some v) d r ks k fr h Q = MO E r ks k (fr.put d v) h Q := Eq.trans rfl rfl
@[go_sem] theorem MP_t (x : Value) (b : Option Value) (d : Option Nat) (r : List LOper) (ks : List Nat) : MP E (some (.bool true)) (some x) b d r ks k fr h Q = MO E r ks k (fr.put d x) h Q := by simp [MP, bnd, onB]
@[go_sem] theorem MP_f (x : Value) (a : Option Value) (d : Option Nat) (r : List LOper) (ks : List Nat) : MP E (some (.bool false)) a (some x) d r ks k fr h Q = MO E r ks k (fr.put d x) h Q := by simp [MP, bnd, onB]
@[go_sem] theorem MV_mk (g : FuncId) (cap : Array Value) (vs : List Value) (d : Option Nat) (r : List LOper) (ks : List Nat) : MV E (some (.func (.func g) #[] cap)) (some vs) d r ks k fr h Q = MCall E g (vs ++ cap.toList) h d r ks k fr Q := by simp [MV, MCall, bnd, onF]
@[go_sem] theorem MG_tt (d : Option Nat) (a : LAct) (r : List LOper) (ks : List Nat) : MG E (some (.bool true)) true d a r ks k fr h Q = MO E (⟨d, a, none⟩ :: r) ks k fr h Q := by simp [MG, bnd, onB]
@[go_sem] theorem MG_ft (d : Option Nat) (a : LAct) (r : List LOper) (ks : List Nat) : MG E (some (.bool false)) true d a r ks k fr h Q = MO E r ks k (fr.put d undefL) h Q := by simp [MG, bnd, onB]
@[go_sem] theorem MG_tf (d : Option Nat) (a : LAct) (r : List LOper) (ks : List Nat) : MG E (some (.bool true)) false d a r ks k fr h Q = MO E r ks k (fr.put d undefL) h Q := by simp [MG, bnd, onB]
@[go_sem] theorem MG_ff (d : Option Nat) (a : LAct) (r : List LOper) (ks : List Nat) : MG E (some (.bool false)) false d a r ks k fr h Q = MO E (⟨d, a, none⟩ :: r) ks k fr h Q := by simp [MG, bnd, onB]
@[go_sem] theorem lxs_some (q : EqF) (lv : LOp Value) : lxs q (some lv) h = lexec q lv h := Eq.trans rfl rfl
theorem MCall.pure {g : FuncId} {p : List Value → Option Value} (hp : E.prim g = some (pureP p)) (args : List Value) (d : Option Nat) (r : List LOper) (ks : List Nat) : MCall E g args h d r ks k fr Q = MXp E (p args) d r ks k fr h Q := LCalls.pure_eq hp args h _
end

section
variable {E : Env} {fr : Fr} {h : LHeap} {q : EqF}
@[go_sem] theorem map_some' {α β : Type} (f : α → β) (x : α) : Option.map f (some x) = some (f x) := Eq.trans rfl rfl
@[go_sem] theorem map_none' {α β : Type} (f : α → β) : Option.map f none = none := Eq.trans rfl rfl
@[go_sem] theorem rd_t (n : Nat) : fr.rd (.t n) = fr.get n := Eq.trans rfl rfl
@[go_sem] theorem rd_c (v : Value) : fr.rd (.c v) = some v := Eq.trans rfl rfl
@[go_sem] theorem get_cons (k n : Nat) (v : Value) (r : List (Nat × Value)) : Fr.get ((k, v) :: r) n = if k = n then some v else Fr.get r n := Eq.trans rfl rfl
@[go_sem] theorem put_some (d : Nat) (v : Value) : fr.put (some d) v = (d, v) :: fr := Eq.trans rfl rfl
@[go_sem] theorem put_none (v : Value) : fr.put none v = fr := Eq.trans rfl rfl
@[go_sem] theorem keep_nil : fr.keep [] = [] := Eq.trans rfl rfl
@[go_sem] theorem keepc (k : Nat) (ks : List Nat) : fr.keep (k :: ks) = match fr.get k with | some v => (k, v) :: fr.keep ks | none => fr.keep ks := Eq.trans rfl rfl
@[go_sem] theorem params_nil (i : Nat) : params i [] = [] := Eq.trans rfl rfl
@[go_sem] theorem params_cons (i : Nat) (v : Value) (l : List Value) : params i (v :: l) = (i, v) :: params (i + 1) l := Eq.trans rfl rfl


/-! ### The operations -/
@[go_sem] theorem x_mov (x : Value) : lexec q (.mov x) h = some (x, h) := Eq.trans rfl rfl
@[go_sem] theorem x_alloc (z : List Value) : lexec q (.alloc z) h = some (.pointer (some ⟨h.size, 0, none⟩), h.push (.cells z true true)) := Eq.trans rfl rfl
@[go_sem] theorem x_box (x : Value) : lexec q (.box x) h = some (.pointer (some ⟨h.size, 0, none⟩), h.push (.cells x.cells.toList true true)) := Eq.trans rfl rfl
@[go_sem] theorem x_build (z : List Value) (ps : List (Nat × Nat × Value)) : lexec q (.build z ps) h = (lfill z ps).map fun cs => (.agg cs.toArray, h) := Eq.trans rfl rfl
@[go_sem] theorem x_buildSlice (n e : Nat) (z : List Value) (ps : List (Nat × Nat × Value)) : lexec q (.buildSlice n e z ps) h = if n * e ≤ 16777216 then (lfill z ps).map fun cs => (.slice (some ⟨h.size, 0, none⟩) n e, h.push (.cells cs true true)) else none := Eq.trans rfl rfl
@[go_sem] theorem x_load1 (b o : Nat) : lexec q (.load1 (.pointer (some ⟨b, o, none⟩))) h = (h.load1 b o).map (·, h) := Eq.trans rfl rfl
@[go_sem] theorem x_loadN (n b o : Nat) : lexec q (.loadN n (.pointer (some ⟨b, o, none⟩))) h = (h.loadCells b o n).map fun cs => (.agg cs.toArray, h) := Eq.trans rfl rfl
@[go_sem] theorem x_store (n b o : Nat) (x : Value) : lexec q (.store n (.pointer (some ⟨b, o, none⟩)) x) h = if x.cells.size = n then (h.storeCells b o x.cells.toList).map (.tuple #[], ·) else none := Eq.trans rfl rfl
@[go_sem] theorem x_nilCheck (p : Addr) : lexec q (.nilCheck (.pointer (some p))) h = some (.pointer (some p), h) := Eq.trans rfl rfl
@[go_sem] theorem x_nilCheckF (f : FuncId) (c : Array Value) : lexec q (.nilCheck (.func (.func f) #[] c)) h = some (.func (.func f) #[] c, h) := Eq.trans rfl rfl
@[go_sem] theorem x_add (ty : EqT) (k : IntKind) (a b : Int) : lexec q (.bin .add ty (.int k a) (.int k b)) h = some (.int k (k.wrap (a + b)), h) := by simp [lexec, lbin, ibin, BinOp.isShift]
@[go_sem] theorem x_sub (ty : EqT) (k : IntKind) (a b : Int) : lexec q (.bin .sub ty (.int k a) (.int k b)) h = some (.int k (k.wrap (a - b)), h) := by simp [lexec, lbin, ibin, BinOp.isShift]
@[go_sem] theorem x_mul (ty : EqT) (k : IntKind) (a b : Int) : lexec q (.bin .mul ty (.int k a) (.int k b)) h = some (.int k (k.wrap (a * b)), h) := by simp [lexec, lbin, ibin, BinOp.isShift]
@[go_sem] theorem x_quo (ty : EqT) (k : IntKind) (a b : Int) : lexec q (.bin .quo ty (.int k a) (.int k b)) h = if b = 0 then none else some (.int k (k.wrap (a.tdiv b)), h) := by
  simp only [lexec, lbin, ibin, BinOp.isShift]; by_cases hb : b = 0 <;> simp [hb]
@[go_sem] theorem x_rem (ty : EqT) (k : IntKind) (a b : Int) : lexec q (.bin .rem ty (.int k a) (.int k b)) h = if b = 0 then none else some (.int k (a.tmod b), h) := by
  simp only [lexec, lbin, ibin, BinOp.isShift]; by_cases hb : b = 0 <;> simp [hb]
@[go_sem] theorem x_eql (ty : EqT) (k : IntKind) (a b : Int) : lexec q (.bin .eql ty (.int k a) (.int k b)) h = some (.bool (a == b), h) := by simp [lexec, lbin, ibin, BinOp.isShift]
@[go_sem] theorem x_neq (ty : EqT) (k : IntKind) (a b : Int) : lexec q (.bin .neq ty (.int k a) (.int k b)) h = some (.bool (a != b), h) := by simp [lexec, lbin, ibin, BinOp.isShift]
@[go_sem] theorem x_lss (ty : EqT) (k : IntKind) (a b : Int) : lexec q (.bin .lss ty (.int k a) (.int k b)) h = some (.bool (decide (a < b)), h) := by simp [lexec, lbin, ibin, BinOp.isShift]
@[go_sem] theorem x_leq (ty : EqT) (k : IntKind) (a b : Int) : lexec q (.bin .leq ty (.int k a) (.int k b)) h = some (.bool (decide (a ≤ b)), h) := by simp [lexec, lbin, ibin, BinOp.isShift]
@[go_sem] theorem x_gtr (ty : EqT) (k : IntKind) (a b : Int) : lexec q (.bin .gtr ty (.int k a) (.int k b)) h = some (.bool (decide (b < a)), h) := by simp [lexec, lbin, ibin, BinOp.isShift]
@[go_sem] theorem x_geq (ty : EqT) (k : IntKind) (a b : Int) : lexec q (.bin .geq ty (.int k a) (.int k b)) h = some (.bool (decide (b ≤ a)), h) := by simp [lexec, lbin, ibin, BinOp.isShift]
@[go_sem] theorem x_seql (ty : EqT) (a b : ByteArray) : lexec q (.bin .eql ty (.string a) (.string b)) h = some (.bool (a.data.toList == b.data.toList), h) := Eq.trans rfl rfl
@[go_sem] theorem x_sneq (ty : EqT) (a b : ByteArray) : lexec q (.bin .neq ty (.string a) (.string b)) h = some (.bool (!(a.data.toList == b.data.toList)), h) := Eq.trans rfl rfl
@[go_sem] theorem x_sadd (ty : EqT) (a b : ByteArray) : lexec q (.bin .add ty (.string a) (.string b)) h = if a.size + b.size ≤ 4611686018427387904 then some (.string (a ++ b), h) else none := by
  simp only [lexec, lbin, sbin]; by_cases hb : a.size + b.size ≤ 4611686018427387904 <;> simp [hb]
@[go_sem] theorem x_beql (a b : Bool) : lexec q (.bin .eql .bool (.bool a) (.bool b)) h = some (.bool (a == b), h) := Eq.trans rfl rfl
@[go_sem] theorem x_bneq (a b : Bool) : lexec q (.bin .neq .bool (.bool a) (.bool b)) h = some (.bool (!(a == b)), h) := Eq.trans rfl rfl
@[go_sem] theorem x_teql (t : TypeId) (a b : Array Value) : lexec q (.bin .eql (.typed t) (.agg a) (.agg b)) h = (q t (.agg a) (.agg b)).map fun r => (.bool r, h) := by
  simp only [lexec, lbin]; cases q t (.agg a) (.agg b) <;> rfl
@[go_sem] theorem x_tneq (t : TypeId) (a b : Array Value) : lexec q (.bin .neq (.typed t) (.agg a) (.agg b)) h = (q t (.agg a) (.agg b)).map fun r => (.bool (!r), h) := by
  simp only [lexec, lbin]; cases q t (.agg a) (.agg b) <;> rfl
@[go_sem] theorem x_not (b : Bool) : lexec q (.un .not (.bool b)) h = some (.bool (!b), h) := Eq.trans rfl rfl
@[go_sem] theorem x_neg (k : IntKind) (n : Int) : lexec q (.un .neg (.int k n)) h = some (.int k (k.wrap (0 - n)), h) := Eq.trans rfl rfl
@[go_sem] theorem x_convInt (k k' : IntKind) (n : Int) : lexec q (.convInt k (.int k' n)) h = some (.int k (k.wrap n), h) := Eq.trans rfl rfl
@[go_sem] theorem x_convStr (s : ByteArray) : lexec q (.convStr (.string s)) h = some (.string s, h) := Eq.trans rfl rfl
@[go_sem] theorem x_strBytes (s : ByteArray) : lexec q (.strBytes (.string s)) h = some (.slice (some ⟨h.size, 0, none⟩) s.size 1, h.push (.cells (s.data.toList.map fun b => .int .u8 b.toNat) true true)) := Eq.trans rfl rfl
@[go_sem] theorem x_makeFunc (f : Fn) (c : List Value) : lexec q (.makeFunc f c) h = some (.func f #[] c.toArray, h) := Eq.trans rfl rfl
@[go_sem] theorem x_fieldAddr (off b o : Nat) : lexec q (.fieldAddr off (.pointer (some ⟨b, o, none⟩))) h = some (.pointer (some ⟨b, o + off, none⟩), h) := Eq.trans rfl rfl
@[go_sem] theorem x_field1 (off : Nat) (cs : Array Value) : lexec q (.field1 off (.agg cs)) h = (cs[off]?).map (·, h) := Eq.trans rfl rfl
@[go_sem] theorem x_fieldN (off n : Nat) (cs : Array Value) : lexec q (.fieldN off n (.agg cs)) h = if off + n ≤ cs.size then some (.agg (cs.extract off (off + n)), h) else none := Eq.trans rfl rfl
@[go_sem] theorem x_idxAddrA (len e b o : Nat) (k : IntKind) (i : Int) : lexec q (.idxAddrA len e (.pointer (some ⟨b, o, none⟩)) (.int k i)) h = if 0 ≤ i ∧ i < len then some (.pointer (some ⟨b, o + i.toNat * e, none⟩), h) else none := Eq.trans rfl rfl
@[go_sem] theorem x_idxAddrS (e b o n E : Nat) (k : IntKind) (i : Int) : lexec q (.idxAddrS e (.slice (some ⟨b, o, none⟩) n E) (.int k i)) h = if 0 ≤ i ∧ i < n ∧ E = e then some (.pointer (some ⟨b, o + i.toNat * e, none⟩), h) else none := Eq.trans rfl rfl
@[go_sem] theorem x_idxA1 (len : Nat) (cs : Array Value) (k : IntKind) (i : Int) : lexec q (.idxA1 len (.agg cs) (.int k i)) h = if 0 ≤ i ∧ i < len then (cs[i.toNat]?).map (·, h) else none := Eq.trans rfl rfl
@[go_sem] theorem x_idxAN (len e : Nat) (cs : Array Value) (k : IntKind) (i : Int) : lexec q (.idxAN len e (.agg cs) (.int k i)) h = if 0 ≤ i ∧ i < len ∧ i.toNat * e + e ≤ cs.size then some (.agg (cs.extract (i.toNat * e) (i.toNat * e + e)), h) else none := Eq.trans rfl rfl
@[go_sem] theorem x_idxStr (s : ByteArray) (k : IntKind) (i : Int) : lexec q (.idxStr (.string s) (.int k i)) h = if 0 ≤ i then (s.data.toList[i.toNat]?).map fun b => (.int .u8 b.toNat, h) else none := Eq.trans rfl rfl
@[go_sem] theorem x_extract (i : Nat) (vs : Array Value) : lexec q (.extract i (.tuple vs)) h = (vs[i]?).map (·, h) := Eq.trans rfl rfl
@[go_sem] theorem x_lenStr (s : ByteArray) : lexec q (.lenStr (.string s)) h = some (.int .i64 s.size, h) := Eq.trans rfl rfl
@[go_sem] theorem x_lenS (a : Option Addr) (n E : Nat) : lexec q (.lenS (.slice a n E)) h = some (.int .i64 n, h) := Eq.trans rfl rfl
@[go_sem] theorem x_slice0 (e b o n : Nat) : lexec q (.slice e (.slice (some ⟨b, o, none⟩) n e) none none none) h = some (.slice (some ⟨b, o, none⟩) n e, h) := by
  simp [lexec, lo1]
theorem x_sliceArr0 (n e b o : Nat) (cs : List Value) (t r : Bool) (hg : h.get b = some (.cells cs t r)) (hl : o + n * e ≤ cs.length) : lexec q (.sliceArr n e (.pointer (some ⟨b, o, none⟩)) none none none) h = some (.slice (some ⟨b, o, none⟩) n e, h) := by
  simp [lexec, lo1, hg, hl]

/-! ### Memory -/
theorem m_load1 {b o : Nat} {cs : List Value} {t r : Bool} (hg : h.get b = some (.cells cs t r)) : h.load1 b o = cs[o]? := by simp [LHeap.load1, hg]
theorem m_loadCells {b o n : Nat} {cs : List Value} {t r : Bool} (hg : h.get b = some (.cells cs t r)) : h.loadCells b o n = if o + n ≤ cs.length then some ((cs.drop o).take n) else none := by simp [LHeap.loadCells, hg]
theorem m_storeCells {b o : Nat} {vs cs : List Value} {t : Bool} (hg : h.get b = some (.cells cs t true)) : h.storeCells b o vs = if o + vs.length ≤ cs.length ∧ oneCells vs = true then some (h.set b (.cells (splice cs o vs) t true)) else none := by simp [LHeap.storeCells, hg]
end

@[go_sem] theorem oc_cons (v : Value) (l : List Value) : oneCells (v :: l) = (v.oneCell' && oneCells l) := Eq.trans rfl rfl
@[go_sem] theorem oc_nil : oneCells [] = true := Eq.trans rfl rfl
@[go_sem] theorem oc_int (k : IntKind) (n : Int) : (Value.int k n).oneCell' = true := Eq.trans rfl rfl
@[go_sem] theorem oc_bool (b : Bool) : (Value.bool b).oneCell' = true := Eq.trans rfl rfl
@[go_sem] theorem oc_string (s : ByteArray) : (Value.string s).oneCell' = true := Eq.trans rfl rfl
@[go_sem] theorem oc_pointer (a : Option Addr) : (Value.pointer a).oneCell' = true := Eq.trans rfl rfl
@[go_sem] theorem oc_slice (a : Option Addr) (n c : Nat) : (Value.slice a n c).oneCell' = true := Eq.trans rfl rfl
@[go_sem] theorem oc_map (a : Option Nat) : (Value.map a).oneCell' = true := Eq.trans rfl rfl
@[go_sem] theorem oc_func (f : Fn) (a c : Array Value) : (Value.func f a c).oneCell' = true := Eq.trans rfl rfl
@[go_sem] theorem oc_nilFunc : Value.nilFunc.oneCell' = true := Eq.trans rfl rfl
@[go_sem] theorem oc_nilIface : Value.nilIface.oneCell' = true := Eq.trans rfl rfl
@[go_sem] theorem oc_iface (t : TypeId) (v : Value) : (Value.iface t v).oneCell' = true := Eq.trans rfl rfl

attribute [go_sem] bnd_some bnd_none LOp.sub LOp.optM LOp.listM LOp.partsM LHeap.load1 LHeap.loadCells LHeap.storeCells LHeap.get_set LHeap.get_push LHeap.size_set LHeap.size_push LHeap.get_empty LHeap.size_empty splice lfill Value.cells finish lres leafEq cellsEq qOf
attribute [go_sem] Int.reduceToNat Int.reduceLT Int.reduceLE Int.reduceEq Int.reduceBEq Int.reduceBNe Int.reduceAdd Int.reduceSub Int.reduceMul Int.reduceNeg Int.cast_ofNat_Int Int.ofNat_eq_natCast Int.natCast_zero Int.natCast_one Nat.reduceMul Nat.reduceSub Nat.mul_one Nat.one_mul Nat.zero_mul Int.toNat_natCast decide_true decide_false Bool.true_and Bool.false_and Bool.and_false Bool.not_true Bool.not_false Bool.true_or Bool.or_true Bool.false_or Bool.or_false Nat.le_refl
attribute [go_sem] reduceIte Nat.reduceEqDiff Nat.reduceAdd Nat.reduceLeDiff Nat.reduceLT Nat.zero_add Nat.add_zero List.getElem?_cons_zero List.getElem?_cons_succ List.getElem?_toArray List.take_succ_cons List.take_zero List.drop_succ_cons List.drop_zero List.length_cons List.length_nil List.size_toArray List.append_eq List.cons_append List.nil_append List.append_nil List.all_cons List.all_nil Bool.and_true Bool.and_self and_self and_true true_and if_true if_false List.lookup_cons beq_self_eq_true

end Go.E1
