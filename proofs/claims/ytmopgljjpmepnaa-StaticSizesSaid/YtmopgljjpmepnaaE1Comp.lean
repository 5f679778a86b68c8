/-
  The engine's code, its evaluator, and how a loaded function becomes such code.
-/
import Derived.Test.YtmopgljjpmepnaaE1Ops
import Derived.Orders
namespace Go.E1
open Go

inductive LAct where
  | op (o : LOp LO)
  | pick (c a b : LO)
  | call (f : LO) (args : List LO)

structure LOper where
  dst : Option Nat
  act : LAct
  guard : Option (Nat × Bool)

inductive LCode where
  | skip
  | region (ops : List LOper) (keep : List Nat)
  | dregion (ops : List (LOper × Nat × Nat)) (keep : List Nat)
  | seq (a b : LCode)
  | cond (c : LO) (a b : LCode)
  | block (id : Nat) (a : LCode)
  | loop (a : LCode)
  | exit (id : Nat)
  | ret

inductive LRes where
  | tmp (t : Nat)
  | cell1 (t : Nat)
  | cellN (t n : Nat)

structure LFunc where
  ntmps : Nat
  results : List LRes
  body : LCode

/-! ### Frames -/

abbrev Fr := List (Nat × Value)

def Fr.get : Fr → Nat → Option Value
  | [], _ => none
  | (k, v) :: r, n => if k = n then some v else Fr.get r n

def Fr.rd (fr : Fr) : LO → Option Value
  | .t n => fr.get n
  | .c v => some v

def Fr.put (fr : Fr) (d : Option Nat) (v : Value) : Fr :=
  match d with
  | some d => (d, v) :: fr
  | none => fr

def Fr.keep (fr : Fr) : List Nat → Fr
  | [] => []
  | k :: ks => match fr.get k with
    | some v => (k, v) :: fr.keep ks
    | none => fr.keep ks

/-! ### The evaluator -/

abbrev CallF := FuncId → List Value → LHeap → Option (Value × LHeap)

def lact (q : EqF) (call : CallF) (a : LAct) (fr : Fr) (h : LHeap) : Option (Value × LHeap) :=
  match a with
  | .op o => match o.sub fr.rd with
    | some lv => lexec q lv h
    | none => none
  | .pick c a b => match fr.rd c with
    | some (.bool true) => (fr.rd a).map (·, h)
    | some (.bool false) => (fr.rd b).map (·, h)
    | _ => none
  | .call f args => match fr.rd f, LOp.listM fr.rd args with
    | some (.func (.func g) first cap), some vs => if first.size = 0 then call g (vs ++ cap.toList) h else none
    | _, _ => none

def undefL : Value := .tuple #[]

/-- Is it wanted? -/
def LOper.wanted (o : LOper) (fr : Fr) : Option Bool :=
  match o.guard with
  | none => some true
  | some (t, want) => match fr.get t with
    | some (.bool b) => some (b == want)
    | _ => none

def loper (q : EqF) (call : CallF) (o : LOper) (fr : Fr) (h : LHeap) : Option (Fr × LHeap) :=
  match o.wanted fr with
  | some true => match lact q call o.act fr h with
    | some (v, h') => some (fr.put o.dst v, h')
    | none => none
  | some false => some (fr.put o.dst undefL, h)
  | none => none

def lops (q : EqF) (call : CallF) : List LOper → Fr → LHeap → Option (Fr × LHeap)
  | [], fr, h => some (fr, h)
  | o :: r, fr, h => match loper q call o fr h with
    | some (fr', h') => lops q call r fr' h'
    | none => none

def LAct.cls : LAct → LOp.Cls
  | .op o => o.cls
  | .pick .. => .pure
  | .call .. => .effect

/-! Values that are one (for a reader that is asked at several places). -/
mutual
def veq : Value → Value → Bool
  | .bool a, .bool b => a == b
  | .int k a, .int l b => k == l && a == b
  | .string a, .string b => decide (a = b)
  | .pointer a, .pointer b => a == b
  | .slice a n c, .slice b m d => a == b && n == m && c == d
  | .map a, .map b => a == b
  | .nilFunc, .nilFunc => true
  | .func f ⟨a⟩ ⟨c⟩, .func g ⟨b⟩ ⟨d⟩ => f == g && veqs a b && veqs c d
  | .nilIface, .nilIface => true
  | .iface t a, .iface u b => t == u && veq a b
  | .agg ⟨a⟩, .agg ⟨b⟩ => veqs a b
  | .tuple ⟨a⟩, .tuple ⟨b⟩ => veqs a b
  | _, _ => false
def veqs : List Value → List Value → Bool
  | [], [] => true
  | a :: l, b :: m => veq a b && veqs l m
  | _, _ => false
end

/-- A reader, as it stood when it was asked; what it told; behind how many effects it must have come. -/
structure Pend where
  op : LOp Value
  v : Value
  hi : Nat

def Pend.ok (q : EqF) (p : Pend) (h : LHeap) : Bool :=
  match lexec q p.op h with
  | some (v, _) => veq v p.v
  | none => false

/-- A region that draws its order, in the text's order: 'past': the heaps from the first on, each behind one effect more, the latest first. -/
def ldops (q : EqF) (call : CallF) : List (LOper × Nat × Nat) → Fr → LHeap → List LHeap → List Pend → Option (Fr × LHeap)
  | [], fr, h, _, _ => some (fr, h)
  | (o, lo, hi) :: r, fr, h, past, pend =>
    match o.act.cls with
    | .pure => match loper q call o fr h with
      | some (fr', _) => ldops q call r fr' h past pend
      | none => none
    | .reader => match o.wanted fr with
      | some false => ldops q call r (fr.put o.dst undefL) h past pend
      | some true => match o.act with
        | .op op => match op.sub fr.rd with
          | some lv => match lexec q lv h with
            | some (v, _) =>
              let p : Pend := ⟨lv, v, hi⟩
              if (past.take (past.length - lo)).all (p.ok q) = true then ldops q call r (fr.put o.dst v) h past (p :: pend) else none
            | none => none
          | none => none
        | _ => none
      | none => none
    | .effect => match o.wanted fr with
      | some false => ldops q call r (fr.put o.dst undefL) h (h :: past) pend
      | some true => match lact q call o.act fr h with
        | some (v, h') => if pend.all (fun p => (p.hi ≤ past.length) || p.ok q h') = true then ldops q call r (fr.put o.dst v) h' (h :: past) pend else none
        | none => none
      | none => none

inductive LEx where
  | normal
  | exit (id : Nat)
  | ret

abbrev StepF := Fr → LHeap → Option (LEx × Fr × LHeap)

def loopN (step : StepF) : Nat → StepF
  | 0, _, _ => none
  | n + 1, fr, h => match step fr h with
    | some (.normal, fr', h') => loopN step n fr' h'
    | r => r

def evC (q : EqF) (call : CallF) (fuel : Nat) : LCode → StepF
  | .skip, fr, h => some (.normal, fr, h)
  | .region ops ks, fr, h => match lops q call ops fr h with
    | some (fr', h') => some (.normal, fr'.keep ks, h')
    | none => none
  | .dregion ops ks, fr, h => match ldops q call ops fr h [] [] with
    | some (fr', h') => some (.normal, fr'.keep ks, h')
    | none => none
  | .seq a b, fr, h => match evC q call fuel a fr h with
    | some (.normal, fr', h') => evC q call fuel b fr' h'
    | r => r
  | .cond c a b, fr, h => match fr.rd c with
    | some (.bool true) => evC q call fuel a fr h
    | some (.bool false) => evC q call fuel b fr h
    | _ => none
  | .block id a, fr, h => match evC q call fuel a fr h with
    | some (.exit j, fr', h') => if j = id then some (.normal, fr', h') else some (.exit j, fr', h')
    | r => r
  | .loop a, fr, h => loopN (evC q call fuel a) fuel fr h
  | .exit id, fr, h => some (.exit id, fr, h)
  | .ret, fr, h => some (.ret, fr, h)

def lres (fr : Fr) (h : LHeap) : LRes → Option Value
  | .tmp t => fr.get t
  | .cell1 t => match fr.get t with
    | some (.pointer (some ⟨b, o, none⟩)) => h.load1 b o
    | _ => none
  | .cellN t n => match fr.get t with
    | some (.pointer (some ⟨b, o, none⟩)) => (h.loadCells b o n).map fun cs => .agg cs.toArray
    | _ => none

def finish (rs : List LRes) (fr : Fr) (h : LHeap) : Option Value :=
  match LOp.listM (lres fr h) rs with
  | some [v] => some v
  | some vs => some (.tuple vs.toArray)
  | none => none

def params : Nat → List Value → Fr
  | _, [] => []
  | i, v :: l => (i, v) :: params (i + 1) l

/-- What a function is evaluated by: its code, or a contract proved otherwise. -/
structure Env where
  code : FuncId → Option LFunc
  prim : FuncId → Option (List Value → LHeap → Option (Value × LHeap))
  q : EqF

def evF (E : Env) : Nat → CallF
  | 0, _, _, _ => none
  | n + 1, f, args, h => match E.prim f with
    | some p => p args h
    | none => match E.code f with
      | some lf => if args.length ≤ lf.ntmps then
          match evC E.q (evF E n) n lf.body (params 0 args) h with
          | some (.normal, fr, h') => (finish lf.results fr h').map (·, h')
          | some (.ret, fr, h') => (finish lf.results fr h').map (·, h')
          | _ => none
        else none
      | none => none

/-! ### From a loaded function to the engine's code -/

def constOk : Value → Bool
  | .bool _ | .int _ _ | .string _ | .pointer none | .slice none 0 0 | .map none | .nilFunc | .nilIface => true
  | _ => false

def cLO : Operand → Option LO
  | .tmp t => some (.t t)
  | .const v => if constOk v then some (.c v) else none
  | .func f => some (.c (.func (.func f) #[] #[]))
  | .global _ => none

def zeroOf (P : Program) (t : TypeId) : Option (List Value) :=
  match (P.info? t).bind (·.zero) with
  | some z => if z.cells.toList.all constOk then some z.cells.toList else none
  | none => none

def sizeP (P : Program) (t : TypeId) : Option Nat := (P.info? t).map (·.size)
def isAggP (P : Program) (t : TypeId) : Option Bool :=
  match P.underlying t with
  | some (.struct _) | some (.array _ _) => some true
  | some _ => some false
  | none => none

def cParts (f : Nat → Option (Nat × Nat)) : List (Nat × Operand) → Option (List (Nat × Nat × LO))
  | [] => some []
  | (i, x) :: r => match f i, cLO x, cParts f r with
    | some (o, n), some y, some m => some ((o, n, y) :: m)
    | _, _, _ => none

def cPlaces (P : Program) : List Field → Option (List (Nat × Nat))
  | [] => some []
  | f :: r => match sizeP P f.type, cPlaces P r with
    | some n, some m => some ((f.offset, n) :: m)
    | _, _ => none

def cEq (P : Program) (t : TypeId) : Option EqT :=
  match P.underlying t with
  | some .bool => some .bool
  | some (.int _) | some .string => some .basic
  | some (.pointer _) => some .ptr
  | some (.slice _) => some .slice
  | some (.map _ _) => some .map
  | some (.func _ _ _) => some .func
  | some (.struct _) | some (.array _ _) => some (.typed t)
  | _ => none

def opt (f : Operand → Option LO) : Option Operand → Option (Option LO)
  | none => some none
  | some x => (f x).map some

def cBuiltin (P : Program) (b : Builtin) (ts : Array TypeId) (args : List LO) : Option (LOp LO) :=
  match b, args with
  | .len, [x] => match (ts[0]?).bind P.underlying with
    | some .string => some (.lenStr x)
    | some (.slice _) => some (.lenS x)
    | some (.array n _) => some (.mov (.c (.int .i64 n)))
    | _ => none
  | .append, [s, x] => match (ts[0]?).bind P.underlying with
    | some (.slice e) => match P.info? e, (ts[1]?).bind P.underlying with
      | some i, some (.slice _) => if i.size ≠ 0 ∧ (zeroOf P e).map (·.length) = some i.size then some (.append i.size i.bytes s x) else none
      | some i, some .string => if i.size ≠ 0 ∧ (zeroOf P e).map (·.length) = some i.size then some (.append i.size i.bytes s x) else none
      | _, _ => none
    | _ => none
  | .copy, [d, s] => match (ts[0]?).bind P.underlying with
    | some (.slice e) => match sizeP P e with
      | some n => if n = 0 then none else some (.copy n d s)
      | none => none
    | _ => none
  | .max, xs => some (.minmax true xs)
  | .min, xs => some (.minmax false xs)
  | _, _ => none

def cOp (P : Program) (op : Op) : Option (LOp LO) :=
  match op with
  | .move x | .assign x => (cLO x).map .mov
  | .alloc e => (zeroOf P e).map .alloc
  | .box _ x => (cLO x).map .box
  | .build t ps => match P.underlying t, zeroOf P t with
    | some (.struct fs), some z => match cPlaces P fs.toList with
      | some pl => (cParts (fun i => pl[i]?) ps.toList).map (.build z)
      | none => none
    | some (.array _ e), some z => match sizeP P e with
      | some n => (cParts (fun i => some (i * n, n)) ps.toList).map (.build z)
      | none => none
    | _, _ => none
  | .buildSlice t len ps => match P.underlying t with
    | some (.slice e) => match sizeP P e, zeroOf P e with
      | some n, some z => if z.length = n ∧ n ≠ 0 then (cParts (fun i => some (i * n, n)) ps.toList).map (.buildSlice len n (List.replicate len z).flatten) else none
      | _, _ => none
    | _ => none
  | .load t a => match cLO a, isAggP P t, sizeP P t with
    | some a, some true, some n => some (.loadN n a)
    | some a, some false, some _ => some (.load1 a)
    | _, _, _ => none
  | .store t a x => match cLO a, cLO x, sizeP P t with
    | some a, some x, some n => some (.store n a x)
    | _, _, _ => none
  | .nilCheck x => (cLO x).map .nilCheck
  | .binOp op t x y _ => match cEq P t, cLO x, cLO y with
    | some e, some x, some y => some (.bin op e x y)
    | _, _, _ => none
  | .unOp op _ x => (cLO x).map (.un op)
  | .convert src dst x => match P.underlying src, P.underlying dst, cLO x with
    | some _, some (.int k), some x => some (.convInt k x)
    | some .string, some .string, some x => some (.convStr x)
    | some .string, some (.slice e), some x => match P.underlying e with
      | some (.int .u8) => some (.strBytes x)
      | _ => none
    | some (.slice e), some .string, some x => match P.underlying e with
      | some (.int .u8) => some (.bytesStr x)
      | _ => none
    | _, _, _ => none
  | .makeFunc fn first cap => if first.size = 0 then (LOp.listM cLO cap.toList).map (.makeFunc fn) else none
  | .makeMap _ none => some .makeMap
  | .makeSlice t n c => match P.underlying t with
    | some (.slice e) => match P.info? e, zeroOf P e, cLO n, cLO c with
      | some i, some z, some n, some c => if z.length = i.size ∧ i.size ≠ 0 then some (.makeSlice i.size i.bytes z n c) else none
      | _, _, _, _ => none
    | _ => none
  | .slice t x lo hi mx => match P.underlying t, cLO x, opt cLO lo, opt cLO hi, opt cLO mx with
    | some (.slice e), some x, some lo, some hi, some mx => match sizeP P e with
      | some n => some (.slice n x lo hi mx)
      | none => none
    | some .string, some x, some lo, some hi, some none => some (.sliceStr x lo hi)
    | some (.array n e), some x, some lo, some hi, some mx => match sizeP P e with
      | some k => if k = 0 then none else some (.sliceArr n k x lo hi mx)
      | none => none
    | _, _, _, _, _ => none
  | .fieldAddr s x i => match P.underlying s, cLO x with
    | some (.struct fs), some x => match fs[i]? with
      | some f => match sizeP P f.type with
        | some n => if n = 0 then none else some (.fieldAddr f.offset x)
        | none => none
      | none => none
    | _, _ => none
  | .field s x i => match P.underlying s, cLO x with
    | some (.struct fs), some x => match fs[i]? with
      | some f => match isAggP P f.type, sizeP P f.type with
        | some true, some n => some (.fieldN f.offset n x)
        | some false, some _ => some (.field1 f.offset x)
        | _, _ => none
      | none => none
    | _, _ => none
  | .indexAddr t x i => match P.underlying t, cLO x, cLO i with
    | some (.array len e), some x, some i => (sizeP P e).map fun n => .idxAddrA len n x i
    | some (.slice e), some x, some i => (sizeP P e).map fun n => .idxAddrS n x i
    | _, _, _ => none
  | .index t x i => match P.underlying t, cLO x, cLO i with
    | some (.array len e), some x, some i => match isAggP P e, sizeP P e with
      | some true, some n => some (.idxAN len n x i)
      | some false, some 1 => some (.idxA1 len x i)
      | _, _ => none
    | some .string, some x, some i => some (.idxStr x i)
    | _, _, _ => none
  | .extract x i => (cLO x).map (.extract i)
  | .call { callee := .builtin b, args, argTypes } => match LOp.listM cLO args.toList with
    | some l => cBuiltin P b argTypes l
    | none => none
  | _ => none

def cAct (P : Program) (op : Op) : Option LAct :=
  match op with
  | .pick c a b => match cLO c, cLO a, cLO b with
    | some c, some a, some b => some (.pick c a b)
    | _, _, _ => none
  | .call { callee := .value f, args, .. } => match cLO f, LOp.listM cLO args.toList with
    | some f, some l => some (.call f l)
    | _, _ => none
  | op => (cOp P op).map .op

def dstOk (n : Nat) : Option Nat → Bool
  | some d => decide (d < n)
  | none => true

def cOper (P : Program) (n : Nat) (ops : Array Oper) (o : Oper) : Option LOper :=
  match cAct P o.op with
  | none => none
  | some a =>
    if dstOk n o.dst = true then
      match o.guard with
      | none => some ⟨o.dst, a, none⟩
      | some (j, want) => match (ops[j]?).bind (·.dst) with
        | some t => some ⟨o.dst, a, some (t, want)⟩
        | none => none
    else none

def cOpers (P : Program) (n : Nat) (ops : Array Oper) : List Oper → Option (List LOper)
  | [] => some []
  | o :: r => match cOper P n ops o, cOpers P n ops r with
    | some x, some l => some (x :: l)
    | _, _ => none

/-! Regions that draw their order: which operations must come ahead of which, as bits. -/

def direct (o : Oper) : List Nat := (o.after.toList.filter (Region.binds .any)).map (·.on)

def maskOf (ms : List Nat) (ds : List Nat) : Nat := ds.foldl (fun s d => s ||| 2 ^ d ||| ms.getD d 0) 0

def masks : List Oper → List Nat → List Nat
  | [], ms => ms
  | o :: r, ms => masks r (ms ++ [maskOf ms (direct o)])

def isEff (l : LOper) : Bool := l.act.cls == .effect

/-- How many of the effects are among these. -/
def effIn (ls : List LOper) (p : Nat → Bool) : Nat := ((List.range ls.length).filter fun i => p i && (ls[i]?).any isEff).length

/-- Is all well ordered? -/
def dOk (ops : List Oper) (ls : List LOper) (ms : List Nat) : Bool :=
  (ms.length == ops.length) && (ls.length == ops.length) &&
  (List.range ops.length).all fun j => match ops[j]?, ls[j]? with
    | some oj, some lj =>
      (direct oj).all (· < j) && (ms.getD j 0 == maskOf ms (direct oj)) &&
      (List.range j).all fun i => match ops[i]?, ls[i]? with
        | some oi, some li => (ms.getD j 0).testBit i || (Oper.apart ops.toArray oi oj && !(isEff li && isEff lj))
        | _, _ => false
    | _, _ => false

def dBounds (ls : List LOper) (ms : List Nat) : List (LOper × Nat × Nat) :=
  ls.zipIdx.map fun (l, i) => (l, effIn ls (fun j => (ms.getD i 0).testBit j), effIn ls (fun j => !(ms.getD j 0).testBit i))

def cCode (P : Program) (n : Nat) : Code → List (List Nat) → Option (LCode × List (List Nat))
  | .skip, ks => some (.skip, ks)
  | .region _ ops false, k :: ks => match cOpers P n ops ops.toList with
    | some l => some (.region l k, ks)
    | none => none
  | .region _ ops true, k :: ks => match cOpers P n ops ops.toList with
    | some l => if dOk ops.toList l (masks ops.toList []) = true then some (.dregion (dBounds l (masks ops.toList [])) k, ks) else none
    | none => none
  | .seq a b, ks => match cCode P n a ks with
    | some (x, ks) => match cCode P n b ks with
      | some (y, ks) => some (.seq x y, ks)
      | none => none
    | none => none
  | .cond c a b, ks => match cLO c, cCode P n a ks with
    | some c, some (x, ks) => match cCode P n b ks with
      | some (y, ks) => some (.cond c x y, ks)
      | none => none
    | _, _ => none
  | .block id a, ks => match cCode P n a ks with
    | some (x, ks) => some (.block id x, ks)
    | none => none
  | .loop a, ks => match cCode P n a ks with
    | some (x, ks) => some (.loop x, ks)
    | none => none
  | .exit id, ks => some (.exit id, ks)
  | .ret, ks => some (.ret, ks)
  | _, _ => none

def cRes (P : Program) : ResultVar → Option LRes
  | .tmp t => some (.tmp t)
  | .cell a t => match isAggP P t, sizeP P t with
    | some true, some n => some (.cellN a n)
    | some false, some _ => some (.cell1 a)
    | _, _ => none

def cFunc (P : Program) (f : Func) (ks : List (List Nat)) : Option LFunc :=
  match f.body with
  | none => none
  | some c => match cCode P f.ntmps c ks, LOp.listM (cRes P) f.results.toList with
    | some (lc, []), some rs => if f.name = "runtime.NumGoroutine" then none else some ⟨f.ntmps, rs, lc⟩
    | _, _ => none

end Go.E1
