/-
  Regions whose order is drawn: their weakest condition.
-/
import Derived.Test.YtmopgljjpmepnaaE1Sim
namespace Go.E1
open Go

def guardB (fr : Fr) (g : Option (Nat × Bool)) (yes no : Prop) : Prop :=
  match g with
  | none => yes
  | some (t, true) => bnd (fr.get t) fun b => onB b yes no
  | some (t, false) => bnd (fr.get t) fun b => onB b no yes

def readB (E : Env) (a : LAct) (fr : Fr) (h : LHeap) (K : LOp Value → Value → Prop) : Prop :=
  match a with
  | .op op => bnd (op.sub fr.rd) fun lv => bnd (lexec E.q lv h) fun p => K lv p.1
  | _ => False

def onCls (c : LOp.Cls) (p r e : Prop) : Prop :=
  match c with
  | .pure => p
  | .reader => r
  | .effect => e

def both (c : Bool) (p : Prop) : Prop := c = true ∧ p

def LDOps (E : Env) : List (LOper × Nat × Nat) → Fr → LHeap → List LHeap → List Pend → (Fr → LHeap → Prop) → Prop
  | [], fr, h, _, _, K => K fr h
  | (⟨d, a, g⟩, lo, hi) :: r, fr, h, past, pend, K =>
    onCls a.cls
      (guardB fr g (a.wp E fr h fun v _ => LDOps E r (fr.put d v) h past pend K) (LDOps E r (fr.put d undefL) h past pend K))
      (guardB fr g (readB E a fr h fun lv v => both ((past.take (past.length - lo)).all (Pend.ok E.q ⟨lv, v, hi⟩)) (LDOps E r (fr.put d v) h past (⟨lv, v, hi⟩ :: pend) K)) (LDOps E r (fr.put d undefL) h past pend K))
      (guardB fr g (a.wp E fr h fun v h' => both (pend.all fun p => decide (p.hi ≤ past.length) || p.ok E.q h') (LDOps E r (fr.put d v) h' (h :: past) pend K)) (LDOps E r (fr.put d undefL) h (h :: past) pend K))

theorem guardB_run {fr : Fr} {d : Option Nat} {a : LAct} {g : Option (Nat × Bool)} {yes no : Prop} (w : guardB fr g yes no) :
    (LOper.wanted ⟨d, a, g⟩ fr = some true ∧ yes) ∨ (LOper.wanted ⟨d, a, g⟩ fr = some false ∧ no) := by
  unfold guardB at w
  split at w
  · exact .inl ⟨rfl, w⟩
  · obtain ⟨b, hb, w⟩ := bnd_iff.1 w
    cases b with
    | bool b =>
      cases b
      · exact .inr ⟨by simp [LOper.wanted, hb], w.2 rfl⟩
      · exact .inl ⟨by simp [LOper.wanted, hb], w.1 rfl⟩
    | _ => simp [onB] at w
  · obtain ⟨b, hb, w⟩ := bnd_iff.1 w
    cases b with
    | bool b =>
      cases b
      · exact .inl ⟨by simp [LOper.wanted, hb], w.2 rfl⟩
      · exact .inr ⟨by simp [LOper.wanted, hb], w.1 rfl⟩
    | _ => simp [onB] at w

theorem LDOps.run {E : Env} : ∀ (ops : List (LOper × Nat × Nat)) {fr : Fr} {h : LHeap} {past : List LHeap} {pend : List Pend} {K : Fr → LHeap → Prop}, LDOps E ops fr h past pend K →
    ∃ k₀ fr' h', (∀ k, k₀ ≤ k → ldops E.q (evF E k) ops fr h past pend = some (fr', h')) ∧ K fr' h'
  | [], fr, h, _, _, K, w => ⟨0, fr, h, fun _ _ => rfl, w⟩
  | (⟨d, a, g⟩, lo, hi) :: r, fr, h, past, pend, K, w => by
    unfold LDOps onCls at w
    split at w
    · rename_i hc
      rcases guardB_run (d := d) (a := a) w with ⟨hw, w⟩ | ⟨hw, w⟩
      · obtain ⟨k₁, v, h1, h2, h3⟩ := LAct.wp_run w
        obtain ⟨k₂, fr', h', h4, h5⟩ := LDOps.run r h3
        refine ⟨max k₁ k₂, fr', h', fun k hk => ?_, h5⟩
        have hcp : (LOper.mk d a g).act.cls = .pure := hc
        simp only [ldops, hcp, loper, hw, h2 k (by omega), h4 k (by omega)]
      · obtain ⟨k₂, fr', h', h4, h5⟩ := LDOps.run r w
        refine ⟨k₂, fr', h', fun k hk => ?_, h5⟩
        have hcp : (LOper.mk d a g).act.cls = .pure := hc
        simp only [ldops, hcp, loper, hw, h4 k hk]
    · rename_i hc
      have hcp : (LOper.mk d a g).act.cls = .reader := hc
      rcases guardB_run (d := d) (a := a) w with ⟨hw, w⟩ | ⟨hw, w⟩
      · unfold readB at w
        split at w
        · rename_i op
          obtain ⟨lv, h1, w⟩ := bnd_iff.1 w
          obtain ⟨⟨v, h2⟩, h3, w1, w2⟩ := bnd_iff.1 w
          obtain ⟨k₂, fr', h', h4, h5⟩ := LDOps.run r w2
          refine ⟨k₂, fr', h', fun k hk => ?_, h5⟩
          simp only [ldops, hcp, hw, h1, h3]
          rw [if_pos w1]
          exact h4 k hk
        · exact w.elim
      · obtain ⟨k₂, fr', h', h4, h5⟩ := LDOps.run r w
        refine ⟨k₂, fr', h', fun k hk => ?_, h5⟩
        simp only [ldops, hcp, hw, h4 k hk]
    · rename_i hc
      have hcp : (LOper.mk d a g).act.cls = .effect := hc
      rcases guardB_run (d := d) (a := a) w with ⟨hw, w⟩ | ⟨hw, w⟩
      · obtain ⟨k₁, v, h1, h2, w1, w2⟩ := LAct.wp_run w
        obtain ⟨k₂, fr', h', h4, h5⟩ := LDOps.run r w2
        refine ⟨max k₁ k₂, fr', h', fun k hk => ?_, h5⟩
        simp only [ldops, hcp, hw, h2 k (by omega)]
        rw [if_pos w1]
        exact h4 k (by omega)
      · obtain ⟨k₂, fr', h', h4, h5⟩ := LDOps.run r w
        refine ⟨k₂, fr', h', fun k hk => ?_, h5⟩
        simp only [ldops, hcp, hw, h4 k hk]

theorem LRun.dregion {E : Env} {ops : List (LOper × Nat × Nat)} {ks : List Nat} {fr : Fr} {h : LHeap} {K : LEx → Fr → LHeap → Prop} (w : LDOps E ops fr h [] [] fun fr' h' => K .normal (fr'.keep ks) h') : LRun E (.dregion ops ks) fr h K := by
  obtain ⟨k₀, fr', h', h1, h2⟩ := LDOps.run ops w
  exact ⟨k₀, .normal, fr'.keep ks, h', fun k hk => by simp [evC, h1 k hk], h2⟩

/-! ### The machine's states for them -/

def MD (E : Env) (ops : List (LOper × Nat × Nat)) (ks : List Nat) (k : Cont) (fr : Fr) (h : LHeap) (past : List LHeap) (pend : List Pend) (Q : Value → LHeap → Prop) : Prop :=
  LDOps E ops fr h past pend fun fr' h' => kont E Q k .normal (fr'.keep ks) h'
/-- At a guard. -/
def MDG (E : Env) (x : Option Value) (w : Bool) (d : Option Nat) (a : LAct) (lo hi : Nat) (r : List (LOper × Nat × Nat)) (ks : List Nat) (k : Cont) (fr : Fr) (h : LHeap) (past : List LHeap) (pend : List Pend) (Q : Value → LHeap → Prop) : Prop :=
  bnd x fun v => onB v (if w then MD E ((⟨d, a, none⟩, lo, hi) :: r) ks k fr h past pend Q else MD E r ks k (fr.put d undefL) h (if a.cls = .effect then h :: past else past) pend Q)
    (if w then MD E r ks k (fr.put d undefL) h (if a.cls = .effect then h :: past else past) pend Q else MD E ((⟨d, a, none⟩, lo, hi) :: r) ks k fr h past pend Q)
/-- At an operation, by its kind. -/
def MDc (E : Env) (c : LOp.Cls) (d : Option Nat) (a : LAct) (lo hi : Nat) (r : List (LOper × Nat × Nat)) (ks : List Nat) (k : Cont) (fr : Fr) (h : LHeap) (past : List LHeap) (pend : List Pend) (Q : Value → LHeap → Prop) : Prop :=
  match c with
  | .pure => a.wp E fr h fun v _ => MD E r ks k (fr.put d v) h past pend Q
  | .reader => readB E a fr h fun lv v => both ((past.take (past.length - lo)).all (Pend.ok E.q ⟨lv, v, hi⟩)) (MD E r ks k (fr.put d v) h past (⟨lv, v, hi⟩ :: pend) Q)
  | .effect => a.wp E fr h fun v h' => both (pend.all fun p => decide (p.hi ≤ past.length) || p.ok E.q h') (MD E r ks k (fr.put d v) h' (h :: past) pend Q)
def MDX (E : Env) (x : Option (Value × LHeap)) (d : Option Nat) (r : List (LOper × Nat × Nat)) (ks : List Nat) (k : Cont) (fr : Fr) (h : LHeap) (past : List LHeap) (pend : List Pend) (Q : Value → LHeap → Prop) : Prop := bnd x fun p => MD E r ks k (fr.put d p.1) h past pend Q
def MDP (E : Env) (c a b : Option Value) (d : Option Nat) (r : List (LOper × Nat × Nat)) (ks : List Nat) (k : Cont) (fr : Fr) (h : LHeap) (past : List LHeap) (pend : List Pend) (Q : Value → LHeap → Prop) : Prop := bnd c fun v => onB v (bnd a fun x => MD E r ks k (fr.put d x) h past pend Q) (bnd b fun x => MD E r ks k (fr.put d x) h past pend Q)
def MDR (E : Env) (x : Option (LOp Value)) (d : Option Nat) (lo hi : Nat) (r : List (LOper × Nat × Nat)) (ks : List Nat) (k : Cont) (fr : Fr) (h : LHeap) (past : List LHeap) (pend : List Pend) (Q : Value → LHeap → Prop) : Prop :=
  bnd x fun lv => bnd (lexec E.q lv h) fun p => both ((past.take (past.length - lo)).all (Pend.ok E.q ⟨lv, p.1, hi⟩)) (MD E r ks k (fr.put d p.1) h past (⟨lv, p.1, hi⟩ :: pend) Q)
def MDR2 (E : Env) (lv : LOp Value) (x : Option (Value × LHeap)) (d : Option Nat) (lo hi : Nat) (r : List (LOper × Nat × Nat)) (ks : List Nat) (k : Cont) (fr : Fr) (h : LHeap) (past : List LHeap) (pend : List Pend) (Q : Value → LHeap → Prop) : Prop :=
  bnd x fun p => both ((past.take (past.length - lo)).all (Pend.ok E.q ⟨lv, p.1, hi⟩)) (MD E r ks k (fr.put d p.1) h past (⟨lv, p.1, hi⟩ :: pend) Q)
/-- At a test that must be passed. -/
def MDt (E : Env) (c : Bool) (r : List (LOper × Nat × Nat)) (ks : List Nat) (k : Cont) (fr : Fr) (h : LHeap) (past : List LHeap) (pend : List Pend) (Q : Value → LHeap → Prop) : Prop := both c (MD E r ks k fr h past pend Q)
def MDE (E : Env) (x : Option (Value × LHeap)) (d : Option Nat) (r : List (LOper × Nat × Nat)) (ks : List Nat) (k : Cont) (fr : Fr) (h : LHeap) (past : List LHeap) (pend : List Pend) (Q : Value → LHeap → Prop) : Prop :=
  bnd x fun p => both (pend.all fun y => decide (y.hi ≤ past.length) || y.ok E.q p.2) (MD E r ks k (fr.put d p.1) p.2 (h :: past) pend Q)
def MDV (E : Env) (f : Option Value) (args : Option (List Value)) (d : Option Nat) (r : List (LOper × Nat × Nat)) (ks : List Nat) (k : Cont) (fr : Fr) (h : LHeap) (past : List LHeap) (pend : List Pend) (Q : Value → LHeap → Prop) : Prop :=
  bnd f fun v => bnd args fun vs => onF v fun g cap => LCalls E g (vs ++ cap.toList) h fun v h' => both (pend.all fun p => decide (p.hi ≤ past.length) || p.ok E.q h') (MD E r ks k (fr.put d v) h' (h :: past) pend Q)
def MDCall (E : Env) (g : FuncId) (args : List Value) (d : Option Nat) (r : List (LOper × Nat × Nat)) (ks : List Nat) (k : Cont) (fr : Fr) (h : LHeap) (past : List LHeap) (pend : List Pend) (Q : Value → LHeap → Prop) : Prop :=
  LCalls E g args h fun v h' => both (pend.all fun p => decide (p.hi ≤ past.length) || p.ok E.q h') (MD E r ks k (fr.put d v) h' (h :: past) pend Q)
def MDXp (E : Env) (x : Option Value) (d : Option Nat) (r : List (LOper × Nat × Nat)) (ks : List Nat) (k : Cont) (fr : Fr) (h : LHeap) (past : List LHeap) (pend : List Pend) (Q : Value → LHeap → Prop) : Prop :=
  bnd x fun v => both (pend.all fun p => decide (p.hi ≤ past.length) || p.ok E.q h) (MD E r ks k (fr.put d v) h (h :: past) pend Q)

theorem MDCall.by {E : Env} {g : FuncId} {args : List Value} {d : Option Nat} {r : List (LOper × Nat × Nat)} {ks : List Nat} {k : Cont} {fr : Fr} {h : LHeap} {past : List LHeap} {pend : List Pend} {Q R : Value → LHeap → Prop}
    (hc : LCalls E g args h R) (w : ∀ v h', R v h' → MDt E (pend.all fun p => decide (p.hi ≤ past.length) || p.ok E.q h') r ks k (fr.put d v) h' (h :: past) pend Q) : MDCall E g args d r ks k fr h past pend Q := hc.mono w

section
variable {E : Env} {fr : Fr} {h : LHeap} {Q : Value → LHeap → Prop} {k : Cont} {past : List LHeap} {pend : List Pend} {lo hi : Nat}
theorem MC.dregion {ops : List (LOper × Nat × Nat)} {ks : List Nat} (w : MD E ops ks k fr h [] [] Q) : MC E (.dregion ops ks) k fr h Q := LRun.dregion w
@[go_sem] theorem MD_nil (ks : List Nat) : MD E [] ks k fr h past pend Q = MK E .normal k (fr.keep ks) h Q := Eq.trans rfl rfl
@[go_sem] theorem MD_cons (d : Option Nat) (a : LAct) (r : List (LOper × Nat × Nat)) (ks : List Nat) : MD E ((⟨d, a, none⟩, lo, hi) :: r) ks k fr h past pend Q = MDc E a.cls d a lo hi r ks k fr h past pend Q := by
  simp only [MD, MDc, LDOps, guardB]
  cases a.cls <;> rfl
@[go_sem] theorem MD_guard (d : Option Nat) (a : LAct) (t : Nat) (w : Bool) (r : List (LOper × Nat × Nat)) (ks : List Nat) : MD E ((⟨d, a, some (t, w)⟩, lo, hi) :: r) ks k fr h past pend Q = MDG E (fr.get t) w d a lo hi r ks k fr h past pend Q := by
  simp only [MD, MDG, LDOps, guardB]
  cases hc : a.cls <;> cases w <;> rfl
@[go_sem] theorem MDG_tt (d : Option Nat) (a : LAct) (r : List (LOper × Nat × Nat)) (ks : List Nat) : MDG E (some (.bool true)) true d a lo hi r ks k fr h past pend Q = MD E ((⟨d, a, none⟩, lo, hi) :: r) ks k fr h past pend Q := by simp [MDG, bnd, onB]
@[go_sem] theorem MDG_ff (d : Option Nat) (a : LAct) (r : List (LOper × Nat × Nat)) (ks : List Nat) : MDG E (some (.bool false)) false d a lo hi r ks k fr h past pend Q = MD E ((⟨d, a, none⟩, lo, hi) :: r) ks k fr h past pend Q := by simp [MDG, bnd, onB]
@[go_sem] theorem MDG_ft (d : Option Nat) (a : LAct) (r : List (LOper × Nat × Nat)) (ks : List Nat) : MDG E (some (.bool false)) true d a lo hi r ks k fr h past pend Q = MD E r ks k (fr.put d undefL) h (if a.cls = .effect then h :: past else past) pend Q := by simp [MDG, bnd, onB]
@[go_sem] theorem MDG_tf (d : Option Nat) (a : LAct) (r : List (LOper × Nat × Nat)) (ks : List Nat) : MDG E (some (.bool true)) false d a lo hi r ks k fr h past pend Q = MD E r ks k (fr.put d undefL) h (if a.cls = .effect then h :: past else past) pend Q := by simp [MDG, bnd, onB]
@[go_sem] theorem MDc_op (d : Option Nat) (o : LOp LO) (r : List (LOper × Nat × Nat)) (ks : List Nat) : MDc E .pure d (.op o) lo hi r ks k fr h past pend Q = MDX E (lxs E.q (o.sub fr.rd) h) d r ks k fr h past pend Q := by
  simp only [MDc, MDX, LAct.wp, lxs]
  cases o.sub fr.rd <;> rfl
@[go_sem] theorem MDc_pick (d : Option Nat) (c a b : LO) (r : List (LOper × Nat × Nat)) (ks : List Nat) : MDc E .pure d (.pick c a b) lo hi r ks k fr h past pend Q = MDP E (fr.rd c) (fr.rd a) (fr.rd b) d r ks k fr h past pend Q := Eq.trans rfl rfl
@[go_sem] theorem MDc_r (d : Option Nat) (o : LOp LO) (r : List (LOper × Nat × Nat)) (ks : List Nat) : MDc E .reader d (.op o) lo hi r ks k fr h past pend Q = MDR E (o.sub fr.rd) d lo hi r ks k fr h past pend Q := Eq.trans rfl rfl
@[go_sem] theorem MDc_e (d : Option Nat) (o : LOp LO) (r : List (LOper × Nat × Nat)) (ks : List Nat) : MDc E .effect d (.op o) lo hi r ks k fr h past pend Q = MDE E (lxs E.q (o.sub fr.rd) h) d r ks k fr h past pend Q := by
  simp only [MDc, MDE, LAct.wp, lxs]
  cases o.sub fr.rd <;> rfl
@[go_sem] theorem MDc_call (d : Option Nat) (f : LO) (args : List LO) (r : List (LOper × Nat × Nat)) (ks : List Nat) : MDc E .effect d (.call f args) lo hi r ks k fr h past pend Q = MDV E (fr.rd f) (LOp.listM fr.rd args) d r ks k fr h past pend Q := Eq.trans rfl rfl
@[go_sem] theorem MDX_some (v : Value) (h' : LHeap) (d : Option Nat) (r : List (LOper × Nat × Nat)) (ks : List Nat) : MDX E (some (v, h')) d r ks k fr h past pend Q = MD E r ks k (fr.put d v) h past pend Q := Eq.trans rfl rfl
@[go_sem] theorem MDP_t (x : Value) (b : Option Value) (d : Option Nat) (r : List (LOper × Nat × Nat)) (ks : List Nat) : MDP E (some (.bool true)) (some x) b d r ks k fr h past pend Q = MD E r ks k (fr.put d x) h past pend Q := by simp [MDP, bnd, onB]
@[go_sem] theorem MDP_f (x : Value) (a : Option Value) (d : Option Nat) (r : List (LOper × Nat × Nat)) (ks : List Nat) : MDP E (some (.bool false)) a (some x) d r ks k fr h past pend Q = MD E r ks k (fr.put d x) h past pend Q := by simp [MDP, bnd, onB]
@[go_sem] theorem MDR_some (lv : LOp Value) (d : Option Nat) (r : List (LOper × Nat × Nat)) (ks : List Nat) : MDR E (some lv) d lo hi r ks k fr h past pend Q = MDR2 E lv (lexec E.q lv h) d lo hi r ks k fr h past pend Q := Eq.trans rfl rfl
@[go_sem] theorem MDR2_some (lv : LOp Value) (v : Value) (h' : LHeap) (d : Option Nat) (r : List (LOper × Nat × Nat)) (ks : List Nat) : MDR2 E lv (some (v, h')) d lo hi r ks k fr h past pend Q = MDt E ((past.take (past.length - lo)).all (Pend.ok E.q ⟨lv, v, hi⟩)) r ks k (fr.put d v) h past (⟨lv, v, hi⟩ :: pend) Q := Eq.trans rfl rfl
@[go_sem] theorem MDt_true (r : List (LOper × Nat × Nat)) (ks : List Nat) : MDt E true r ks k fr h past pend Q = MD E r ks k fr h past pend Q := by simp [MDt, both]
@[go_sem] theorem MDE_some (v : Value) (h' : LHeap) (d : Option Nat) (r : List (LOper × Nat × Nat)) (ks : List Nat) : MDE E (some (v, h')) d r ks k fr h past pend Q = MDt E (pend.all fun y => decide (y.hi ≤ past.length) || y.ok E.q h') r ks k (fr.put d v) h' (h :: past) pend Q := Eq.trans rfl rfl
@[go_sem] theorem MDV_mk (g : FuncId) (cap : Array Value) (vs : List Value) (d : Option Nat) (r : List (LOper × Nat × Nat)) (ks : List Nat) : MDV E (some (.func (.func g) #[] cap)) (some vs) d r ks k fr h past pend Q = MDCall E g (vs ++ cap.toList) d r ks k fr h past pend Q := by simp [MDV, MDCall, bnd, onF]
@[go_sem] theorem MDXp_some (v : Value) (d : Option Nat) (r : List (LOper × Nat × Nat)) (ks : List Nat) : MDXp E (some v) d r ks k fr h past pend Q = MDt E (pend.all fun p => decide (p.hi ≤ past.length) || p.ok E.q h) r ks k (fr.put d v) h (h :: past) pend Q := Eq.trans rfl rfl
theorem MDCall.pure {g : FuncId} {p : List Value → Option Value} (hp : E.prim g = some (pureP p)) (args : List Value) (d : Option Nat) (r : List (LOper × Nat × Nat)) (ks : List Nat) : MDCall E g args d r ks k fr h past pend Q = MDXp E (p args) d r ks k fr h past pend Q := LCalls.pure_eq hp args h _
attribute [go_sem] LAct.cls LOp.cls Pend.ok veq
end

end Go.E1
