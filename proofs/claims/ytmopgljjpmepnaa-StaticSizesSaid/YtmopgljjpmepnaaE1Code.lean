/-
  The engine's code is sound: regions that don't draw, branches, loops.
-/
import Derived.Test.YtmopgljjpmepnaaE1Snd9
namespace Go.E1
open Go

section
variable {P : Program} {q : EqF} {call : CallF} {n : Nat}

/-- The frames' relation. -/
structure FR (ν : Inj) (n : Nat) (fr : Fr) (tmps : Array Value) : Prop where
  size : tmps.size = n
  get : ∀ t v, fr.get t = some v → ∃ v', tmps[t]? = some v' ∧ VR ν v v'

theorem FR.mono {ν ν' : Inj} (hle : ν.le ν') {fr : Fr} {tmps : Array Value} (h : FR ν n fr tmps) : FR ν' n fr tmps :=
  ⟨h.size, fun t v ht => let ⟨v', a, b⟩ := h.get t v ht; ⟨v', a, b.mono hle⟩⟩

theorem Fr.get_put (fr : Fr) (d : Option Nat) (v : Value) (t : Nat) : (fr.put d v).get t = if d = some t then some v else fr.get t := by
  cases d with
  | none => simp [Fr.put]
  | some d => simp only [Fr.put, Fr.get, Option.some.injEq]

theorem FR.put {ν : Inj} {fr : Fr} {a : Act} (h : FR ν n fr a.tmps) {d : Option Nat} {v v' : Value} (hd : ∀ k, d = some k → k < n) (hv : VR ν v v') : FR ν n (fr.put d v) (a.put d v').tmps := by
  cases d with
  | none => exact h
  | some d =>
    have hlt := hd d rfl
    refine ⟨by simp [Act.put, h.size], ?_⟩
    intro t u ht
    rw [Fr.get_put] at ht
    simp only [Act.put, Array.getElem?_setIfInBounds]
    by_cases e : d = t
    · subst e
      simp at ht
      subst ht
      exact ⟨v', by simp [h.size, hlt], hv⟩
    · have : ¬ (some d = some t) := by simpa using e
      rw [if_neg this] at ht
      simp only [e, if_false]
      exact h.get t u ht

theorem Fr.get_keep (fr : Fr) : ∀ (ks : List Nat) (t : Nat) (v : Value), (fr.keep ks).get t = some v → fr.get t = some v
  | [], t, v, h => by simp [Fr.keep, Fr.get] at h
  | k :: ks, t, v, h => by
    simp only [Fr.keep] at h
    split at h
    · rename_i u hu
      simp only [Fr.get] at h
      split at h
      · rename_i e; subst e; rw [hu]; exact h
      · exact Fr.get_keep fr ks t v h
    · exact Fr.get_keep fr ks t v h

theorem FR.keep {ν : Inj} {fr : Fr} {tmps : Array Value} (h : FR ν n fr tmps) (ks : List Nat) : FR ν n (fr.keep ks) tmps :=
  ⟨h.size, fun t v ht => h.get t v (Fr.get_keep fr ks t v ht)⟩

theorem cLO_VR {ν : Inj} {fr : Fr} {a : Act} (h : FR ν n fr a.tmps) {x : Operand} {lx : LO} {v : Value} (hx : cLO x = some lx) (hv : fr.rd lx = some v) : VR ν v (a.eval x) := by
  cases x with
  | tmp t =>
    simp only [cLO, Option.some.injEq] at hx
    subst hx
    obtain ⟨v', h1, h2⟩ := h.get t v hv
    simpa [Act.eval, h1] using h2
  | const c =>
    simp only [cLO] at hx
    split at hx
    · rename_i hc
      cases hx
      simp only [Fr.rd, Option.some.injEq] at hv
      subst hv
      exact constOk_VR hc ν
    · cases hx
  | func f =>
    simp only [cLO, Option.some.injEq] at hx
    subst hx
    simp only [Fr.rd, Option.some.injEq] at hv
    subst hv
    exact .func rfl (fun i v v' h => by simp at h)
  | global g => simp [cLO] at hx

/-- What a call of the engine's stands for. -/
def Sound (P : Program) (f : FuncId) (args : List Value) (h : LHeap) (v : Value) (h' : LHeap) : Prop :=
  (∃ fn, P.funcs[f]? = some fn ∧ fn.name ≠ "runtime.NumGoroutine" ∧ fn.body.isNone = false) ∧
  ∀ (ν : Inj) (w : World) (args' : Array Value), HR ν h w → VRs ν args args'.toList →
    Calls P f args' w fun e w' => ∃ ν' v', e = .returned v' ∧ VR ν' v v' ∧ HR ν' h' w' ∧ Step ν h w ν' h' w'

def CallOk (P : Program) (call : CallF) : Prop := ∀ f args h v h', call f args h = some (v, h') → Sound P f args h v h'

theorem good_wp {o : Oper} {a : Act} {ν : Inj} {h h' : LHeap} {w : World} {v : Value} {K : Act → World → Prop} {Q : Exit → Act → World → Prop} (hg : Good P o a.eval ν h w v h')
    (hk : ∀ ν' v' w', VR ν' v v' → HR ν' h' w' → Step ν h w ν' h' w' → K (a.put o.dst v') w') : o.wp P a w K Q := by
  obtain ⟨ν', v', w', hr, hv, hh, hs⟩ := hg
  unfold Oper.wp
  rcases hr with hr | ⟨hr, rfl⟩
  · rw [hr]; exact hk ν' v' w' hv hh hs
  · rw [hr]; exact hk ν' undef w' hv hh hs

theorem act_wp (hq : QOk P q) (hcall : CallOk P call) {o : Oper} {la : LAct} {fr : Fr} {a : Act} {ν : Inj} {h h' : LHeap} {w : World} {v : Value} {K : Act → World → Prop} {Q : Exit → Act → World → Prop}
    (hc : cAct P o.op = some la) (hx : lact q call la fr h = some (v, h')) (hr : HR ν h w) (hv : OpsR ν o.op fr.rd a.eval)
    (hk : ∀ ν' v' w', VR ν' v v' → HR ν' h' w' → Step ν h w ν' h' w' → K (a.put o.dst v') w') : o.wp P a w K Q := by
  cases la with
  | op lo =>
    have hc' : cOp P o.op = some lo := by
      unfold cAct at hc
      split at hc
      · split at hc <;> cases hc
      · split at hc <;> cases hc
      · obtain ⟨z, hz, he⟩ := map_some hc
        cases he
        exact hz
    simp only [lact] at hx
    split at hx
    · rename_i lv hs
      exact good_wp (cOp_sound hq (fun v => rfl) hc' hs hx hr hv) hk
    · cases hx
  | pick c x y =>
    have hc' : ∃ oc ox oy, o.op = .pick oc ox oy ∧ cLO oc = some c ∧ cLO ox = some x ∧ cLO oy = some y := by
      unfold cAct at hc
      split at hc
      · split at hc
        · rename_i hop _ _ _ _ _ _ h1 h2 h3
          cases hc
          exact ⟨_, _, _, hop, h1, h2, h3⟩
        · cases hc
      · split at hc <;> cases hc
      · obtain ⟨z, hz, he⟩ := map_some hc
        cases he
    obtain ⟨oc, ox, oy, hop, h1, h2, h3⟩ := hc'
    rw [hop] at hv
    have hvc := hv oc (by simp [Op.operands]) c
    have hvx := hv ox (by simp [Op.operands]) x
    have hvy := hv oy (by simp [Op.operands]) y
    simp only [lact] at hx
    split at hx
    · rename_i hcv
      obtain ⟨z, hz, he⟩ := map_some hx
      cases he
      have := (hvc _ h1 hcv).bool_inv
      unfold Oper.wp
      simp only [execOp, hop, this, asBool, Sem.run_bind, Sem.run_pure, Result.andThen_ok, if_true]
      exact hk ν _ w (hvx _ h2 hz) hr (Step.refl _ _ _)
    · rename_i hcv
      obtain ⟨z, hz, he⟩ := map_some hx
      cases he
      have := (hvc _ h1 hcv).bool_inv
      unfold Oper.wp
      simp only [execOp, hop, this, asBool, Sem.run_bind, Sem.run_pure, Result.andThen_ok, Bool.false_eq_true, if_false]
      exact hk ν _ w (hvy _ h3 hz) hr (Step.refl _ _ _)
    · cases hx
  | call f args =>
    have hc' : ∃ of oargs ts, o.op = .call { callee := .value of, args := oargs, argTypes := ts } ∧ cLO of = some f ∧ LOp.listM cLO oargs.toList = some args := by
      unfold cAct at hc
      split at hc
      · split at hc <;> cases hc
      · split at hc
        · rename_i hop _ _ _ _ h1 h2
          cases hc
          exact ⟨_, _, _, hop, h1, h2⟩
        · cases hc
      · obtain ⟨z, hz, he⟩ := map_some hc
        cases he
    obtain ⟨of, oargs, ts, hop, h1, h2⟩ := hc'
    rw [hop] at hv
    have hvf := hv of (by simp [Op.operands, Call.operands]) f
    simp only [lact] at hx
    split at hx
    · rename_i g first cap vs hfv hvs
      split at hx
      · rename_i hfirst
        have hvr := listM_VRs (ρ := a.eval) (ν := ν) h2 hvs fun x hx => hv x (by simp only [Op.operands, Call.operands]; have := Array.mem_toList_iff.1 hx; simp [this])
        obtain ⟨⟨fn, hfn, hname, hbody⟩, hsound⟩ := hcall _ _ _ _ _ hx
        have hval := hvf _ h1 hfv
        have key : ∃ cap', a.eval of = .func (.func g) #[] cap' ∧ VRs ν cap.toList cap'.toList := by
          generalize a.eval of = u at hval ⊢
          cases hval with
          | func hsz hh => exact ⟨_, rfl, by simpa using hsz, fun i v v' a b => hh i v v' (by simpa using a) (by simpa using b)⟩
        obtain ⟨cap', he, hcap⟩ := key
        unfold Oper.wp
        have hbody' : fn.body.isNone ≠ true := by simp [hbody]
        have hrun : (execOp a.eval o).run P w = .ok (.enter g (oargs.map a.eval ++ cap')) w := by
          simp only [execOp, hop, resolve, he, Deferred.ofValue, Sem.run_bind, Sem.run_pure, Result.andThen_ok, invoke, callFunc, run_program, hfn]
          have hn : (fn.name == "runtime.NumGoroutine") = false := by simpa using hname
          simp [hn, hbody]
        rw [hrun]
        simp only [Oper.upon]
        refine (hsound ν w _ hr ?_).mono ?_
        · simp only [Array.toList_append, Array.toList_map]
          exact hvr.append hcap
        · rintro e w' ⟨ν', v', rfl, hv', hh', hs'⟩
          exact hk ν' v' w' hv' hh' hs'
      · cases hx
    · cases hx

/-! ### Regions that don't draw -/

theorem cOper_spec {ops : Array Oper} {o : Oper} {l : LOper} (h : cOper P n ops o = some l) :
    cAct P o.op = some l.act ∧ l.dst = o.dst ∧ (∀ k, o.dst = some k → k < n) ∧
    ((o.guard = none ∧ l.guard = none) ∨ ∃ j want t, o.guard = some (j, want) ∧ (ops[j]?).bind (·.dst) = some t ∧ l.guard = some (t, want)) := by
  unfold cOper at h
  split at h
  · cases h
  · rename_i la hla
    split at h
    · rename_i hd
      have hd' : ∀ k, o.dst = some k → k < n := by
        intro k hk
        rw [hk] at hd
        simpa [dstOk] using hd
      split at h
      · rename_i hg
        cases h
        exact ⟨hla, rfl, hd', .inl ⟨hg, rfl⟩⟩
      · rename_i j want hg
        split at h
        · rename_i t ht
          cases h
          exact ⟨hla, rfl, hd', .inr ⟨j, want, t, hg, ht, rfl⟩⟩
        · cases h
    · cases h

theorem wanted_spec {ops : Array Oper} {o : Oper} {l : LOper} (h : cOper P n ops o = some l) {fr : Fr} {a : Act} {b : Bool} (hw : l.wanted fr = some b)
    (hf : ∀ j want t, o.guard = some (j, want) → (ops[j]?).bind (·.dst) = some t → ∀ v, fr.get t = some v → ∃ v' ν, a.tmps[t]? = some v' ∧ VR ν v v') : Region.wanted o (yielded ops a.tmps) = b := by
  obtain ⟨_, _, _, hg⟩ := cOper_spec h
  rcases hg with ⟨h1, h2⟩ | ⟨j, want, t, h1, h2, h3⟩
  · simp only [LOper.wanted, h2, Option.some.injEq] at hw
    subst hw
    simp [Region.wanted, h1]
  · simp only [LOper.wanted, h3] at hw
    split at hw
    · rename_i c hc
      cases hw
      obtain ⟨v', ν, hv1, hv2⟩ := hf j want t h1 h2 _ hc
      have := hv2.bool_inv
      subst this
      simp only [Region.wanted, h1, yielded, h2, Option.bind_some, hv1]
      rfl
    · cases hw

theorem OpsR.of_FR {ν : Inj} {fr : Fr} {a : Act} (h : FR ν n fr a.tmps) (op : Op) : OpsR ν op fr.rd a.eval := fun _ _ _ _ hx hv => cLO_VR h hx hv

theorem Step.fr {ν ν' : Inj} {h h' : LHeap} {w w' : World} (hs : Step ν h w ν' h' w') {fr : Fr} {tmps : Array Value} (hf : FR ν n fr tmps) : FR ν' n fr tmps := hf.mono hs.le

theorem lops_wp (hq : QOk P q) (hcall : CallOk P call) {ops : Array Oper} {Q : Exit → Act → World → Prop} : ∀ (os : List Oper) (ls : List LOper) (i : Nat) (fr fr' : Fr) (h h' : LHeap) (ν : Inj) (a : Act) (w : World),
    (∀ j, ops[i + j]? = os[j]?) → cOpers P n ops os = some ls → lops q call ls fr h = some (fr', h') → HR ν h w → FR ν n fr a.tmps →
    (∀ ν' a' w', FR ν' n fr' a'.tmps → a'.defers = a.defers → HR ν' h' w' → Step ν h w ν' h' w' → Q .normal a' w') → wpOps P ops Q (List.range' i os.length) a w
  | [], ls, i, fr, fr', h, h', ν, a, w, _, hc, hx, hr, hf, hQ => by
    simp only [cOpers, Option.some.injEq] at hc
    subst hc
    simp only [lops, Option.some.injEq, Prod.mk.injEq] at hx
    obtain ⟨rfl, rfl⟩ := hx
    exact hQ ν a w hf rfl hr (Step.refl _ _ _)
  | o :: os, ls, i, fr, fr', h, h', ν, a, w, hops, hc, hx, hr, hf, hQ => by
    simp only [cOpers] at hc
    split at hc
    · rename_i l lr hl hlr
      simp only [Option.some.injEq] at hc
      subst hc
      simp only [lops] at hx
      split at hx
      · rename_i fr1 h1 hstep
        have ho : ops[i]? = some o := by simpa using hops 0
        obtain ⟨hact, hdst, hdn, hg⟩ := cOper_spec hl
        have hnext : ∀ ν1 a1 w1, FR ν1 n fr1 a1.tmps → a1.defers = a.defers → HR ν1 h1 w1 → Step ν h w ν1 h1 w1 → wpOps P ops Q (List.range' (i + 1) os.length) a1 w1 := fun ν1 a1 w1 f1 d1 r1 s1 =>
          lops_wp hq hcall os lr (i + 1) fr1 fr' h1 h' ν1 a1 w1 (fun j => by have := hops (j + 1); rw [List.getElem?_cons_succ] at this; rwa [show i + (j + 1) = i + 1 + j by omega] at this) hlr hx r1 f1
            (fun ν2 a2 w2 f2 d2 r2 s2 => hQ ν2 a2 w2 f2 (d2.trans d1) r2 (s1.trans s2))
        simp only [List.length_cons, List.range'_succ]
        rw [wpOps_cons]
        unfold wpOp
        simp only [ho]
        have hguard : ∀ b, l.wanted fr = some b → Region.wanted o (yielded ops a.tmps) = b := fun b hb => wanted_spec hl hb (fun j want t _ _ v hv => by
          obtain ⟨v', p, q⟩ := hf.get t v hv
          exact ⟨v', ν, p, q⟩)
        simp only [loper] at hstep
        split at hstep
        · rename_i hw
          rw [hguard true hw]
          simp only [if_true]
          split at hstep
          · rename_i v h2 hlact
            simp only [Option.some.injEq, Prod.mk.injEq] at hstep
            obtain ⟨rfl, rfl⟩ := hstep
            refine .inl (act_wp hq hcall hact hlact hr (OpsR.of_FR hf o.op) ?_)
            intro ν1 v1 w1 hv1 hr1 hs1
            refine hnext ν1 _ w1 ?_ ?_ hr1 hs1
            · rw [hdst]
              exact (hs1.fr hf).put hdn hv1
            · cases o.dst <;> rfl
          · cases hstep
        · rename_i hw
          rw [hguard false hw]
          simp only [Bool.false_eq_true, if_false]
          simp only [Option.some.injEq, Prod.mk.injEq] at hstep
          obtain ⟨rfl, rfl⟩ := hstep
          refine hnext ν _ w ?_ ?_ hr (Step.refl _ _ _)
          · rw [hdst]
            exact hf.put hdn (VRs.tuple (.nil ν))
          · cases o.dst <;> rfl
        · cases hstep
      · cases hx
    · cases hc

end
end Go.E1
