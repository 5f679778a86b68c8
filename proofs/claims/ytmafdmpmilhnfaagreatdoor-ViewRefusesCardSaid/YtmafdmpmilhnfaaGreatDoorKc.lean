/-
  Texts joined: E1Code, E1Trace, E1Drawn, E1Main.
-/
import Derived.Test.YtmafdmpmilhnfaaGreatDoorKb
/-
 The engine's code is sound: regions that don't draw, branches, loops.
-/
namespace Go.E1
open Go

section
variable {P : Program} {q : EqF} {call : CallF} {n : Nat} {nt : List FuncId}

/-- The frames' relation. -/
structure FR (ν : Inj) (n : Nat) (fr : Fr) (tmps : Array Value) : Prop where
 size : tmps.size = n
 get : ∀ t v, fr.get t = some v → ∃ v', tmps[t]? = some v' ∧ VR ν v v'

theorem FR.mono {ν ν' : Inj} (hle : ν.le ν') {fr : Fr} {tmps : Array Value} (h : FR ν n fr tmps) : FR ν' n fr tmps :=
 ⟨h.size, fun t v ht => let ⟨v', a, b⟩ := h.get t v ht; ⟨v', a, b.mono hle⟩⟩

theorem Fr.get_put (fr : Fr) (d : Option Nat) (v : Value) (t : Nat) : (fr.put d v).get t = if d = some t then some v else fr.get t := by
 cases d with
 | none => simp [Fr.put]
 | some d => simp only [Fr.put, Fr.get, Option.some.injEq]

theorem FR.put {ν : Inj} {fr : Fr} {a : Act} (h : FR ν n fr a.tmps) {d : Option Nat} {v v' : Value} (hd : ∀ k, d = some k → k < n) (hv : VR ν v v') : FR ν n (fr.put d v) (a.put d v').tmps := by
 cases d with
 | none => exact h
 | some d =>
  have hlt := hd d rfl
  refine ⟨by simp [Act.put, h.size], ?_⟩
  intro t u ht
  rw [Fr.get_put] at ht
  simp only [Act.put, Array.getElem?_setIfInBounds]
  by_cases e : d = t
  ·subst e
   simp at ht
   subst ht
   exact ⟨v', by simp [h.size, hlt], hv⟩
  ·have : ¬ (some d = some t) := by simpa using e
   rw [if_neg this] at ht
   simp only [e, if_false]
   exact h.get t u ht

theorem Fr.get_keep (fr : Fr) : ∀ (ks : List Nat) (t : Nat) (v : Value), (fr.keep ks).get t = some v → fr.get t = some v
 | [], t, v, h => by simp [Fr.keep, Fr.get] at h
 | k :: ks, t, v, h => by
  simp only [Fr.keep] at h
  split at h
  ·rename_i u hu
   simp only [Fr.get] at h
   split at h
   ·rename_i e; subst e; rw [hu]; exact h
   ·exact Fr.get_keep fr ks t v h
  ·exact Fr.get_keep fr ks t v h

theorem FR.keep {ν : Inj} {fr : Fr} {tmps : Array Value} (h : FR ν n fr tmps) (ks : List Nat) : FR ν n (fr.keep ks) tmps :=
 ⟨h.size, fun t v ht => h.get t v (Fr.get_keep fr ks t v ht)⟩

theorem cLO_VR {ν : Inj} {fr : Fr} {a : Act} (h : FR ν n fr a.tmps) {x : Operand} {lx : LO} {v : Value} (hx : cLO x = some lx) (hv : fr.rd lx = some v) : VR ν v (a.eval x) := by
 cases x with
 | tmp t =>
  simp only [cLO, Option.some.injEq] at hx
  subst hx
  obtain ⟨v', h1, h2⟩ := h.get t v hv
  simpa [Act.eval, h1] using h2
 | const c =>
  simp only [cLO] at hx
  split at hx
  ·rename_i hc
   cases hx
   simp only [Fr.rd, Option.some.injEq] at hv
   subst hv
   exact constOk_VR hc ν
  ·cases hx
 | func f =>
  simp only [cLO, Option.some.injEq] at hx
  subst hx
  simp only [Fr.rd, Option.some.injEq] at hv
  subst hv
  exact .func rfl (fun i v v' h => by simp at h)
 | global g =>
  simp only [cLO] at hx
  split at hx
  ·cases hx
   simp only [Fr.rd, Option.some.injEq] at hv
   subst hv
   exact .glob
  ·cases hx

/-- What a call of the engine's stands for. -/
def Sound (P : Program) (f : FuncId) (args : List Value) (h : LHeap) (v : Value) (h' : LHeap) : Prop :=
 (∃ fn, P.funcs[f]? = some fn ∧ fn.name ≠ "runtime.NumGoroutine" ∧ fn.body.isNone = false) ∧
 ∀ (ν : Inj) (w : World) (args' : Array Value), HR ν h w → VRs ν args args'.toList →
  Calls P f args' w fun e w' => ∃ ν' v', e = .returned v' ∧ VR ν' v v' ∧ HR ν' h' w' ∧ Step ν h w ν' h' w'

def CallOk (P : Program) (call : CallF) : Prop := ∀ f args h v h', call f args h = some (v, h') → Sound P f args h v h'

/-- The world holds what the package-level variables hold that nothing writes. -/
def GlW (w : World) : Prop := ∀ g cs, glob g = some cs → ∃ c e fz, w.heap[g]? = some (.cells c e fz) ∧ c.size = cs.length ∧ ∀ (i : Nat) (v : Value), cs[i]? = some v → c[i]? = some v
theorem HR.glW {ν : Inj} {h : LHeap} {w : World} (hr : HR ν h w) : GlW w := fun g cs hg => (hr.gl g cs hg).1

theorem HR.none {w : World} (hw : GlW w) (h : LHeap) : HR (fun _ => Option.none) h w :=
 ⟨⟨fun _ _ h => (nomatch h), fun _ _ h => (nomatch h), fun _ _ _ _ h => (nomatch h), fun _ _ h => (nomatch h)⟩, fun g cs hg => ⟨hw g cs hg, fun _ _ h => (nomatch h)⟩⟩

mutual
theorem plain_eq {ν : Inj} : ∀ (v v' : Value), plain v = true → VR ν v v' → v' = v
 | .bool _, _, _, h => by cases h; rfl
 | .int _ _, _, _, h => by cases h; rfl
 | .string _, _, _, h => by cases h; rfl
 | .pointer none, _, _, h => by cases h; rfl
 | .slice none 0 0, _, _, h => by cases h; rfl
 | .map none, _, _, h => by cases h; rfl
 | .nilFunc, _, _, h => by cases h; rfl
 | .nilIface, _, _, h => by cases h; rfl
 | .agg ⟨a⟩, v', hp, h => by
  cases h with
  | @agg _ c' hs hh =>
   obtain ⟨c'⟩ := c'
   have := plains_eq a c' (by simpa [plain] using hp) ⟨by simpa using hs, fun i x y p q => hh i x y (by simpa using p) (by simpa using q)⟩
   rw [this]
 | .tuple ⟨a⟩, v', hp, h => by
  cases h with
  | @tuple _ c' hs hh =>
   obtain ⟨c'⟩ := c'
   have := plains_eq a c' (by simpa [plain] using hp) ⟨by simpa using hs, fun i x y p q => hh i x y (by simpa using p) (by simpa using q)⟩
   rw [this]
 | .iface _ v, v', hp, h => by
  cases h with
  | @iface _ _ u hh => rw [plain_eq v u (by simpa [plain] using hp) hh]
 | .pointer (some _), _, hp, _ => by simp [plain] at hp
 | .slice (some _) _ _, _, hp, _ => by simp [plain] at hp
 | .slice none (_ + 1) _, _, hp, _ => by simp [plain] at hp
 | .slice none 0 (_ + 1), _, hp, _ => by simp [plain] at hp
 | .map (some _), _, hp, _ => by simp [plain] at hp
 | .func _ _ _, _, hp, _ => by simp [plain] at hp
 | .float _ _, _, hp, _ => by simp [plain] at hp
 | .complex _ _ _, _, hp, _ => by simp [plain] at hp
 | .chan _, _, hp, _ => by simp [plain] at hp
theorem plains_eq {ν : Inj} : ∀ (l l' : List Value), plains l = true → VRs ν l l' → l' = l
 | [], l', _, h => h.nil_inv
 | v :: l, l', hp, h => by
  obtain ⟨v', m, rfl, h1, h2⟩ := h.cons_inv
  simp only [plains, Bool.and_eq_true] at hp
  rw [plain_eq v v' hp.1 h1, plains_eq l m hp.2 h2]
end

mutual
theorem plain_VR (ν : Inj) : ∀ (v : Value), plain v = true → VR ν v v
 | .bool _, _ => .bool _
 | .int _ _, _ => .int _ _
 | .string _, _ => .string _
 | .pointer none, _ => .pnil
 | .slice none 0 0, _ => .snil
 | .map none, _ => .mnil
 | .nilFunc, _ => .fnil
 | .nilIface, _ => .inil
 | .agg ⟨a⟩, hp => VRs.agg (plains_VR ν a (by simpa [plain] using hp))
 | .tuple ⟨a⟩, hp => VRs.tuple (plains_VR ν a (by simpa [plain] using hp))
 | .iface _ v, hp => .iface (plain_VR ν v (by simpa [plain] using hp))
 | .pointer (some _), hp => by simp [plain] at hp
 | .slice (some _) _ _, hp => by simp [plain] at hp
 | .slice none (_ + 1) _, hp => by simp [plain] at hp
 | .slice none 0 (_ + 1), hp => by simp [plain] at hp
 | .map (some _), hp => by simp [plain] at hp
 | .func _ _ _, hp => by simp [plain] at hp
 | .float _ _, hp => by simp [plain] at hp
 | .complex _ _ _, hp => by simp [plain] at hp
 | .chan _, hp => by simp [plain] at hp
theorem plains_VR (ν : Inj) : ∀ (l : List Value), plains l = true → VRs ν l l
 | [], _ => .nil ν
 | v :: l, hp => by
  simp only [plains, Bool.and_eq_true] at hp
  exact .cons (plain_VR ν v hp.1) (plains_VR ν l hp.2)
end

/-- A call over plain values that answers plainly does so in whatever heap, and leaves it as it was. -/
theorem Sound.lift {P : Program} {f : FuncId} {args : List Value} {v : Value} {h₁ : LHeap} (hs : Sound P f args LHeap.empty v h₁) (ha : plains args = true) (hv : plain v = true) (h : LHeap) : Sound P f args h v h := by
 refine ⟨hs.1, fun ν w args' hr hargs => ?_⟩
 have e := plains_eq _ _ ha hargs
 refine (hs.2 (fun _ => Option.none) w args' (HR.none hr.glW _) (by rw [e]; exact plains_VR _ _ ha)).mono ?_
 rintro x w' ⟨ν', v', rfl, h1, h2g, h3⟩
 have := plain_eq _ _ hv h1
 subst this
 have old : ∀ B, B < w.heap.size → w'.heap[B]? = w.heap[B]? := fun B hB => h3.frame B hB fun _ _ h => (nomatch h)
 refine ⟨ν, v', rfl, plain_VR ν v' hv, ⟨⟨hr.dom, ?_, hr.sep, fun b pl hb => Nat.lt_of_lt_of_le (hr.real b pl hb) h3.size⟩, fun g cs hg => ⟨h2g.glW g cs hg, (hr.gl g cs hg).2⟩⟩, ⟨Inj.le_refl ν, h3.os, h3.tape, h3.output, h3.size, Nat.le_refl _, fun B hB _ => old B hB, fun b pl hb hw _ => ⟨b, pl, hb, rfl, hw⟩, fun _ _ hn => ⟨hn, .inl rfl⟩⟩⟩
 intro b pl hb
 have ho := hr.obj b pl hb
 unfold ObjR at ho ⊢
 rw [old pl.B (hr.real b pl hb)]
 exact ho

theorem good_wp {o : Oper} {a : Act} {ν : Inj} {h h' : LHeap} {w : World} {v : Value} {K : Act → World → Prop} {Q : Exit → Act → World → Prop} (hg : Good P o a.eval ν h w v h')
  (hk : ∀ ν' v' w', VR ν' v v' → HR ν' h' w' → Step ν h w ν' h' w' → K (a.put o.dst v') w') : o.wp P a w K Q := by
 obtain ⟨ν', v', w', hr, hv, hh, hs⟩ := hg
 unfold Oper.wp
 rcases hr with hr | ⟨hr, rfl⟩
 ·rw [hr]; exact hk ν' v' w' hv hh hs
 ·rw [hr]; exact hk ν' undef w' hv hh hs

theorem cCall_cases (nt : List FuncId) (f : LO) (l : List LO) : cCall nt f l = .call f l ∨ ∃ g, f = .c (.func (.func g) #[] #[]) ∧ cCall nt f l = .ncall g l := by
 unfold cCall
 split
 ·rename_i g
  split
  ·exact .inr ⟨g, rfl, rfl⟩
  ·exact .inl rfl
 ·exact .inl rfl

theorem act_wp (hq : QOk P q) (hcall : CallOk P call) {o : Oper} {la : LAct} {fr : Fr} {a : Act} {ν : Inj} {h h' : LHeap} {w : World} {v : Value} {K : Act → World → Prop} {Q : Exit → Act → World → Prop}
  (hc : cAct nt P o.op = some la) (hx : lact q call la fr h = some (v, h')) (hr : HR ν h w) (hv : OpsR ν o.op fr.rd a.eval)
  (hk : ∀ ν' v' w', VR ν' v v' → HR ν' h' w' → Step ν h w ν' h' w' → K (a.put o.dst v') w') : o.wp P a w K Q := by
 cases la with
 | op lo =>
  have hc' : cOp P o.op = some lo ∨ lo = .bad := by
   unfold cAct at hc
   split at hc
   ·split at hc
    ·cases hc
    ·cases hc; exact .inr rfl
   ·split at hc
    ·rename_i fo lo' _ _
     simp only [Option.some.injEq] at hc
     rcases cCall_cases nt fo lo' with e | ⟨g, _, e⟩ <;> (rw [e] at hc; cases hc)
    ·cases hc; exact .inr rfl
   ·simp only [Option.some.injEq, LAct.op.injEq] at hc
    cases hz : cOp P o.op with
    | none => rw [hz] at hc; exact .inr hc.symm
    | some z => rw [hz] at hc; exact .inl (by rw [← hc]; rfl)
  rcases hc' with hc' | rfl
  rotate_left
  ·simp [lact, LOp.sub, lexec] at hx
  simp only [lact] at hx
  split at hx
  ·rename_i lv hs
   exact good_wp (cOp_sound hq (fun v => rfl) hc' hs hx hr hv) hk
  ·cases hx
 | pick c x y =>
  have hc' : ∃ oc ox oy, o.op = .pick oc ox oy ∧ cLO oc = some c ∧ cLO ox = some x ∧ cLO oy = some y := by
   unfold cAct at hc
   split at hc
   ·split at hc
    ·rename_i hop _ _ _ _ _ _ h1 h2 h3
     cases hc
     exact ⟨_, _, _, hop, h1, h2, h3⟩
    ·cases hc
   ·split at hc
    ·rename_i fo lo' _ _
     simp only [Option.some.injEq] at hc
     rcases cCall_cases nt fo lo' with e | ⟨g, _, e⟩ <;> (rw [e] at hc; cases hc)
    ·cases hc
   ·cases hc
  obtain ⟨oc, ox, oy, hop, h1, h2, h3⟩ := hc'
  rw [hop] at hv
  have hvc := hv oc (by simp [Op.operands]) c
  have hvx := hv ox (by simp [Op.operands]) x
  have hvy := hv oy (by simp [Op.operands]) y
  simp only [lact] at hx
  split at hx
  ·rename_i hcv
   obtain ⟨z, hz, he⟩ := map_some hx
   cases he
   have := (hvc _ h1 hcv).bool_inv
   unfold Oper.wp
   simp only [execOp, hop, this, asBool, Sem.run_bind, Sem.run_pure, Result.andThen_ok, if_true]
   exact hk ν _ w (hvx _ h2 hz) hr (Step.refl _ _ _)
  ·rename_i hcv
   obtain ⟨z, hz, he⟩ := map_some hx
   cases he
   have := (hvc _ h1 hcv).bool_inv
   unfold Oper.wp
   simp only [execOp, hop, this, asBool, Sem.run_bind, Sem.run_pure, Result.andThen_ok, Bool.false_eq_true, if_false]
   exact hk ν _ w (hvy _ h3 hz) hr (Step.refl _ _ _)
  ·cases hx
 | call f args =>
  have hc' : ∃ of oargs ts, o.op = .call { callee := .value of, args := oargs, argTypes := ts } ∧ cLO of = some f ∧ LOp.listM cLO oargs.toList = some args := by
   unfold cAct at hc
   split at hc
   ·split at hc <;> cases hc
   ·split at hc
    ·rename_i hop _ _ fo lo' h1 h2
     simp only [Option.some.injEq] at hc
     rcases cCall_cases nt fo lo' with e | ⟨g, _, e⟩
     ·rw [e] at hc
      cases hc
      exact ⟨_, _, _, hop, h1, h2⟩
     ·rw [e] at hc; cases hc
    ·cases hc
   ·cases hc
  obtain ⟨of, oargs, ts, hop, h1, h2⟩ := hc'
  rw [hop] at hv
  have hvf := hv of (by simp [Op.operands, Call.operands]) f
  simp only [lact] at hx
  split at hx
  ·rename_i g first cap vs hfv hvs
   split at hx
   ·rename_i hfirst
    have hvr := listM_VRs (ρ := a.eval) (ν := ν) h2 hvs fun x hx => hv x (by simp only [Op.operands, Call.operands]; have := Array.mem_toList_iff.1 hx; simp [this])
    obtain ⟨⟨fn, hfn, hname, hbody⟩, hsound⟩ := hcall _ _ _ _ _ hx
    have hval := hvf _ h1 hfv
    have key : ∃ cap', a.eval of = .func (.func g) #[] cap' ∧ VRs ν cap.toList cap'.toList := by
     generalize a.eval of = u at hval ⊢
     cases hval with
     | func hsz hh => exact ⟨_, rfl, by simpa using hsz, fun i v v' a b => hh i v v' (by simpa using a) (by simpa using b)⟩
    obtain ⟨cap', he, hcap⟩ := key
    unfold Oper.wp
    have hbody' : fn.body.isNone ≠ true := by simp [hbody]
    have hrun : (execOp a.eval o).run P w = .ok (.enter g (oargs.map a.eval ++ cap')) w := by
     simp only [execOp, hop, resolve, he, Deferred.ofValue, Sem.run_bind, Sem.run_pure, Result.andThen_ok, invoke, callFunc, run_program, hfn]
     have hn : (fn.name == "runtime.NumGoroutine") = false := by simpa using hname
     simp [hn, hbody]
    rw [hrun]
    simp only [Oper.upon]
    refine (hsound ν w _ hr ?_).mono ?_
    ·simp only [Array.toList_append, Array.toList_map]
     exact hvr.append hcap
    ·rintro e w' ⟨ν', v', rfl, hv', hh', hs'⟩
     exact hk ν' v' w' hv' hh' hs'
   ·cases hx
  ·cases hx
 | ncall g args =>
  have hc' : ∃ of oargs ts, o.op = .call { callee := .value of, args := oargs, argTypes := ts } ∧ cLO of = some (.c (.func (.func g) #[] #[])) ∧ LOp.listM cLO oargs.toList = some args := by
   unfold cAct at hc
   split at hc
   ·split at hc <;> cases hc
   ·split at hc
    ·rename_i hop _ _ fo lo' h1 h2
     simp only [Option.some.injEq] at hc
     rcases cCall_cases nt fo lo' with e | ⟨g', e', e⟩
     ·rw [e] at hc; cases hc
     ·rw [e] at hc
      cases hc
      rw [e'] at h1
      exact ⟨_, _, _, hop, h1, h2⟩
    ·cases hc
   ·cases hc
  obtain ⟨of, oargs, ts, hop, h1, h2⟩ := hc'
  rw [hop] at hv
  have hvf := hv of (by simp [Op.operands, Call.operands]) (.c (.func (.func g) #[] #[]))
  simp only [lact] at hx
  split at hx
  ·rename_i vs hvs
   split at hx
   ·rename_i hpl
    split at hx
    ·rename_i u h₁ hcl
     split at hx
     ·rename_i hpv
      simp only [Option.some.injEq, Prod.mk.injEq] at hx
      obtain ⟨rfl, rfl⟩ := hx
      have hvr := listM_VRs (ρ := a.eval) (ν := ν) h2 hvs fun x hx => hv x (by simp only [Op.operands, Call.operands]; have := Array.mem_toList_iff.1 hx; simp [this])
      obtain ⟨⟨fn, hfn, hname, hbody⟩, hsound⟩ := (hcall _ _ _ _ _ hcl).lift hpl hpv h
      have hval := hvf _ h1 rfl
      have he : a.eval of = .func (.func g) #[] #[] := by
       generalize a.eval of = z at hval ⊢
       cases hval with
       | func hsz hh =>
        rename_i c'
        have : c' = #[] := by apply Array.eq_empty_of_size_eq_zero; simpa using hsz.symm
        rw [this]
      unfold Oper.wp
      have hbody' : fn.body.isNone ≠ true := by simp [hbody]
      have hrun : (execOp a.eval o).run P w = .ok (.enter g (oargs.map a.eval)) w := by
       simp only [execOp, hop, resolve, he, Deferred.ofValue, Sem.run_bind, Sem.run_pure, Result.andThen_ok, invoke, callFunc, run_program, hfn]
       have hn : (fn.name == "runtime.NumGoroutine") = false := by simpa using hname
       simp [hn, hbody]
      rw [hrun]
      simp only [Oper.upon]
      refine (hsound ν w _ hr ?_).mono ?_
      ·simp only [Array.toList_map]
       exact hvr
      ·rintro e w' ⟨ν', v', rfl, hv', hh', hs'⟩
       exact hk ν' v' w' hv' hh' hs'
     ·cases hx
    ·cases hx
   ·cases hx
  ·cases hx

/-! ### Regions that don't draw -/

theorem cOper_spec {ops : Array Oper} {o : Oper} {l : LOper} (h : cOper nt P n ops o = some l) :
  cAct nt P o.op = some l.act ∧ l.dst = o.dst ∧ (∀ k, o.dst = some k → k < n) ∧
  ((o.guard = none ∧ l.guard = none) ∨ ∃ j want t, o.guard = some (j, want) ∧ (ops[j]?).bind (·.dst) = some t ∧ l.guard = some (t, want)) := by
 unfold cOper at h
 split at h
 ·cases h
 ·rename_i la hla
  split at h
  ·rename_i hd
   have hd' : ∀ k, o.dst = some k → k < n := by
    intro k hk
    rw [hk] at hd
    simpa [dstOk] using hd
   split at h
   ·rename_i hg
    cases h
    exact ⟨hla, rfl, hd', .inl ⟨hg, rfl⟩⟩
   ·rename_i j want hg
    split at h
    ·rename_i t ht
     cases h
     exact ⟨hla, rfl, hd', .inr ⟨j, want, t, hg, ht, rfl⟩⟩
    ·cases h
  ·cases h

theorem wanted_spec {ops : Array Oper} {o : Oper} {l : LOper} (h : cOper nt P n ops o = some l) {fr : Fr} {a : Act} {b : Bool} (hw : l.wanted fr = some b)
  (hf : ∀ j want t, o.guard = some (j, want) → (ops[j]?).bind (·.dst) = some t → ∀ v, fr.get t = some v → ∃ v' ν, a.tmps[t]? = some v' ∧ VR ν v v') : Region.wanted o (yielded ops a.tmps) = b := by
 obtain ⟨_, _, _, hg⟩ := cOper_spec h
 rcases hg with ⟨h1, h2⟩ | ⟨j, want, t, h1, h2, h3⟩
 ·simp only [LOper.wanted, h2, Option.some.injEq] at hw
  subst hw
  simp [Region.wanted, h1]
 ·simp only [LOper.wanted, h3] at hw
  split at hw
  ·rename_i c hc
   cases hw
   obtain ⟨v, hc, hu⟩ := Option.map_eq_some_iff.1 hc
   obtain ⟨v', ν, hv1, hv2⟩ := hf j want t h1 h2 _ hc
   unfold undefB at hu
   split at hu
   ·cases hu
    obtain ⟨a, rfl⟩ := hv2.tuple_inv
    simp only [Region.wanted, h1, yielded, h2, Option.bind_some, hv1]
    cases want <;> rfl
   ·subst hu
    have := hv2.bool_inv
    subst this
    simp only [Region.wanted, h1, yielded, h2, Option.bind_some, hv1]
    rfl
  ·cases hw

theorem OpsR.of_FR {ν : Inj} {fr : Fr} {a : Act} (h : FR ν n fr a.tmps) (op : Op) : OpsR ν op fr.rd a.eval := fun _ _ _ _ hx hv => cLO_VR h hx hv

theorem Step.fr {ν ν' : Inj} {h h' : LHeap} {w w' : World} (hs : Step ν h w ν' h' w') {fr : Fr} {tmps : Array Value} (hf : FR ν n fr tmps) : FR ν' n fr tmps := hf.mono hs.le

theorem lops_wp (hq : QOk P q) (hcall : CallOk P call) {ops : Array Oper} {Q : Exit → Act → World → Prop} : ∀ (os : List Oper) (ls : List LOper) (i : Nat) (fr fr' : Fr) (h h' : LHeap) (ν : Inj) (a : Act) (w : World),
  (∀ j, ops[i + j]? = os[j]?) → cOpers nt P n ops os = some ls → lops q call ls fr h = some (fr', h') → HR ν h w → FR ν n fr a.tmps →
  (∀ ν' a' w', FR ν' n fr' a'.tmps → a'.defers = a.defers → HR ν' h' w' → Step ν h w ν' h' w' → Q .normal a' w') → wpOps P ops Q (List.range' i os.length) a w
 | [], ls, i, fr, fr', h, h', ν, a, w, _, hc, hx, hr, hf, hQ => by
  simp only [cOpers, Option.some.injEq] at hc
  subst hc
  simp only [lops, Option.some.injEq, Prod.mk.injEq] at hx
  obtain ⟨rfl, rfl⟩ := hx
  exact hQ ν a w hf rfl hr (Step.refl _ _ _)
 | o :: os, ls, i, fr, fr', h, h', ν, a, w, hops, hc, hx, hr, hf, hQ => by
  simp only [cOpers] at hc
  split at hc
  ·rename_i l lr hl hlr
   simp only [Option.some.injEq] at hc
   subst hc
   simp only [lops] at hx
   split at hx
   ·rename_i fr1 h1 hstep
    have ho : ops[i]? = some o := by simpa using hops 0
    obtain ⟨hact, hdst, hdn, hg⟩ := cOper_spec hl
    have hnext : ∀ ν1 a1 w1, FR ν1 n fr1 a1.tmps → a1.defers = a.defers → HR ν1 h1 w1 → Step ν h w ν1 h1 w1 → wpOps P ops Q (List.range' (i + 1) os.length) a1 w1 := fun ν1 a1 w1 f1 d1 r1 s1 =>
     lops_wp hq hcall os lr (i + 1) fr1 fr' h1 h' ν1 a1 w1 (fun j => by have := hops (j + 1); rw [List.getElem?_cons_succ] at this; rwa [show i + (j + 1) = i + 1 + j by omega] at this) hlr hx r1 f1
      (fun ν2 a2 w2 f2 d2 r2 s2 => hQ ν2 a2 w2 f2 (d2.trans d1) r2 (s1.trans s2))
    simp only [List.length_cons, List.range'_succ]
    rw [wpOps_cons]
    unfold wpOp
    simp only [ho]
    have hguard : ∀ b, l.wanted fr = some b → Region.wanted o (yielded ops a.tmps) = b := fun b hb => wanted_spec hl hb (fun j want t _ _ v hv => by
     obtain ⟨v', p, q⟩ := hf.get t v hv
     exact ⟨v', ν, p, q⟩)
    simp only [loper] at hstep
    split at hstep
    ·rename_i hw
     rw [hguard true hw]
     simp only [if_true]
     split at hstep
     ·rename_i v h2 hlact
      simp only [Option.some.injEq, Prod.mk.injEq] at hstep
      obtain ⟨rfl, rfl⟩ := hstep
      refine .inl (act_wp hq hcall hact hlact hr (OpsR.of_FR hf o.op) ?_)
      intro ν1 v1 w1 hv1 hr1 hs1
      refine hnext ν1 _ w1 ?_ ?_ hr1 hs1
      ·rw [hdst]
       exact (hs1.fr hf).put hdn hv1
      ·cases o.dst <;> rfl
     ·cases hstep
    ·rename_i hw
     rw [hguard false hw]
     simp only [Bool.false_eq_true, if_false]
     simp only [Option.some.injEq, Prod.mk.injEq] at hstep
     obtain ⟨rfl, rfl⟩ := hstep
     refine hnext ν _ w ?_ ?_ hr (Step.refl _ _ _)
     ·rw [hdst]
      exact hf.put hdn (VRs.tuple (.nil ν))
     ·cases o.dst <;> rfl
    ·cases hstep
   ·cases hx
  ·cases hc

end
end Go.E1

/-
 A region that draws its order: what its evaluation in the text's order tells of each operation.
-/
namespace Go.E1
open Go

mutual
theorem veq_eq : ∀ (a b : Value), veq a b = true → a = b
 | .bool a, .bool b, h => by simpa [veq] using h
 | .int k a, .int l b, h => by simpa [veq] using h
 | .string a, .string b, h => by simpa [veq] using h
 | .pointer a, .pointer b, h => by simpa [veq] using h
 | .slice a n c, .slice b m d, h => by
  simp only [veq, Bool.and_eq_true, beq_iff_eq] at h
  obtain ⟨⟨h1, h2⟩, h3⟩ := h
  rw [h1, h2, h3]
 | .map a, .map b, h => by simpa [veq] using h
 | .nilFunc, .nilFunc, _ => rfl
 | .func f ⟨a⟩ ⟨c⟩, .func g ⟨b⟩ ⟨d⟩, h => by
  simp only [veq, Bool.and_eq_true, beq_iff_eq] at h
  obtain ⟨⟨h1, h2⟩, h3⟩ := h
  rw [h1, veqs_eq a b h2, veqs_eq c d h3]
 | .nilIface, .nilIface, _ => rfl
 | .iface t a, .iface u b, h => by
  simp only [veq, Bool.and_eq_true, beq_iff_eq] at h
  rw [h.1, veq_eq a b h.2]
 | .agg ⟨a⟩, .agg ⟨b⟩, h => by
  simp only [veq] at h
  rw [veqs_eq a b h]
 | .tuple ⟨a⟩, .tuple ⟨b⟩, h => by
  simp only [veq] at h
  rw [veqs_eq a b h]
 | .float .., b, h => by cases b <;> simp [veq] at h
 | .complex .., b, h => by cases b <;> simp [veq] at h
 | .chan .., b, h => by cases b <;> simp [veq] at h
 | .bool _, .int .., h | .bool _, .float .., h | .bool _, .complex .., h | .bool _, .string .., h | .bool _, .pointer .., h | .bool _, .slice .., h | .bool _, .map .., h | .bool _, .chan .., h | .bool _, .func .., h | .bool _, .nilFunc, h | .bool _, .iface .., h | .bool _, .nilIface, h | .bool _, .agg .., h | .bool _, .tuple .., h => by simp [veq] at h
 | .int .., .bool .., h | .int .., .float .., h | .int .., .complex .., h | .int .., .string .., h | .int .., .pointer .., h | .int .., .slice .., h | .int .., .map .., h | .int .., .chan .., h | .int .., .func .., h | .int .., .nilFunc, h | .int .., .iface .., h | .int .., .nilIface, h | .int .., .agg .., h | .int .., .tuple .., h => by simp [veq] at h
 | .string .., .bool .., h | .string .., .float .., h | .string .., .complex .., h | .string .., .int .., h | .string .., .pointer .., h | .string .., .slice .., h | .string .., .map .., h | .string .., .chan .., h | .string .., .func .., h | .string .., .nilFunc, h | .string .., .iface .., h | .string .., .nilIface, h | .string .., .agg .., h | .string .., .tuple .., h => by simp [veq] at h
 | .pointer .., .bool .., h | .pointer .., .float .., h | .pointer .., .complex .., h | .pointer .., .int .., h | .pointer .., .string .., h | .pointer .., .slice .., h | .pointer .., .map .., h | .pointer .., .chan .., h | .pointer .., .func .., h | .pointer .., .nilFunc, h | .pointer .., .iface .., h | .pointer .., .nilIface, h | .pointer .., .agg .., h | .pointer .., .tuple .., h => by simp [veq] at h
 | .slice .., .bool .., h | .slice .., .float .., h | .slice .., .complex .., h | .slice .., .int .., h | .slice .., .string .., h | .slice .., .pointer .., h | .slice .., .map .., h | .slice .., .chan .., h | .slice .., .func .., h | .slice .., .nilFunc, h | .slice .., .iface .., h | .slice .., .nilIface, h | .slice .., .agg .., h | .slice .., .tuple .., h => by simp [veq] at h
 | .map .., .bool .., h | .map .., .float .., h | .map .., .complex .., h | .map .., .int .., h | .map .., .string .., h | .map .., .pointer .., h | .map .., .slice .., h | .map .., .chan .., h | .map .., .func .., h | .map .., .nilFunc, h | .map .., .iface .., h | .map .., .nilIface, h | .map .., .agg .., h | .map .., .tuple .., h => by simp [veq] at h
 | .nilFunc, .bool .., h | .nilFunc, .float .., h | .nilFunc, .complex .., h | .nilFunc, .int .., h | .nilFunc, .string .., h | .nilFunc, .pointer .., h | .nilFunc, .slice .., h | .nilFunc, .chan .., h | .nilFunc, .func .., h | .nilFunc, .map .., h | .nilFunc, .iface .., h | .nilFunc, .nilIface, h | .nilFunc, .agg .., h | .nilFunc, .tuple .., h => by simp [veq] at h
 | .func .., .bool .., h | .func .., .float .., h | .func .., .complex .., h | .func .., .int .., h | .func .., .string .., h | .func .., .pointer .., h | .func .., .slice .., h | .func .., .chan .., h | .func .., .nilFunc, h | .func .., .map .., h | .func .., .iface .., h | .func .., .nilIface, h | .func .., .agg .., h | .func .., .tuple .., h => by simp [veq] at h
 | .nilIface, .bool .., h | .nilIface, .float .., h | .nilIface, .complex .., h | .nilIface, .int .., h | .nilIface, .string .., h | .nilIface, .pointer .., h | .nilIface, .slice .., h | .nilIface, .chan .., h | .nilIface, .nilFunc, h | .nilIface, .map .., h | .nilIface, .iface .., h | .nilIface, .func .., h | .nilIface, .agg .., h | .nilIface, .tuple .., h => by simp [veq] at h
 | .iface .., .bool .., h | .iface .., .float .., h | .iface .., .complex .., h | .iface .., .int .., h | .iface .., .string .., h | .iface .., .pointer .., h | .iface .., .slice .., h | .iface .., .chan .., h | .iface .., .nilFunc, h | .iface .., .map .., h | .iface .., .nilIface, h | .iface .., .func .., h | .iface .., .agg .., h | .iface .., .tuple .., h => by simp [veq] at h
 | .agg .., .bool .., h | .agg .., .float .., h | .agg .., .complex .., h | .agg .., .int .., h | .agg .., .string .., h | .agg .., .pointer .., h | .agg .., .slice .., h | .agg .., .chan .., h | .agg .., .nilFunc, h | .agg .., .map .., h | .agg .., .nilIface, h | .agg .., .func .., h | .agg .., .iface .., h | .agg .., .tuple .., h => by simp [veq] at h
 | .tuple .., .bool .., h | .tuple .., .float .., h | .tuple .., .complex .., h | .tuple .., .int .., h | .tuple .., .string .., h | .tuple .., .pointer .., h | .tuple .., .slice .., h | .tuple .., .chan .., h | .tuple .., .nilFunc, h | .tuple .., .map .., h | .tuple .., .nilIface, h | .tuple .., .func .., h | .tuple .., .iface .., h | .tuple .., .agg .., h => by simp [veq] at h
theorem veqs_eq : ∀ (a b : List Value), veqs a b = true → a = b
 | [], [], _ => rfl
 | a :: l, b :: m, h => by
  simp only [veqs, Bool.and_eq_true] at h
  rw [veq_eq a b h.1, veqs_eq l m h.2]
 | [], _ :: _, h => by simp [veqs] at h
 | _ :: _, [], h => by simp [veqs] at h
end

section
variable {q : EqF} {call : CallF}

theorem lexec_heap {o : LOp Value} {h h' : LHeap} {v : Value} (hc : o.cls ≠ .effect) (hx : lexec q o h = some (v, h')) : h' = h := by
 cases o <;> simp [LOp.cls] at hc <;> simp only [lexec] at hx <;> (repeat' split at hx) <;> simp_all <;> (obtain ⟨_, _, _, hh⟩ := hx; exact hh.symm)

theorem lexec_pure {o : LOp Value} {h h' : LHeap} {v : Value} (hc : o.cls = .pure) (hx : lexec q o h = some (v, h')) (h2 : LHeap) : lexec q o h2 = some (v, h2) := by
 cases o <;> simp [LOp.cls] at hc <;> simp only [lexec] at hx ⊢ <;> (repeat' split at hx) <;> simp_all <;> (obtain ⟨z, h1, h2, h3⟩ := hx; first | exact ⟨z, h1, h2⟩ | (rw [← h2]; exact h1))

theorem lact_pure {a : LAct} {fr : Fr} {h h' : LHeap} {v : Value} (hc : a.cls = .pure) (hx : lact q call a fr h = some (v, h')) : h' = h ∧ ∀ h2, lact q call a fr h2 = some (v, h2) := by
 cases a with
 | op o =>
  simp only [lact] at hx ⊢
  split at hx
  ·rename_i lv hs
   have hcl : lv.cls = .pure := by
    have : ∀ {α β : Type} (f : α → Option β) (o : LOp α) (l : LOp β), o.sub f = some l → l.cls = o.cls := by
     intro α β f o l hl
     cases o <;> simp only [LOp.sub] at hl <;> (repeat' split at hl) <;> simp_all [LOp.cls] <;> (first | (obtain ⟨_, _, rfl⟩ := hl; rfl) | (subst hl; rfl))
    rw [this _ _ _ hs]; exact hc
   exact ⟨lexec_heap (by rw [hcl]; simp) hx, fun h2 => lexec_pure hcl hx h2⟩
  ·cases hx
 | pick c x y =>
  simp only [lact] at hx ⊢
  split at hx
  ·obtain ⟨z, hz, he⟩ := map_some hx
   cases he
   exact ⟨rfl, fun h2 => by rw [hz]; rfl⟩
  ·obtain ⟨z, hz, he⟩ := map_some hx
   cases he
   exact ⟨rfl, fun h2 => by rw [hz]; rfl⟩
  ·cases hx
 | call f args => simp [LAct.cls] at hc
 | ncall g args =>
  simp only [lact] at hx ⊢
  split at hx
  ·split at hx
   ·split at hx
    ·split at hx
     ·simp only [Option.some.injEq, Prod.mk.injEq] at hx
      obtain ⟨rfl, rfl⟩ := hx
      rename_i hp _ _ _ hcl hv
      exact ⟨rfl, fun h2 => by simp only [hp, hv, if_true]⟩
     ·cases hx
    ·cases hx
   ·cases hx
  ·cases hx

theorem sub_cls {α β : Type} {f : α → Option β} {o : LOp α} {l : LOp β} (hl : o.sub f = some l) : l.cls = o.cls := by
 cases o <;> simp only [LOp.sub] at hl <;> (repeat' split at hl) <;> simp_all [LOp.cls] <;> (first | (obtain ⟨_, _, rfl⟩ := hl; rfl) | (subst hl; rfl))

/-- What holds of one operation of a region that draws: 'F' the frame ahead of it, 'C' how many effects came, 'H' the heaps by effects, 'V' what it yields, 'M' how many effects there are. -/
def OpTr (q : EqF) (call : CallF) (H : Nat → LHeap) (M : Nat) (e : LOper × Nat × Nat) (f f' : Fr) (c c' : Nat) (v : Value) : Prop :=
 ∃ b, e.1.wanted f = some b ∧ f' = f.put e.1.dst v ∧ c' = c + (if e.1.act.cls = .effect then 1 else 0) ∧
  (b = false → v = undefL ∧ (e.1.act.cls = .effect → H (c + 1) = H c)) ∧
  (b = true → (e.1.act.cls = .pure → ∀ h, lact q call e.1.act f h = some (v, h)) ∧
   (e.1.act.cls = .reader → ∀ m, e.2.1 ≤ m → m ≤ e.2.2 → m ≤ M → lact q call e.1.act f (H m) = some (v, H m)) ∧
   (e.1.act.cls = .effect → lact q call e.1.act f (H c) = some (v, H (c + 1))))

theorem Pend.ok_spec {p : Pend} {h : LHeap} (hc : p.op.cls = .reader) (ho : p.ok q h = true) : lexec q p.op h = some (p.v, h) := by
 unfold Pend.ok at ho
 split at ho
 ·rename_i v h' hx
  have := veq_eq _ _ ho
  subst this
  have := lexec_heap (by rw [hc]; simp) hx
  subst this
  exact hx
 ·cases ho

theorem ldops_trace : ∀ (B : List (LOper × Nat × Nat)) (fr : Fr) (h : LHeap) (past : List LHeap) (pend : List Pend) (fr' : Fr) (h' : LHeap), ldops q call B fr h past pend = some (fr', h') → (∀ p ∈ pend, p.op.cls = .reader) → (∀ p ∈ pend, past.length ≤ p.hi → lexec q p.op h = some (p.v, h)) →
  ∃ (H : Nat → LHeap) (F : Nat → Fr) (C : Nat → Nat) (V : Nat → Value),
   (∀ m, m < past.length → past.reverse[m]? = some (H m)) ∧ H past.length = h ∧ F 0 = fr ∧ C 0 = past.length ∧ F B.length = fr' ∧ H (C B.length) = h' ∧ past.length ≤ C B.length ∧
   (∀ p ∈ pend, ∀ m, past.length < m → m ≤ C B.length → m ≤ p.hi → lexec q p.op (H m) = some (p.v, H m)) ∧
   ∀ i e, B[i]? = some e → OpTr q call H (C B.length) e (F i) (F (i + 1)) (C i) (C (i + 1)) (V i)
 | [], fr, h, past, pend, fr', h', hx, _, _ => by
  simp only [ldops, Option.some.injEq, Prod.mk.injEq] at hx
  obtain ⟨rfl, rfl⟩ := hx
  refine ⟨fun m => if m < past.length then (past.reverse[m]?).getD h else h, fun _ => fr, fun _ => past.length, fun _ => undefL, ?_, by simp, rfl, rfl, rfl, by simp, Nat.le_refl _, ?_, ?_⟩
  ·intro m hm
   simp only [hm, if_true]
   rw [List.getElem?_eq_getElem (by simpa using hm)]
   rfl
  ·intro p _ m h1 h2 _
   simp only at h2
   omega
  ·intro i e he; simp at he
 | (l, lo, hi) :: r, fr, h, past, pend, fr', h', hx, hp, hpv => by
  have shift : ∀ (fr1 : Fr) (h1 : LHeap) (past1 : List LHeap) (pend1 : List Pend) (v : Value), (∀ p ∈ pend1, p.op.cls = .reader) → (∀ p ∈ pend1, past1.length ≤ p.hi → lexec q p.op h1 = some (p.v, h1)) → ldops q call r fr1 h1 past1 pend1 = some (fr', h') → fr1 = fr.put l.dst v →
    past1.length = past.length + (if l.act.cls = .effect then 1 else 0) → (∀ m, m < past.length → past1.reverse[m]? = past.reverse[m]?) → (∀ (H : Nat → LHeap), (∀ m, m < past1.length → past1.reverse[m]? = some (H m)) → H past1.length = h1 → H past.length = h) →
    (∀ p ∈ pend, p ∈ pend1) → (l.act.cls = .effect → ∀ p ∈ pend, past.length < p.hi → lexec q p.op h1 = some (p.v, h1)) →
    (∀ (H : Nat → LHeap) (M : Nat), (∀ m, m < past.length → past.reverse[m]? = some (H m)) → H past.length = h → H past1.length = h1 → (∀ p ∈ pend1, ∀ m, past1.length < m → m ≤ M → m ≤ p.hi → lexec q p.op (H m) = some (p.v, H m)) →
     OpTr q call H M (l, lo, hi) fr fr1 past.length past1.length v) →
    ∃ (H : Nat → LHeap) (F : Nat → Fr) (C : Nat → Nat) (V : Nat → Value),
     (∀ m, m < past.length → past.reverse[m]? = some (H m)) ∧ H past.length = h ∧ F 0 = fr ∧ C 0 = past.length ∧ F ((l, lo, hi) :: r).length = fr' ∧ H (C ((l, lo, hi) :: r).length) = h' ∧ past.length ≤ C ((l, lo, hi) :: r).length ∧
     (∀ p ∈ pend, ∀ m, past.length < m → m ≤ C ((l, lo, hi) :: r).length → m ≤ p.hi → lexec q p.op (H m) = some (p.v, H m)) ∧
     ∀ i e, ((l, lo, hi) :: r)[i]? = some e → OpTr q call H (C ((l, lo, hi) :: r).length) e (F i) (F (i + 1)) (C i) (C (i + 1)) (V i) := by
   intro fr1 h1 past1 pend1 v hp1 hpv1 hx1 hfr1 hlen hpast hhp hsub heff hop
   obtain ⟨H, F, C, V, a1, a2, a3, a4, a5, a6, a7, a8, a9⟩ := ldops_trace r fr1 h1 past1 pend1 fr' h' hx1 hp1 hpv1
   have b1 : ∀ m, m < past.length → past.reverse[m]? = some (H m) := fun m hm => by rw [← hpast m hm]; exact a1 m (by rw [hlen]; omega)
   have b2 := hhp H a1 a2
   refine ⟨H, fun i => if i = 0 then fr else F (i - 1), fun i => if i = 0 then past.length else C (i - 1), fun i => if i = 0 then v else V (i - 1), b1, b2, rfl, rfl, ?_, ?_, ?_, ?_, ?_⟩
   ·simpa using a5
   ·simpa using a6
   ·simp only [List.length_cons, Nat.add_one_ne_zero, if_false, Nat.add_sub_cancel]
    rw [hlen] at a7; omega
   ·intro p hp' m hm1 hm2 hm3
    simp only [List.length_cons, Nat.add_one_ne_zero, if_false, Nat.add_sub_cancel] at hm2
    by_cases he : l.act.cls = .effect
    ·simp only [he, if_true] at hlen
     by_cases hm : m = past.length + 1
     ·subst hm
      rw [← hlen, a2]
      exact heff he p hp' (by omega)
     ·exact a8 p (hsub p hp') m (by omega) hm2 hm3
    ·simp only [he, if_false, Nat.add_zero] at hlen
     exact a8 p (hsub p hp') m (by omega) hm2 hm3
   ·intro i e he
    cases i with
    | zero =>
     simp only [List.getElem?_cons_zero, Option.some.injEq] at he
     subst he
     have := hop H (C r.length) b1 b2 a2 a8
     simpa [a3, a4] using this
    | succ i =>
     simp only [List.getElem?_cons_succ] at he
     have := a9 i e he
     simpa using this
  simp only [ldops] at hx
  split at hx
  ·-- it only reckons
   rename_i hcl
   split at hx
   ·rename_i fr1 h1 hstep
    simp only [loper] at hstep
    split at hstep
    ·rename_i hw
     split at hstep
     ·rename_i v h2 hla
      simp only [Option.some.injEq, Prod.mk.injEq] at hstep
      obtain ⟨rfl, rfl⟩ := hstep
      obtain ⟨_, hpure⟩ := lact_pure hcl hla
      refine shift _ h past pend v hp hpv hx rfl (by simp [hcl]) (fun _ _ => rfl) (fun H _ h0 => h0) (fun _ h => h) (fun he => by rw [hcl] at he; cases he) ?_
      intro H M _ _ _ _
      exact ⟨true, hw, rfl, by simp [hcl], fun h => (by cases h), fun _ => ⟨fun _ => hpure, fun he => (by rw [hcl] at he; cases he), fun he => (by rw [hcl] at he; cases he)⟩⟩
     ·cases hstep
    ·rename_i hw
     simp only [Option.some.injEq, Prod.mk.injEq] at hstep
     obtain ⟨rfl, rfl⟩ := hstep
     refine shift _ h past pend undefL hp hpv hx rfl (by simp [hcl]) (fun _ _ => rfl) (fun H _ h0 => h0) (fun _ h => h) (fun he => by rw [hcl] at he; cases he) ?_
     intro H M _ _ _ _
     exact ⟨false, hw, rfl, by simp [hcl], fun _ => ⟨rfl, fun he => (by rw [hcl] at he; cases he)⟩, fun h => by cases h⟩
    ·cases hstep
   ·cases hx
  ·-- it reads
   rename_i hcl
   split at hx
   ·rename_i hw
    refine shift _ h past pend undefL hp hpv hx rfl (by simp [hcl]) (fun _ _ => rfl) (fun H _ h0 => h0) (fun _ h => h) (fun he => by rw [hcl] at he; cases he) ?_
    intro H M _ _ _ _
    exact ⟨false, hw, rfl, by simp [hcl], fun _ => ⟨rfl, fun he => (by rw [hcl] at he; cases he)⟩, fun h => by cases h⟩
   ·rename_i hw
    split at hx
    ·rename_i op hact
     split at hx
     ·rename_i lv hs
      split at hx
      ·rename_i v h2 hlx
       split at hx
       ·rename_i hall
        have hlc : lv.cls = .reader := by
         rw [sub_cls hs]
         rw [hact] at hcl
         exact hcl
        have h2e := lexec_heap (by rw [hlc]; simp) hlx
        rw [h2e] at hlx
        refine shift _ h past (⟨lv, v, hi⟩ :: pend) v (fun p hp' => by
         rcases List.mem_cons.1 hp' with rfl | hp'
         ·exact hlc
         ·exact hp p hp') (fun p hp' hle => by
         rcases List.mem_cons.1 hp' with rfl | hp'
         ·exact hlx
         ·exact hpv p hp' hle) hx rfl (by simp [hcl]) (fun _ _ => rfl) (fun H _ h0 => h0) (fun p hp' => List.mem_cons_of_mem _ hp') (fun he => by rw [hcl] at he; cases he) ?_
        intro H M hH1 hH2 _ hH4
        refine ⟨true, hw, rfl, by simp [hcl], fun h => (by cases h), fun _ => ⟨fun he => (by rw [hcl] at he; cases he), fun _ m hm1 hm2 hm3 => ?_, fun he => (by rw [hcl] at he; cases he)⟩⟩
        simp only [lact, hact, hs]
        rcases Nat.lt_trichotomy m past.length with hm | hm | hm
        ·have hin : H m ∈ past.take (past.length - lo) := by
          have h3 := hH1 m hm
          rw [List.getElem?_reverse hm] at h3
          refine List.mem_of_getElem? (i := past.length - 1 - m) ?_
          rw [List.getElem?_take]
          simp only at hm1
          rw [if_pos (by omega)]
          exact h3
         exact Pend.ok_spec (p := ⟨lv, v, hi⟩) hlc (List.all_eq_true.1 hall _ hin)
        ·subst hm; rw [hH2]; exact hlx
        ·exact hH4 ⟨lv, v, hi⟩ (by simp) m hm hm3 hm2
       ·cases hx
      ·cases hx
     ·cases hx
    ·cases hx
   ·cases hx
  ·-- it acts
   rename_i hcl
   split at hx
   ·rename_i hw
    refine shift _ h (h :: past) pend undefL hp (fun p hp' hle => hpv p hp' (by simp at hle; omega)) hx rfl (by simp [hcl]) (fun m hm => by simp [List.getElem?_append, hm]) (fun H h1 _ => ?_) (fun _ h => h) (fun _ p hp' hlt => ?_) ?_
    ·have := h1 past.length (by simp)
     simpa [List.getElem?_append] using this.symm
    ·exact hpv p hp' (by omega)
    ·intro H M _ hH2 hH3 _
     refine ⟨false, hw, rfl, by simp [hcl], fun _ => ⟨rfl, fun _ => ?_⟩, fun h => by cases h⟩
     simp only [List.length_cons] at hH3
     rw [hH2, hH3]
   ·rename_i hw
    split at hx
    ·rename_i v h1 hla
     split at hx
     ·rename_i hall
      refine shift _ h1 (h :: past) pend v hp (fun p hp' hle => by
       have := List.all_eq_true.1 hall p hp'
       simp only [Bool.or_eq_true, decide_eq_true_eq] at this
       simp only [List.length_cons] at hle
       exact Pend.ok_spec (hp p hp') (this.resolve_left (by omega))) hx rfl (by simp [hcl]) (fun m hm => by simp [List.getElem?_append, hm]) (fun H h1 _ => ?_) (fun _ h => h) (fun _ p hp' hlt => ?_) ?_
      ·have := h1 past.length (by simp)
       simpa [List.getElem?_append] using this.symm
      ·have := List.all_eq_true.1 hall p hp'
       simp only [Bool.or_eq_true, decide_eq_true_eq] at this
       exact Pend.ok_spec (hp p hp') (this.resolve_left (by omega))
      ·intro H M _ hH2 hH3 _
       refine ⟨true, hw, rfl, by simp [hcl], fun h => (by cases h), fun _ => ⟨fun he => (by rw [hcl] at he; cases he), fun he => (by rw [hcl] at he; cases he), fun _ => ?_⟩⟩
       simp only [List.length_cons] at hH3
       rw [hH2, hH3]
       exact hla
     ·cases hx
    ·cases hx
   ·cases hx

end
end Go.E1

/-
 A region that draws its order: whatever order is drawn, what the text's order tells holds.
-/
namespace Go.E1
open Go

section
variable {P : Program} {q : EqF} {call : CallF} {n : Nat}

/-! ### Masks -/

theorem maskOf_bit {ms : List Nat} : ∀ (ds : List Nat) (s i : Nat), (ds.foldl (fun s d => s ||| 2 ^ d ||| ms.getD d 0) s).testBit i = true ↔ s.testBit i = true ∨ ∃ d ∈ ds, i = d ∨ (ms.getD d 0).testBit i = true
 | [], s, i => by simp
 | d :: ds, s, i => by
  simp only [List.foldl_cons]
  rw [maskOf_bit ds]
  simp only [Nat.testBit_or, Bool.or_eq_true, Nat.testBit_two_pow, List.mem_cons, exists_eq_or_imp, decide_eq_true_eq]
  constructor
  ·rintro (((h | h) | h) | h)
   ·exact .inl h
   ·exact .inr (.inl (.inl h.symm))
   ·exact .inr (.inl (.inr h))
   ·exact .inr (.inr h)
  ·rintro (h | (h | h) | h)
   ·exact .inl (.inl (.inl h))
   ·exact .inl (.inl (.inr h.symm))
   ·exact .inl (.inr h)
   ·exact .inr h

structure DFacts (ops : Array Oper) (ls : List LOper) (ms : List Nat) : Prop where
 len : ls.length = ops.size
 less : ∀ j o, ops[j]? = some o → ∀ d ∈ direct o, d < j
 mask : ∀ j o, ops[j]? = some o → ms.getD j 0 = maskOf ms (direct o)
 pair : ∀ i j oi oj li lj, i < j → ops[i]? = some oi → ops[j]? = some oj → ls[i]? = some li → ls[j]? = some lj → (ms.getD j 0).testBit i = true ∨ (Oper.apart ops oi oj = true ∧ ¬ (isEff li = true ∧ isEff lj = true ∧ laOp oi = false))

theorem dOk_facts {ops : Array Oper} {ls : List LOper} {ms : List Nat} (h : dOk ops.toList ls ms = true) : DFacts ops ls ms := by
 unfold dOk at h
 simp only [Bool.and_eq_true, beq_iff_eq, List.all_eq_true, List.mem_range] at h
 obtain ⟨⟨h1, h2⟩, h3⟩ := h
 simp only [Array.length_toList] at h1 h2
 have hlt : ∀ {j : Nat} {o : Oper}, ops[j]? = some o → j < ops.size := fun {j o} ho => by
  rcases Nat.lt_or_ge j ops.size with q | q
  ·exact q
  ·simp [Array.getElem?_eq_none q] at ho
 have get : ∀ {j : Nat} {o : Oper}, ops[j]? = some o → ∃ l, ls[j]? = some l ∧ ((direct o).all (· < j) = true ∧ ms.getD j 0 = maskOf ms (direct o)) ∧
   ∀ i, i < j → (match ops.toList[i]?, ls[i]? with
    | some oi, some li => (ms.getD j 0).testBit i || (Oper.apart ops.toList.toArray oi o && !(isEff li && isEff l && !laOp oi))
    | _, _ => false) = true := by
  intro j o ho
  have hj := hlt ho
  have := h3 j (by simpa using hj)
  have ho' : ops.toList[j]? = some o := by simpa using ho
  have hl : ls[j]? = some (ls[j]'(by omega)) := by simp
  rw [ho', hl] at this
  simp only [Bool.and_eq_true, beq_iff_eq, List.all_eq_true, List.mem_range] at this
  refine ⟨_, hl, ⟨?_, this.1.2⟩, this.2⟩
  rw [List.all_eq_true]
  exact this.1.1
 refine ⟨h2, ?_, ?_, ?_⟩
 ·intro j o ho d hd
  obtain ⟨l, _, ⟨h, _⟩, _⟩ := get ho
  simpa using List.all_eq_true.1 h d hd
 ·intro j o ho
  obtain ⟨l, _, ⟨_, h⟩, _⟩ := get ho
  exact h
 ·intro i j oi oj li lj hij hoi hoj hli hlj
  obtain ⟨l, hl, _, h⟩ := get hoj
  rw [hlj] at hl
  cases hl
  have := h i hij
  have hoi' : ops.toList[i]? = some oi := by simpa using hoi
  rw [hoi', hli] at this
  simp only [Bool.or_eq_true, Bool.and_eq_true, Bool.not_eq_true'] at this
  rcases this with h | ⟨h, h'⟩
  ·exact .inl h
  ·refine .inr ⟨by simpa using h, ?_⟩
   rintro ⟨e1, e2, e3⟩
   rw [e1, e2, e3] at h'
   cases h'

/-- What has come is closed downwards. -/
def Closed (ops : Array Oper) (L : Nat → Bool) : Prop := ∀ j o, ops[j]? = some o → L j = true → ∀ d ∈ direct o, L d = true

theorem closed_bits {ops : Array Oper} {ls : List LOper} {ms : List Nat} (hf : DFacts ops ls ms) {L : Nat → Bool} (hc : Closed ops L) : ∀ (j : Nat) (o : Oper), ops[j]? = some o → ∀ i, (ms.getD j 0).testBit i = true → (∀ d ∈ direct o, L d = true) → L i = true := by
 intro j
 induction j using Nat.strongRecOn with
 | _ j ih =>
  intro o ho i hb hd
  rw [hf.mask j o ho] at hb
  unfold maskOf at hb
  rw [maskOf_bit] at hb
  rcases hb with hb | ⟨d, hdm, rfl | hb⟩
  ·simp at hb
  ·exact hd i hdm
  ·have hlt := hf.less j o ho d hdm
   have hds : d < ops.size := by
    have : j < ops.size := by
     rcases Nat.lt_or_ge j ops.size with q | q
     ·exact q
     ·simp [Array.getElem?_eq_none q] at ho
    omega
   have hod : ops[d]? = some ops[d] := by simp [hds]
   exact ih d hlt ops[d] hod i hb (hc d ops[d] hod (hd d hdm))

/-! ### What has come of a slot, and of the effects -/

/-- A slot behind the first 'k' operations, of those that have come. -/
def cur (ls : List LOper) (V : Nat → Value) (fr : Fr) (L : Nat → Bool) (t : Nat) : Nat → Option Value
 | 0 => fr.get t
 | k + 1 => match ls[k]? with
  | some l => if L k = true ∧ l.dst = some t then some (V k) else cur ls V fr L t k
  | none => cur ls V fr L t k

def cnt (ls : List LOper) (L : Nat → Bool) : Nat → Nat
 | 0 => 0
 | k + 1 => cnt ls L k + (if L k = true ∧ (ls[k]?).any isEff = true then 1 else 0)

theorem cnt_lt {ls : List LOper} {e k : Nat} (h : e < k) (he : (ls[e]?).any isEff = true) : cnt ls (fun _ => true) e + 1 ≤ cnt ls (fun _ => true) k := by
 induction k with
 | zero => omega
 | succ k ih =>
  simp only [cnt]
  by_cases e1 : e = k
  ·subst e1; rw [if_pos ⟨by trivial, he⟩]; omega
  ·have := ih (by omega); omega
theorem cnt_inj {ls : List LOper} {e k : Nat} (he : (ls[e]?).any isEff = true) (hk : (ls[k]?).any isEff = true) (h : cnt ls (fun _ => true) e = cnt ls (fun _ => true) k) : e = k := by
 rcases Nat.lt_trichotomy e k with q | q | q
 ·have := cnt_lt q he; omega
 ·exact q
 ·have := cnt_lt q hk; omega
theorem cnt_ex {ls : List LOper} {m : Nat} : ∀ {k : Nat}, m < cnt ls (fun _ => true) k → ∃ e, e < k ∧ (ls[e]?).any isEff = true ∧ cnt ls (fun _ => true) e = m
 | 0, h => by simp [cnt] at h
 | k + 1, h => by
  simp only [cnt] at h
  by_cases hc : True ∧ (ls[k]?).any isEff = true
  ·by_cases hm : m < cnt ls (fun _ => true) k
   ·obtain ⟨e, h1, h2⟩ := cnt_ex hm
    exact ⟨e, by omega, h2⟩
   ·rw [if_pos ⟨trivial, hc.2⟩] at h
    exact ⟨k, by omega, hc.2, by omega⟩
  ·rw [if_neg (fun x => hc ⟨trivial, x.2⟩)] at h
   obtain ⟨e, h1, h2⟩ := cnt_ex h
   exact ⟨e, by omega, h2⟩

/-- How many effects there are up to the last one of these, among the first 'k' operations. -/
def topc (ls : List LOper) (p : Nat → Bool) : Nat → Nat
 | 0 => 0
 | k + 1 => if p k = true ∧ (ls[k]?).any isEff = true then cnt ls (fun _ => true) k + 1 else topc ls p k
theorem topGo_eq {ls : List LOper} {p : Nat → Bool} : ∀ (r : List LOper) (i c b : Nat), (∀ j, r[j]? = ls[i + j]?) → i + r.length = ls.length → c = cnt ls (fun _ => true) i → b = topc ls p i → topGo p r i c b = topc ls p ls.length
 | [], i, c, b, _, h2, _, h4 => by simp only [List.length_nil, Nat.add_zero] at h2; rw [topGo, h4, h2]
 | l :: r, i, c, b, h1, h2, h3, h4 => by
  have hl : ls[i]? = some l := by rw [← Nat.add_zero i, ← h1 0]; rfl
  have h1' : ∀ j, r[j]? = ls[i + 1 + j]? := fun j => by rw [show i + 1 + j = i + (j + 1) by omega, ← h1 (j + 1)]; rfl
  have h2' : i + 1 + r.length = ls.length := by simp only [List.length_cons] at h2; omega
  rw [topGo]
  by_cases he : isEff l = true
  ·rw [if_pos he]
   refine topGo_eq r (i + 1) _ _ h1' h2' ?_ ?_
   ·simp only [cnt, hl, Option.any_some, he, and_self, if_true, h3]
   ·simp only [topc, hl, Option.any_some, he, and_true]
    by_cases hp : p i = true
    ·rw [if_pos hp, if_pos hp, h3]
    ·rw [if_neg hp, if_neg hp, h4]
  ·rw [if_neg he]
   refine topGo_eq r (i + 1) _ _ h1' h2' ?_ ?_
   ·simp only [cnt, hl, Option.any_some]
    rw [if_neg (fun x => he x.2), h3]; rfl
   ·simp only [topc, hl, Option.any_some]
    rw [if_neg (fun x => he x.2), h4]
theorem topIn_eq (ls : List LOper) (p : Nat → Bool) : topIn ls p = topc ls p ls.length :=
 topGo_eq ls 0 0 0 (fun j => by rw [Nat.zero_add]) (Nat.zero_add _) rfl rfl
theorem topc_ge {ls : List LOper} {p : Nat → Bool} {e : Nat} (hp : p e = true) (he : (ls[e]?).any isEff = true) : ∀ {k : Nat}, e < k → cnt ls (fun _ => true) e + 1 ≤ topc ls p k
 | 0, h => by omega
 | k + 1, h => by
  simp only [topc]
  by_cases e1 : e = k
  ·subst e1; rw [if_pos ⟨hp, he⟩]; omega
  ·have hk : e < k := by omega
   split
   ·have := cnt_lt hk he; omega
   ·exact topc_ge hp he hk
theorem topc_is {ls : List LOper} {p : Nat → Bool} : ∀ k : Nat, topc ls p k = 0 ∨ ∃ e, e < k ∧ p e = true ∧ (ls[e]?).any isEff = true ∧ topc ls p k = cnt ls (fun _ => true) e + 1
 | 0 => .inl rfl
 | k + 1 => by
  simp only [topc]
  split
  ·rename_i h; exact .inr ⟨k, by omega, h.1, h.2, rfl⟩
  ·rcases topc_is k with h | ⟨e, h1, h2⟩
   ·exact .inl h
   ·exact .inr ⟨e, by omega, h2⟩
theorem topc_all {ls : List LOper} {p : Nat → Bool} : ∀ k : Nat, (∀ j, j < k → p j = true) → topc ls p k = cnt ls (fun _ => true) k
 | 0, _ => rfl
 | k + 1, h => by
  simp only [topc, cnt]
  have := topc_all (ls := ls) (p := p) k fun j hj => h j (by omega)
  by_cases he : (ls[k]?).any isEff = true
  ·rw [if_pos ⟨h k (by omega), he⟩, if_pos ⟨trivial, he⟩]
  ·rw [if_neg (fun x => he x.2), if_neg (fun x => he x.2), this]; rfl
theorem topc_none {ls : List LOper} : ∀ k : Nat, topc ls (fun _ => false) k = 0
 | 0 => rfl
 | k + 1 => by simp only [topc]; rw [if_neg (fun x => by cases x.1)]; exact topc_none k

/-- One more has come. -/
def more (L : Nat → Bool) (i : Nat) : Nat → Bool := fun j => j == i || L j

theorem topc_more {ls : List LOper} {L : Nat → Bool} {i N : Nat} {l : LOper} (hi : i < N) (hl : ls[i]? = some l) : topc ls (more L i) N = if isEff l = true then max (topc ls L N) (cnt ls (fun _ => true) i + 1) else topc ls L N := by
 have up : topc ls L N ≤ topc ls (more L i) N := by
  rcases topc_is (ls := ls) (p := L) N with h | ⟨e, h1, h2, h3, h4⟩
  ·omega
  ·rw [h4]; exact topc_ge (by simp [more, h2]) h3 h1
 by_cases he : isEff l = true
 ·rw [if_pos he]
  have hi' : (ls[i]?).any isEff = true := by rw [hl]; exact he
  have h1 : cnt ls (fun _ => true) i + 1 ≤ topc ls (more L i) N := topc_ge (by simp [more]) hi' hi
  rcases topc_is (ls := ls) (p := more L i) N with h | ⟨e, h2, h3, h4, h5⟩
  ·omega
  ·by_cases e1 : e = i
   ·subst e1; omega
   ·have : L e = true := by simpa [more, e1] using h3
    have := topc_ge this h4 h2
    omega
 ·rw [if_neg he]
  rcases topc_is (ls := ls) (p := more L i) N with h | ⟨e, h2, h3, h4, h5⟩
  ·omega
  ·by_cases e1 : e = i
   ·subst e1; rw [hl] at h4; exact absurd h4 he
   ·have : L e = true := by simpa [more, e1] using h3
    have := topc_ge this h4 h2
    omega

/-- What the text's order tells, in one place. -/
structure Track where
 H : Nat → LHeap
 F : Nat → Fr
 C : Nat → Nat
 V : Nat → Value

structure TrOk (q : EqF) (call : CallF) (ls : List LOper) (ms : List Nat) (T : Track) : Prop where
 op : ∀ i e, (dBounds ls ms)[i]? = some e → OpTr q call T.H (T.C ls.length) e (T.F i) (T.F (i + 1)) (T.C i) (T.C (i + 1)) (T.V i)
 zero : T.C 0 = 0

theorem dBounds_get {ls : List LOper} {ms : List Nat} {i : Nat} {l : LOper} (hl : ls[i]? = some l) :
  (dBounds ls ms)[i]? = some (l, topIn ls (fun j => (ms.getD i 0).testBit j), topIn ls (fun j => !(ms.getD j 0).testBit i)) := by
 unfold dBounds
 rw [List.getElem?_map, List.getElem?_zipIdx, hl]
 simp

theorem dBounds_length {ls : List LOper} {ms : List Nat} : (dBounds ls ms).length = ls.length := by simp [dBounds]

theorem C_cnt {ls : List LOper} {ms : List Nat} {T : Track} (ht : TrOk q call ls ms T) : ∀ k, k ≤ ls.length → T.C k = cnt ls (fun _ => true) k
 | 0, _ => ht.zero
 | k + 1, hk => by
  have hl : ls[k]? = some (ls[k]'(by omega)) := by simp
  obtain ⟨b, _, _, hc, _⟩ := ht.op k _ (dBounds_get hl)
  rw [hc, C_cnt ht k (by omega)]
  simp only [cnt, hl, Option.any_some, true_and, isEff, beq_iff_eq]

theorem F_get {ls : List LOper} {ms : List Nat} {T : Track} (ht : TrOk q call ls ms T) (t : Nat) : ∀ k, k ≤ ls.length → (T.F k).get t = cur ls T.V (T.F 0) (fun _ => true) t k
 | 0, _ => rfl
 | k + 1, hk => by
  have hl : ls[k]? = some (ls[k]'(by omega)) := by simp
  obtain ⟨b, _, hF, _⟩ := ht.op k _ (dBounds_get hl)
  rw [hF, Fr.get_put, F_get ht t k (by omega)]
  simp only [cur, hl, true_and]

section
variable {ops : Array Oper} {ls : List LOper} {ms : List Nat} {T : Track}

/-- Operation 'i' may come now. -/
structure Ready (ops : Array Oper) (L : Nat → Bool) (i : Nat) (o : Oper) : Prop where
 op : ops[i]? = some o
 not : L i = false
 all : ∀ d ∈ direct o, L d = true

theorem ready_lt {L : Nat → Bool} {i : Nat} {o : Oper} (hr : Ready ops L i o) : i < ops.size := by
 rcases Nat.lt_or_ge i ops.size with q | q
 ·exact q
 ·have := hr.op; simp [Array.getElem?_eq_none q] at this

theorem opt_get {α : Type} {l : List α} {i : Nat} (h : i < l.length) : l[i]? = some l[i] := by simp
theorem arr_get {α : Type} {l : Array α} {i : Nat} (h : i < l.size) : l[i]? = some l[i] := by simp

/-- Whoever must come behind 'i' has not come. -/
theorem later_not (hf : DFacts ops ls ms) {L : Nat → Bool} (hc : Closed ops L) {i : Nat} {o : Oper} (hr : Ready ops L i o) {j : Nat} (hj : j < ops.size) (hb : (ms.getD j 0).testBit i = true) : L j = false := by
 cases e : L j with
 | false => rfl
 | true =>
  have := closed_bits hf hc j ops[j] (arr_get hj) i hb (hc j ops[j] (arr_get hj) e)
  rw [hr.not] at this; cases this

theorem cur_above (hf : DFacts ops ls ms) (hls : ∀ (j : Nat) (o : Oper) (l : LOper), ops[j]? = some o → ls[j]? = some l → l.dst = o.dst) {L : Nat → Bool} (hc : Closed ops L) {i : Nat} {o : Oper} (hr : Ready ops L i o) {t : Nat} (ht : t ∈ o.looksAt ops ∨ o.dst = some t) (fr : Fr) :
  ∀ k, i ≤ k → k ≤ ls.length → cur ls T.V fr L t k = cur ls T.V fr L t i := by
 intro k hik
 induction k with
 | zero =>
  intro _
  have : i = 0 := by omega
  subst this; rfl
 | succ k ih =>
  intro hk
  by_cases e : i = k + 1
  ·subst e; rfl
  ·rw [← ih (by omega) (by omega)]
   have hkl : k < ops.size := by have := hf.len; omega
   have hl := opt_get (l := ls) (i := k) (by omega)
   simp only [cur, hl]
   rw [if_neg]
   rintro ⟨h1, h2⟩
   by_cases e2 : k = i
   ·subst e2; rw [hr.not] at h1; cases h1
   ·have hil := ready_lt hr
    have hli := opt_get (l := ls) (i := i) (by have := hf.len; omega)
    rcases hf.pair i k o ops[k] _ _ (by omega) hr.op (arr_get hkl) hli hl with hb | ⟨ha, _⟩
    ·rw [later_not hf hc hr hkl hb] at h1; cases h1
    ·obtain ⟨a1, a2, a3⟩ := Oper.apart_spec ha
     have hd : (ops[k]).dst = some t := by rw [← hls k _ _ (arr_get hkl) hl]; exact h2
     rcases ht with ht | ht
     ·exact a3 t hd ht
     ·exact a2 t ht hd

theorem cur_below (hf : DFacts ops ls ms) (hls : ∀ (j : Nat) (o : Oper) (l : LOper), ops[j]? = some o → ls[j]? = some l → l.dst = o.dst) {L : Nat → Bool} (hc : Closed ops L) {i : Nat} {o : Oper} (hr : Ready ops L i o) {t : Nat} (ht : t ∈ o.looksAt ops) (fr : Fr) :
  ∀ k, k ≤ i → cur ls T.V fr L t k = cur ls T.V fr (fun _ => true) t k := by
 intro k
 induction k with
 | zero => intro _; rfl
 | succ k ih =>
  intro hk
  have hil := ready_lt hr
  have hkl : k < ops.size := by omega
  have hl := opt_get (l := ls) (i := k) (by have := hf.len; omega)
  have hli := opt_get (l := ls) (i := i) (by have := hf.len; omega)
  simp only [cur, hl, true_and]
  rw [ih (by omega)]
  by_cases e : (ls[k]'(by have := hf.len; omega)).dst = some t
  ·have hd : (ops[k]).dst = some t := by rw [← hls k _ _ (arr_get hkl) hl]; exact e
   rcases hf.pair k i ops[k] o _ _ (by omega) (arr_get hkl) hr.op hl hli with hb | ⟨ha, _⟩
   ·have := closed_bits hf hc i o hr.op k hb hr.all
    rw [if_pos ⟨this, e⟩, if_pos e]
   ·obtain ⟨a1, a2, a3⟩ := Oper.apart_spec ha
    exact absurd ht (a1 t hd)
  ·rw [if_neg (fun h => e h.2), if_neg e]

theorem cur_ready (hf : DFacts ops ls ms) (hls : ∀ (j : Nat) (o : Oper) (l : LOper), ops[j]? = some o → ls[j]? = some l → l.dst = o.dst) (htr : TrOk q call ls ms T) {L : Nat → Bool} (hc : Closed ops L) {i : Nat} {o : Oper} (hr : Ready ops L i o) {t : Nat} (ht : t ∈ o.looksAt ops) :
  (T.F i).get t = cur ls T.V (T.F 0) L t ls.length := by
 have hil := ready_lt hr
 rw [cur_above (T := T) hf hls hc hr (.inl ht) _ ls.length (by have := hf.len; omega) (Nat.le_refl _), cur_below (T := T) hf hls hc hr ht _ i (Nat.le_refl _)]
 exact F_get htr t i (by have := hf.len; omega)

theorem cur_more (hf : DFacts ops ls ms) (hls : ∀ (j : Nat) (o : Oper) (l : LOper), ops[j]? = some o → ls[j]? = some l → l.dst = o.dst) {L : Nat → Bool} (hc : Closed ops L) {i : Nat} {o : Oper} (hr : Ready ops L i o) (fr : Fr) (t : Nat) :
  cur ls T.V fr (more L i) t ls.length = if o.dst = some t then some (T.V i) else cur ls T.V fr L t ls.length := by
 have hil := ready_lt hr
 have hNl := hf.len
 have hli := opt_get (l := ls) (i := i) (by omega)
 have hdi := hls i o _ hr.op hli
 by_cases e : o.dst = some t
 ·rw [if_pos e]
  have key : ∀ k, i < k → k ≤ ls.length → cur ls T.V fr (more L i) t k = some (T.V i) := by
   intro k
   induction k with
   | zero => intro h; omega
   | succ k ih =>
    intro hik hk
    have hl := opt_get (l := ls) (i := k) (by omega)
    simp only [cur, hl]
    by_cases e2 : k = i
    ·subst e2
     rw [if_pos ⟨by simp [more], by rw [hdi]; exact e⟩]
    ·rw [if_neg, ih (by omega) (by omega)]
     rintro ⟨h1, h2⟩
     have hLk : L k = true := by simpa [more, e2] using h1
     have hkl : k < ops.size := by omega
     rcases hf.pair i k o ops[k] _ _ (by omega) hr.op (arr_get hkl) hli hl with hb | ⟨ha, _⟩
     ·rw [later_not hf hc hr hkl hb] at hLk; cases hLk
     ·obtain ⟨a1, a2, a3⟩ := Oper.apart_spec ha
      have hd : (ops[k]).dst = some t := by rw [← hls k _ _ (arr_get hkl) hl]; exact h2
      exact a2 t e hd
  exact key ls.length (by omega) (Nat.le_refl _)
 ·rw [if_neg e]
  have key : ∀ k, k ≤ ls.length → cur ls T.V fr (more L i) t k = cur ls T.V fr L t k := by
   intro k
   induction k with
   | zero => intro _; rfl
   | succ k ih =>
    intro hk
    have hl := opt_get (l := ls) (i := k) (by omega)
    simp only [cur, hl]
    rw [ih (by omega)]
    by_cases e2 : k = i
    ·subst e2
     rw [if_neg, if_neg]
     ·rintro ⟨_, h2⟩; rw [hdi] at h2; exact e h2
     ·rintro ⟨_, h2⟩; rw [hdi] at h2; exact e h2
    ·have : more L i k = L k := by simp [more, e2]
     rw [this]
  exact key ls.length (Nat.le_refl _)

theorem top_lo (hf : DFacts ops ls ms) {L : Nat → Bool} (hc : Closed ops L) {i : Nat} {o : Oper} (hr : Ready ops L i o) : topIn ls (fun j => (ms.getD i 0).testBit j) ≤ topc ls L ls.length := by
 rw [topIn_eq]
 rcases topc_is (ls := ls) (p := fun j => (ms.getD i 0).testBit j) ls.length with h | ⟨e, h1, h2, h3, h4⟩
 ·omega
 ·rw [h4]; exact topc_ge (closed_bits hf hc i o hr.op e h2 hr.all) h3 h1

theorem top_hi (hf : DFacts ops ls ms) {L : Nat → Bool} (hc : Closed ops L) {i : Nat} {o : Oper} (hr : Ready ops L i o) : topc ls L ls.length ≤ topIn ls (fun j => !(ms.getD j 0).testBit i) := by
 rw [topIn_eq]
 rcases topc_is (ls := ls) (p := L) ls.length with h | ⟨e, h1, h2, h3, h4⟩
 ·omega
 ·rw [h4]
  refine topc_ge ?_ h3 h1
  cases hb : (ms.getD e 0).testBit i with
  | false => rfl
  | true =>
   rw [later_not hf hc hr (by have := hf.len; omega) hb] at h2
   cases h2

theorem top_le (htr : TrOk q call ls ms T) (L : Nat → Bool) : topc ls L ls.length ≤ T.C ls.length := by
 rw [C_cnt htr _ (Nat.le_refl _)]
 rcases topc_is (ls := ls) (p := L) ls.length with h | ⟨e, h1, _, h3, h4⟩
 ·omega
 ·rw [h4]; exact cnt_lt h1 h3

end

end
end Go.E1

/-
 The engine is sound: what it evaluates, the loaded program does.
-/
namespace Go.E1
open Go

section
variable {P : Program} {q : EqF} {call : CallF} {n : Nat} {nt : List FuncId}

theorem cOpers_get {ops : Array Oper} : ∀ {os : List Oper} {ls : List LOper}, cOpers nt P n ops os = some ls → os.length = ls.length ∧ ∀ (j : Nat) (o : Oper) (l : LOper), os[j]? = some o → ls[j]? = some l → cOper nt P n ops o = some l
 | [], ls, h => by
  simp only [cOpers, Option.some.injEq] at h
  subst h
  exact ⟨rfl, fun j o l h => by simp at h⟩
 | o :: os, ls, h => by
  simp only [cOpers] at h
  split at h
  ·rename_i l lr hl hlr
   simp only [Option.some.injEq] at h
   subst h
   obtain ⟨h1, h2⟩ := cOpers_get hlr
   refine ⟨by simp [h1], ?_⟩
   intro j o' l' ho hl'
   cases j with
   | zero => simp at ho hl'; subst ho; subst hl'; exact hl
   | succ j => exact h2 j o' l' (by simpa using ho) (by simpa using hl')
  ·cases h

/-- Blocks that are there logically, and not yet made. -/
structure Late (ops : Array Oper) (ls : List LOper) (T : Track) (h₀ : LHeap) (ν : Inj) (m : Nat) (L : Nat → Bool) : Prop where
 one : ∀ j o l x, ops[j]? = some o → ls[j]? = some l → L j = false → isEff l = true → T.C j < m → T.H (T.C j + 1) = (T.H (T.C j)).push x →
  ν (T.H (T.C j)).size = none ∧ (T.H (T.C j)).size < (T.H m).size ∧ h₀.size ≤ (T.H (T.C j)).size ∧ ((T.H m).get (T.H (T.C j)).size = some x ∨ (T.H m).get (T.H (T.C j)).size = some .dead)
 inj : ∀ i j oi oj li lj x y, ops[i]? = some oi → ops[j]? = some oj → ls[i]? = some li → ls[j]? = some lj → L i = false → L j = false → isEff li = true → isEff lj = true → T.C i < m → T.C j < m →
  T.H (T.C i + 1) = (T.H (T.C i)).push x → T.H (T.C j + 1) = (T.H (T.C j)).push y → (T.H (T.C i)).size = (T.H (T.C j)).size → i = j

theorem Late.step {ops : Array Oper} {ls : List LOper} {T : Track} {h₀ : LHeap} {ν ν' : Inj} {m m' : Nat} {L L' : Nat → Bool} {w w' : World} (A : Late ops ls T h₀ ν m L) (s : Step ν (T.H m) w ν' (T.H m') w')
  (hL : ∀ j l, ls[j]? = some l → isEff l = true → L' j = false → T.C j < m' → L j = false ∧ T.C j < m) : Late ops ls T h₀ ν' m' L' where
 one := fun j o l x h1 h2 h3 h4 h5 h6 => by
  obtain ⟨k1, k2⟩ := hL j l h2 h4 h3 h5
  obtain ⟨a1, a2, a3, a4⟩ := A.one j o l x h1 h2 k1 h4 k2 h6
  obtain ⟨b1, b2⟩ := s.un _ a2 a1
  refine ⟨b1, Nat.lt_of_lt_of_le a2 s.lsize, a3, ?_⟩
  rcases b2 with b2 | b2
  ·rw [b2]; exact a4
  ·exact .inr b2
 inj := fun i j oi oj li lj x y h1 h2 h3 h4 h5 h6 h7 h8 h9 h10 => by
  obtain ⟨k1, k2⟩ := hL i li h3 h7 h5 h9
  obtain ⟨k3, k4⟩ := hL j lj h4 h8 h6 h10
  exact A.inj i j oi oj li lj x y h1 h2 h3 h4 k1 k3 h7 h8 k2 k4

theorem la_push {o : Oper} (hla : laOp o = true) {la : LAct} (hc : cAct nt P o.op = some la) {fr : Fr} {h h' : LHeap} {v : Value} (hx : lact q call la fr h = some (v, h')) : ∃ x, h' = h.push x := by
 have key : ∀ (lo : LOp LO), (∀ (lv : LOp Value) v h', lo.sub fr.rd = some lv → lexec q lv h = some (v, h') → ∃ x, h' = h.push x) → la = .op lo → ∃ x, h' = h.push x := by
  rintro lo hk rfl
  simp only [lact] at hx
  split at hx
  ·rename_i lv hs; exact hk lv v h' hs hx
  ·cases hx
 have bad : la = .op .bad → ∃ x, h' = h.push x := key .bad fun lv v h' hs hx => by
  simp only [LOp.sub, Option.some.injEq] at hs
  subst hs
  simp [lexec] at hx
 unfold laOp at hla
 cases ho : o.op with
 | alloc e =>
  rw [ho] at hc
  simp only [cAct, cOp] at hc
  cases hz : zeroOf P e with
  | none => rw [hz] at hc; exact bad (by simpa using hc.symm)
  | some z =>
   rw [hz] at hc
   refine key (.alloc z) (fun lv v h' hs hx => ?_) (by simpa using hc.symm)
   simp only [LOp.sub, Option.some.injEq] at hs
   subst hs
   simp only [lexec, Option.some.injEq, Prod.mk.injEq] at hx
   exact ⟨_, hx.2.symm⟩
 | box e x =>
  rw [ho] at hc
  simp only [cAct, cOp] at hc
  cases hz : cLO x with
  | none => rw [hz] at hc; exact bad (by simpa using hc.symm)
  | some z =>
   rw [hz] at hc
   refine key (.box z) (fun lv v h' hs hx => ?_) (by simpa using hc.symm)
   obtain ⟨y, _, rfl⟩ := rd1 hs
   simp only [lexec, Option.some.injEq, Prod.mk.injEq] at hx
   exact ⟨_, hx.2.symm⟩
 | buildSlice t n ps =>
  rw [ho] at hc
  simp only [cAct] at hc
  cases hz : cOp P (.buildSlice t n ps) with
  | none => rw [hz] at hc; exact bad (by simpa using hc.symm)
  | some lo =>
   rw [hz] at hc
   refine key lo (fun lv v h' hs hx => ?_) (by simpa using hc.symm)
   simp only [cOp] at hz
   split at hz
   ·split at hz
    ·split at hz
     ·obtain ⟨lp, _, rfl⟩ := map_some hz
      obtain ⟨lp2, _, rfl⟩ := map_some hs
      simp only [lexec] at hx
      split at hx
      ·obtain ⟨r, _, hx⟩ := map_some hx
       simp only [Prod.mk.injEq] at hx
       exact ⟨_, hx.2.symm⟩
      ·cases hx
     ·cases hz
    ·cases hz
   ·cases hz
 | makeSlice t n c =>
  rw [ho] at hc
  simp only [cAct] at hc
  cases hz : cOp P (.makeSlice t n c) with
  | none => rw [hz] at hc; exact bad (by simpa using hc.symm)
  | some lo =>
   rw [hz] at hc
   refine key lo (fun lv v h' hs hx => ?_) (by simpa using hc.symm)
   simp only [cOp] at hz
   split at hz
   ·split at hz
    ·split at hz
     ·cases hz
      obtain ⟨y1, y2, _, _, rfl⟩ := sub_makeSlice hs
      simp only [lexec] at hx
      split at hx
      ·split at hx
       ·simp only [Option.some.injEq, Prod.mk.injEq] at hx
        exact ⟨_, hx.2.symm⟩
       ·cases hx
      ·cases hx
     ·cases hz
    ·cases hz
   ·cases hz
 | makeMap t r =>
  cases r with
  | some r => rw [ho] at hla; cases hla
  | none =>
   rw [ho] at hc
   simp only [cAct, cOp] at hc
   refine key .makeMap (fun lv v h' hs hx => ?_) (by simpa using hc.symm)
   simp only [LOp.sub, Option.some.injEq] at hs
   subst hs
   simp only [lexec, Option.some.injEq, Prod.mk.injEq] at hx
   exact ⟨_, hx.2.symm⟩
 | _ => rw [ho] at hla; cases hla

theorem act_la {o : Oper} (hla : laOp o = true) {la : LAct} (hc : cAct nt P o.op = some la) {fr : Fr} {a : Act} {ν : Inj} {h h' : LHeap} {w : World} {v : Value} (hx : lact q call la fr h = some (v, h')) (hv : OpsR ν o.op fr.rd a.eval) : GoodA P o a.eval ν h w v h' := by
 have hcc : la = .op ((cOp P o.op).getD .bad) := by
  unfold laOp at hla
  cases ho : o.op <;> rw [ho] at hla hc <;> first | (simp only [cAct, Option.some.injEq] at hc; exact hc.symm) | cases hla
 subst hcc
 cases hz : cOp P o.op with
 | none => rw [hz] at hx; simp [lact, LOp.sub, lexec] at hx
 | some lo =>
  rw [hz] at hx
  simp only [Option.getD_some, lact] at hx
  split at hx
  ·rename_i lv hs
   exact cOp_la hla hz hs hx hv
  ·cases hx

/-- What holds on the way through a region that draws its order. -/
structure DInv (ops : Array Oper) (ls : List LOper) (n : Nat) (T : Track) (ν₀ : Inj) (h₀ : LHeap) (w₀ : World) (df : List Deferred) (listed : Array Bool) (a : Act) (w : World) : Prop where
 size : listed.size = ops.size
 closed : Closed ops (fun j => listed.getD j false)
 inv : ∃ ν, HR ν (T.H (topc ls (fun j => listed.getD j false) ls.length)) w ∧ Step ν₀ h₀ w₀ ν (T.H (topc ls (fun j => listed.getD j false) ls.length)) w ∧
  a.tmps.size = n ∧ (∀ t v, cur ls T.V (T.F 0) (fun j => listed.getD j false) t ls.length = some v → ∃ v', a.tmps[t]? = some v' ∧ VR ν v v') ∧
  Late ops ls T h₀ ν (topc ls (fun j => listed.getD j false) ls.length) (fun j => listed.getD j false)
 defers : a.defers = df

def unl (listed : Array Bool) : Nat := (listed.toList.filter (! ·)).length

theorem unl_set {listed : Array Bool} {i : Nat} (hi : listed[i]? = some false) : unl (listed.setIfInBounds i true) + 1 = unl listed := by
 unfold unl
 have key : ∀ (l : List Bool) (i : Nat), l[i]? = some false → ((l.set i true).filter (! ·)).length + 1 = (l.filter (! ·)).length := by
  intro l
  induction l with
  | nil => intro i h; simp at h
  | cons b l ih =>
   intro i h
   cases i with
   | zero => simp at h; subst h; simp
   | succ i =>
    have := ih i (by simpa using h)
    cases b <;> simp_all <;> omega
 have := key listed.toList i (by simpa using hi)
 simpa using this

theorem unl_zero {listed : Array Bool} (h : unl listed = 0) (j : Nat) (hj : j < listed.size) : listed.getD j false = true := by
 unfold unl at h
 have h' : listed.toList.filter (! ·) = [] := List.eq_nil_of_length_eq_zero h
 rw [List.filter_eq_nil_iff] at h'
 have := h' listed[j] (by simp)
 simp only [Bool.not_eq_true', Bool.not_eq_false] at this
 simp [hj, this]

theorem getD_set (listed : Array Bool) (i j : Nat) (hi : i < listed.size) : (listed.setIfInBounds i true).getD j false = more (fun j => listed.getD j false) i j := by
 simp only [more, Array.getD_eq_getD_getElem?, Array.getElem?_setIfInBounds]
 by_cases e : i = j
 ·subst e; simp [hi]
 ·have : ¬ j = i := fun h => e h.symm
  simp [e, this]

theorem ready_mem {ops : Array Oper} {listed : Array Bool} (hs : listed.size = ops.size) {i : Nat} : i ∈ Region.ready .any ops listed ↔ ∃ o, Ready ops (fun j => listed.getD j false) i o := by
 unfold Region.ready
 simp only [List.mem_filter, List.mem_range, Bool.and_eq_true, Bool.not_eq_true']
 constructor
 ·rintro ⟨hi, hn, ha⟩
  have ho : ops[i]? = some ops[i] := by simp [hi]
  refine ⟨ops[i], ho, ?_, ?_⟩
  ·have hi' : i < listed.size := hs ▸ hi
   simpa [Array.getD_eq_getD_getElem?, hi'] using hn
  ·intro d hd
   rw [ho] at ha
   simp only [Option.map_some, Option.getD_some, Array.all_eq_true_iff_forall_mem] at ha
   unfold direct at hd
   simp only [List.mem_map, List.mem_filter, Array.mem_toList_iff] at hd
   obtain ⟨e, ⟨he, hb⟩, rfl⟩ := hd
   have := ha e he
   simpa [hb] using this
 ·rintro ⟨o, hr⟩
  have hi := ready_lt hr
  have ho : ops[i]? = some o := hr.op
  refine ⟨hi, ?_, ?_⟩
  ·have hi' : i < listed.size := hs ▸ hi
   have := hr.not
   simpa [Array.getD_eq_getD_getElem?, hi'] using this
  ·rw [ho]
   simp only [Option.map_some, Option.getD_some, Array.all_eq_true_iff_forall_mem]
   intro e he
   cases hb : Region.binds .any e with
   | false => simp
   | true =>
    have := hr.all e.on (by unfold direct; simp only [List.mem_map, List.mem_filter, Array.mem_toList_iff]; exact ⟨e, ⟨he, hb⟩, rfl⟩)
    simpa using this

theorem some_ready {ops : Array Oper} {ls : List LOper} {ms : List Nat} (hf : DFacts ops ls ms) {listed : Array Bool} (hs : listed.size = ops.size) : ∀ (i : Nat), i < ops.size → listed.getD i false = false → ∃ j, j ∈ Region.ready .any ops listed := by
 intro i
 induction i using Nat.strongRecOn with
 | _ i ih =>
  intro hi hn
  by_cases hall : ∀ d ∈ direct ops[i], listed.getD d false = true
  ·exact ⟨i, (ready_mem hs).2 ⟨ops[i], by simp [hi], hn, hall⟩⟩
  ·simp only [Classical.not_forall] at hall
   obtain ⟨d, hd, hnd⟩ := hall
   have hlt := hf.less i ops[i] (by simp [hi]) d hd
   exact ih d hlt (by omega) (by simpa using hnd)

/-- Up to an effect that may come, there are logically blocks that are made later. -/
theorem advance {ops : Array Oper} {ls : List LOper} {ms : List Nat} {T : Track} {h₀ : LHeap} {ν : Inj} {w : World} {L : Nat → Bool} (hls : cOpers nt P n ops ops.toList = some ls) (hf : DFacts ops ls ms) (htr : TrOk q call ls ms T)
  (hc : Closed ops L) {i : Nat} {o : Oper} (hr : Ready ops L i o) {l : LOper} (hl : ls[i]? = some l) (he : isEff l = true) (h1 : HR ν (T.H (topc ls L ls.length)) w) (h2 : h₀.size ≤ (T.H (topc ls L ls.length)).size)
  (h3 : Late ops ls T h₀ ν (topc ls L ls.length) L) : ∀ d, topc ls L ls.length + d ≤ T.C i → HR ν (T.H (topc ls L ls.length + d)) w ∧ Step ν (T.H (topc ls L ls.length)) w ν (T.H (topc ls L ls.length + d)) w ∧ Late ops ls T h₀ ν (topc ls L ls.length + d) L
 | 0, _ => ⟨h1, Step.refl _ _ _, h3⟩
 | d + 1, hd => by
  obtain ⟨g1, g2, g3⟩ := advance hls hf htr hc hr hl he h1 h2 h3 d (by omega)
  generalize hk : topc ls L ls.length = k at *
  have hil := ready_lt hr
  have hNl := hf.len
  rw [C_cnt htr i (by omega)] at hd
  obtain ⟨e, q1, q2, q3⟩ := cnt_ex (ls := ls) (m := k + d) (k := i) (by omega)
  have hCe : T.C e = k + d := by rw [C_cnt htr e (by omega), q3]
  have hLe : L e = false := by
   cases hx : L e with
   | false => rfl
   | true => have := topc_ge (ls := ls) hx q2 (k := ls.length) (by omega); omega
  have hle := opt_get (l := ls) (i := e) (by omega)
  have hoe : ops[e]? = some ops[e] := arr_get (by omega)
  rw [hle] at q2
  have hlae : laOp ops[e] = true := by
   rcases hf.pair e i _ o _ l q1 hoe hr.op hle hl with hb | ⟨_, hn⟩
   ·rw [closed_bits hf hc i o hr.op e hb hr.all] at hLe; cases hLe
   ·cases hx : laOp ops[e] with
    | true => rfl
    | false => exact absurd ⟨q2, he, hx⟩ hn
  obtain ⟨hact, _⟩ := cOper_spec ((cOpers_get hls).2 e ops[e] _ (by simp) hle)
  obtain ⟨b, _, _, _, hfalse, htrue⟩ := htr.op e _ (dBounds_get hle)
  have hcl : (ls[e]'(by omega)).act.cls = .effect := by simpa [isEff] using q2
  have same : ∀ j l', ls[j]? = some l' → isEff l' = true → T.C j = k + d → j = e := fun j l' hj hej hCj => by
   have hjl : j < ls.length := by
    rcases Nat.lt_or_ge j ls.length with z | z
    ·exact z
    ·rw [List.getElem?_eq_none z] at hj; cases hj
   refine cnt_inj (ls := ls) (by rw [hj]; exact hej) (by rw [hle]; exact q2) ?_
   rw [← C_cnt htr j (by omega), hCj, q3]
  rw [show k + (d + 1) = (k + d) + 1 by omega]
  cases b with
  | false =>
   have hH := (hfalse rfl).2 hcl
   rw [hCe] at hH
   rw [hH]
   refine ⟨g1, g2, ⟨fun j oj lj x a1 a2 a3 a4 a5 a6 => ?_, fun i' j oi oj li lj x y a1 a2 a3 a4 a5 a6 a7 a8 a9 a10 a11 a12 a13 => ?_⟩⟩
   ·by_cases hj : T.C j = k + d
    ·rw [hj] at a6
     rw [hH] at a6
     exact absurd (congrArg LHeap.size a6) (by simp)
    ·rw [hH]; exact g3.one j oj lj x a1 a2 a3 a4 (by omega) a6
   ·by_cases hi' : T.C i' = k + d
    ·rw [hi', hH] at a11
     exact absurd (congrArg LHeap.size a11) (by simp)
    ·by_cases hj : T.C j = k + d
     ·rw [hj, hH] at a12
      exact absurd (congrArg LHeap.size a12) (by simp)
     ·exact g3.inj i' j oi oj li lj x y a1 a2 a3 a4 a5 a6 a7 a8 (by omega) (by omega) a11 a12 a13
  | true =>
   have hx := (htrue rfl).2.2 hcl
   obtain ⟨x0, hH⟩ := la_push hlae hact hx
   rw [hCe] at hH
   obtain ⟨p1, p2⟩ := g1.pushU x0
   have fresh : ν (T.H (k + d)).size = none := g1.fresh
   have hsz : h₀.size ≤ (T.H (k + d)).size := Nat.le_trans h2 g2.lsize
   rw [hH]
   refine ⟨p1, g2.trans p2, ⟨fun j oj lj x a1 a2 a3 a4 a5 a6 => ?_, fun i' j oi oj li lj x y a1 a2 a3 a4 a5 a6 a7 a8 a9 a10 a11 a12 a13 => ?_⟩⟩
   ·rw [hH]
    by_cases hj : T.C j = k + d
    ·rw [hj, hH] at a6
     rw [hj]
     have hxx : x0 = x := by
      have := congrArg (fun h : LHeap => h.get (T.H (k + d)).size) a6
      simpa using this
     subst hxx
     exact ⟨fresh, by simp, hsz, .inl (by simp)⟩
    ·obtain ⟨b1, b2, b3, b4⟩ := g3.one j oj lj x a1 a2 a3 a4 (by omega) a6
     refine ⟨b1, by simp; omega, b3, ?_⟩
     simp only [LHeap.get_push, Nat.ne_of_lt b2, if_false]
     exact b4
   ·by_cases hi' : T.C i' = k + d
    ·by_cases hj : T.C j = k + d
     ·rw [same i' li a3 a7 hi', same j lj a4 a8 hj]
     ·obtain ⟨b1, b2, b3, b4⟩ := g3.one j oj lj y a2 a4 a6 a8 (by omega) a12
      rw [hi'] at a13; omega
    ·by_cases hj : T.C j = k + d
     ·obtain ⟨b1, b2, b3, b4⟩ := g3.one i' oi li x a1 a3 a5 a7 (by omega) a11
      rw [hj] at a13; omega
     ·exact g3.inj i' j oi oj li lj x y a1 a2 a3 a4 a5 a6 a7 a8 (by omega) (by omega) a11 a12 a13

theorem drawn_any (hq : QOk P q) (hcall : CallOk P call) {ops : Array Oper} {ls : List LOper} {ms : List Nat} {T : Track} {Q : Exit → Act → World → Prop} {ν₀ : Inj} {h₀ : LHeap} {w₀ : World} {df : List Deferred}
  (hls : cOpers nt P n ops ops.toList = some ls) (hf : DFacts ops ls ms) (htr : TrOk q call ls ms T)
  (hQ : ∀ ν a w, HR ν (T.H (T.C ls.length)) w → Step ν₀ h₀ w₀ ν (T.H (T.C ls.length)) w → FR ν n (T.F ls.length) a.tmps → a.defers = df → Q .normal a w) :
  ∀ (fuel : Nat) (listed : Array Bool) (a : Act) (w : World), unl listed = fuel → DInv ops ls n T ν₀ h₀ w₀ df listed a w → wpAny P .any ops Q fuel listed a w := by
 obtain ⟨hlen, hget⟩ := cOpers_get hls
 have hdst : ∀ (j : Nat) (o : Oper) (l : LOper), ops[j]? = some o → ls[j]? = some l → l.dst = o.dst := fun j o l ho hl => (cOper_spec (hget j o l (by simpa using ho) hl)).2.1
 have done : ∀ (listed : Array Bool) (a : Act) (w : World), DInv ops ls n T ν₀ h₀ w₀ df listed a w → (∀ j, j < ops.size → listed.getD j false = true) → Q .normal a w := by
  intro listed a w hi hall
  obtain ⟨ν, h1, h2, h3, h4, _⟩ := hi.inv
  have hNl := hf.len
  have hc : topc ls (fun j => listed.getD j false) ls.length = T.C ls.length := by
   rw [C_cnt htr _ (Nat.le_refl _)]
   exact topc_all _ fun j hj => hall j (by omega)
  rw [hc] at h1 h2
  refine hQ ν a w h1 h2 ⟨h3, ?_⟩ hi.defers
  intro t v ht
  refine h4 t v ?_
  rw [F_get htr t _ (Nat.le_refl _)] at ht
  have : ∀ k, k ≤ ls.length → cur ls T.V (T.F 0) (fun j => listed.getD j false) t k = cur ls T.V (T.F 0) (fun _ => true) t k := by
   intro k
   induction k with
   | zero => intro _; rfl
   | succ k ih =>
    intro hk
    simp only [cur]
    rw [ih (by omega)]
    have hk' := hall k (by omega)
    simp [hk']
  rw [this _ (Nat.le_refl _)]
  exact ht
 have stuck : ∀ (listed : Array Bool), listed.size = ops.size → Region.ready .any ops listed = [] → ∀ j, j < ops.size → listed.getD j false = true := by
  intro listed hs he j hj
  cases e : listed.getD j false with
  | true => rfl
  | false =>
   obtain ⟨k, hk⟩ := some_ready hf hs j hj e
   rw [he] at hk
   cases hk
 intro fuel
 induction fuel with
 | zero =>
  intro listed a w hu hi
  have hall : ∀ j, j < ops.size → listed.getD j false = true := fun j hj => unl_zero hu j (hi.size ▸ hj)
  refine ⟨?_, done listed a w hi hall⟩
  cases hr : Region.ready .any ops listed with
  | nil => rfl
  | cons i r =>
   obtain ⟨o, hrd⟩ := (ready_mem hi.size).1 (show i ∈ Region.ready .any ops listed by rw [hr]; simp)
   have := hall i (ready_lt hrd)
   have hn : listed.getD i false = false := hrd.not
   rw [this] at hn; cases hn
 | succ fuel ih =>
  intro listed a w hu hi
  refine ⟨fun he => done listed a w hi (stuck listed hi.size he), ?_⟩
  intro i him
  obtain ⟨o, hrd⟩ := (ready_mem hi.size).1 him
  have hil := ready_lt hrd
  have hNl := hf.len
  have hl := opt_get (l := ls) (i := i) (by omega)
  have hco := hget i o _ (by simpa using hrd.op) hl
  obtain ⟨hact, hld, hdn, hguard⟩ := cOper_spec hco
  obtain ⟨ν, k1, k2, k3, k4, k5⟩ := hi.inv
  obtain ⟨b, hw, hF, hC, hfalse, htrue⟩ := htr.op i _ (dBounds_get hl)
  have hcur : ∀ t, t ∈ o.looksAt ops → ∀ v, (T.F i).get t = some v → ∃ v', a.tmps[t]? = some v' ∧ VR ν v v' := fun t ht v hv => k4 t v (by rw [← cur_ready hf hdst htr hi.closed hrd ht]; exact hv)
  have hops : OpsR ν o.op (T.F i).rd a.eval := by
   intro x hx lx v hlx hv
   cases x with
   | tmp t =>
    simp only [cLO, Option.some.injEq] at hlx
    subst hlx
    obtain ⟨v', h1, h2⟩ := hcur t (by
     unfold Oper.looksAt
     refine List.mem_append_left _ ?_
     rw [List.mem_filterMap]
     exact ⟨.tmp t, by simpa using hx, rfl⟩) v hv
    simpa [Act.eval, h1] using h2
   | const c =>
    simp only [cLO] at hlx
    split at hlx
    ·rename_i hc
     cases hlx
     simp only [Fr.rd, Option.some.injEq] at hv
     subst hv
     exact constOk_VR hc ν
    ·cases hlx
   | func f =>
    simp only [cLO, Option.some.injEq] at hlx
    subst hlx
    simp only [Fr.rd, Option.some.injEq] at hv
    subst hv
    exact .func rfl (fun i v v' h => by simp at h)
   | global g =>
    simp only [cLO] at hlx
    split at hlx
    ·cases hlx
     simp only [Fr.rd, Option.some.injEq] at hv
     subst hv
     exact .glob
    ·cases hlx
  have hwant : Region.wanted o (yielded ops a.tmps) = b := wanted_spec hco hw (fun j want t h1 h2 v hv => by
   obtain ⟨v', p, q⟩ := hcur t (by
    unfold Oper.looksAt
    refine List.mem_append_right _ ?_
    rw [h1]
    simp only [h2]
    simp) v hv
   exact ⟨v', ν, p, q⟩)
  have hlf : listed[i]? = some false := by
   have hn := hrd.not
   have hi' : i < listed.size := hi.size ▸ hil
   simp only [Array.getD_eq_getD_getElem?] at hn
   rw [arr_get hi'] at hn ⊢
   simpa using hn
  have hmore : (fun j => (listed.setIfInBounds i true).getD j false) = more (fun j => listed.getD j false) i := by
   funext j
   exact getD_set listed i j (hi.size ▸ hil)
  have hclosed : Closed ops (more (fun j => listed.getD j false) i) := by
   intro j oj hoj hm d hd
   simp only [more, Bool.or_eq_true, beq_iff_eq] at hm ⊢
   rcases hm with rfl | hm
   ·rw [hrd.op] at hoj
    cases hoj
    exact .inr (hrd.all d hd)
   ·exact .inr (hi.closed j oj hoj hm d hd)
  have htop := topc_more (ls := ls) (L := fun j => listed.getD j false) (i := i) (N := ls.length) (by omega) hl
  have next : ∀ (ν' : Inj) (v' : Value) (w' : World), VR ν' (T.V i) v' → HR ν' (T.H (topc ls (more (fun j => listed.getD j false) i) ls.length)) w' →
    Step ν₀ h₀ w₀ ν' (T.H (topc ls (more (fun j => listed.getD j false) i) ls.length)) w' → ν.le ν' → Late ops ls T h₀ ν' (topc ls (more (fun j => listed.getD j false) i) ls.length) (more (fun j => listed.getD j false) i) →
    wpAny P .any ops Q fuel (listed.setIfInBounds i true) (a.put o.dst v') w' := by
   intro ν' v' w' hv' hr' hs' hle' hlate'
   refine ih _ _ _ (by have := unl_set hlf; omega) ⟨by simpa using hi.size, by rw [hmore]; exact hclosed, ⟨ν', ?_, ?_, ?_, ?_, ?_⟩, ?_⟩
   ·rw [hmore]; exact hr'
   ·rw [hmore]; exact hs'
   ·cases o.dst <;> simp [Act.put, k3]
   ·intro t v ht
    rw [hmore, cur_more hf hdst hi.closed hrd] at ht
    by_cases e : o.dst = some t
    ·rw [if_pos e] at ht
     cases ht
     refine ⟨v', ?_, hv'⟩
     rw [e]
     simp [Act.put, k3, hdn t e]
    ·rw [if_neg e] at ht
     obtain ⟨u, h1, h2⟩ := k4 t v ht
     refine ⟨u, ?_, h2.mono hle'⟩
     cases hd : o.dst with
     | none => simpa [Act.put, hd] using h1
     | some d =>
      have : ¬ d = t := fun he => e (by rw [hd, he])
      simp [Act.put, this, h1]
   ·rw [hmore]; exact hlate'
   ·have := hi.defers
    cases o.dst <;> simpa [Act.put] using this
  have unlist : ∀ j, more (fun j => listed.getD j false) i j = false → j ≠ i ∧ listed.getD j false = false := fun j hj => by
   simp only [more, Bool.or_eq_false_iff, beq_eq_false_iff_ne] at hj
   exact hj
  have hCi := C_cnt htr i (by omega)
  rw [← hCi] at htop
  have sameC : ∀ j l', ls[j]? = some l' → isEff l' = true → isEff (ls[i]'(by omega)) = true → T.C j = T.C i → j = i := fun j l' hj hej hei hCj => by
   have hjl : j < ls.length := by
    rcases Nat.lt_or_ge j ls.length with z | z
    ·exact z
    ·rw [List.getElem?_eq_none z] at hj; cases hj
   refine cnt_inj (ls := ls) (by rw [hj]; exact hej) (by rw [hl]; exact hei) ?_
   rw [← C_cnt htr j (by omega), hCj, hCi]
  unfold wpOp
  simp only [hrd.op]
  rw [hwant]
  by_cases hei : isEff (ls[i]'(by omega)) = true
  ·have hcl : (ls[i]'(by omega)).act.cls = .effect := by simpa [isEff] using hei
   rw [if_pos hei] at htop
   by_cases hk : topc ls (fun j => listed.getD j false) ls.length ≤ T.C i
   ·-- it is the next one, but for blocks that are made later
    obtain ⟨A1, A2, A3⟩ := advance (n := n) hls hf htr hi.closed hrd hl hei k1 k2.lsize k5 (T.C i - topc ls (fun j => listed.getD j false) ls.length) (by omega)
    rw [show topc ls (fun j => listed.getD j false) ls.length + (T.C i - topc ls (fun j => listed.getD j false) ls.length) = T.C i by omega] at A1 A2 A3
    rw [Nat.max_eq_right (by omega)] at htop
    have fewer : ∀ j l', ls[j]? = some l' → isEff l' = true → more (fun j => listed.getD j false) i j = false → T.C j < T.C i + 1 → listed.getD j false = false ∧ T.C j < T.C i := fun j l' hj hej hu hlt => by
     obtain ⟨u1, u2⟩ := unlist j hu
     refine ⟨u2, ?_⟩
     rcases Nat.lt_or_ge (T.C j) (T.C i) with z | z
     ·exact z
     ·exact absurd (sameC j l' hj hej hei (by omega)) u1
    cases b with
    | false =>
     simp only [Bool.false_eq_true, if_false]
     obtain ⟨hV, hH⟩ := hfalse rfl
     have hH := hH hcl
     refine next ν undef w ?_ ?_ ?_ (Inj.le_refl ν) ?_
     ·rw [hV]; exact VRs.tuple (.nil ν)
     ·rw [htop, hH]; exact A1
     ·rw [htop, hH]; exact k2.trans A2
     ·rw [htop]
      exact A3.step (w := w) (w' := w) (by rw [hH]; exact Step.refl _ _ _) fewer
    | true =>
     simp only [if_true]
     refine .inl (act_wp hq hcall hact ((htrue rfl).2.2 hcl) A1 hops fun ν' v' w' hv' hr' hs' => ?_)
     refine next ν' v' w' hv' (by rw [htop]; exact hr') (by rw [htop]; exact (k2.trans A2).trans hs') hs'.le ?_
     rw [htop]
     exact A3.step hs' fewer
   ·-- it makes a block that is there logically
    rw [Nat.max_eq_left (by omega)] at htop
    have hla : laOp o = true := by
     rcases topc_is (ls := ls) (p := fun j => listed.getD j false) ls.length with z | ⟨e, e1, e2, e3, e4⟩
     ·omega
     ·have hle := opt_get (l := ls) (i := e) e1
      have hoe : ops[e]? = some ops[e] := arr_get (by omega)
      have hie : i < e := by
       rcases Nat.lt_trichotomy i e with z | z | z
       ·exact z
       ·subst z; have := hrd.not; rw [e2] at this; cases this
       ·have := cnt_lt (ls := ls) z e3; omega
      rw [hle] at e3
      rcases hf.pair i e o _ _ _ hie hrd.op hoe hl hle with hb | ⟨_, hn⟩
      ·have := later_not hf hi.closed hrd (by omega) hb
       rw [this] at e2; cases e2
      ·cases hx : laOp o with
       | true => rfl
       | false => exact absurd ⟨hei, e3, hx⟩ hn
    have fewer : ∀ j l', ls[j]? = some l' → isEff l' = true → more (fun j => listed.getD j false) i j = false → T.C j < topc ls (fun j => listed.getD j false) ls.length → listed.getD j false = false ∧ T.C j < topc ls (fun j => listed.getD j false) ls.length :=
     fun j l' _ _ hu hlt => ⟨(unlist j hu).2, hlt⟩
    cases b with
    | false =>
     simp only [Bool.false_eq_true, if_false]
     obtain ⟨hV, _⟩ := hfalse rfl
     refine next ν undef w ?_ ?_ ?_ (Inj.le_refl ν) ?_
     ·rw [hV]; exact VRs.tuple (.nil ν)
     ·rw [htop]; exact k1
     ·rw [htop]; exact k2
     ·rw [htop]; exact k5.step (w := w) (w' := w) (Step.refl _ _ _) fewer
    | true =>
     simp only [if_true]
     obtain ⟨lob, rob, fin, mk, v', g1, g2, g3, g4, g6⟩ := act_la (w := w) hla hact ((htrue rfl).2.2 hcl) hops
     obtain ⟨c1, c2, c3, c4⟩ := k5.one i o _ _ hrd.op hl hrd.not hei (by omega) g3
     have hA := k1.adopt c1 c2 g4 c4
     have hle' := Inj.le_put (pl := ⟨w.heap.size, 0, fin⟩) c1
     refine .inl ?_
     unfold Oper.wp
     rw [g1]
     refine next _ v' _ (by rw [g2]; exact g6 _ _ (Inj.put_same _ _ _)) (by rw [htop]; exact hA) (by rw [htop]; exact k2.adopt c1 c3 _ _) hle' ?_
     rw [htop]
     refine ⟨fun j oj lj x a1 a2 a3 a4 a5 a6 => ?_, fun i' j oi oj li lj x y a1 a2 a3 a4 a5 a6 a7 a8 a9 a10 => ?_⟩
     ·obtain ⟨u1, u2⟩ := unlist j a3
      obtain ⟨b1, b2, b3, b4⟩ := k5.one j oj lj x a1 a2 u2 a4 a5 a6
      refine ⟨?_, b2, b3, b4⟩
      have hne : (T.H (T.C j)).size ≠ (T.H (T.C i)).size := fun hz => u1 (k5.inj j i oj o lj _ _ _ a1 hrd.op a2 hl u2 hrd.not a4 hei a5 (by omega) a6 g3 hz)
      simp [Inj.put, hne, b1]
     ·exact k5.inj i' j oi oj li lj x y a1 a2 a3 a4 (unlist i' a5).2 (unlist j a6).2 a7 a8 a9 a10
  ·rw [if_neg hei] at htop
   have fewer : ∀ j l', ls[j]? = some l' → isEff l' = true → more (fun j => listed.getD j false) i j = false → T.C j < topc ls (fun j => listed.getD j false) ls.length → listed.getD j false = false ∧ T.C j < topc ls (fun j => listed.getD j false) ls.length :=
    fun j l' _ _ hu hlt => ⟨(unlist j hu).2, hlt⟩
   cases b with
   | false =>
    simp only [Bool.false_eq_true, if_false]
    obtain ⟨hV, _⟩ := hfalse rfl
    refine next ν undef w ?_ ?_ ?_ (Inj.le_refl ν) ?_
    ·rw [hV]; exact VRs.tuple (.nil ν)
    ·rw [htop]; exact k1
    ·rw [htop]; exact k2
    ·rw [htop]; exact k5.step (w := w) (w' := w) (Step.refl _ _ _) fewer
   | true =>
    simp only [if_true]
    obtain ⟨hpure, hread, _⟩ := htrue rfl
    have hlact : lact q call (ls[i]'(by omega)).act (T.F i) (T.H (topc ls (fun j => listed.getD j false) ls.length)) = some (T.V i, T.H (topc ls (fun j => listed.getD j false) ls.length)) := by
     cases hcl : (ls[i]'(by omega)).act.cls with
     | pure => exact hpure hcl _
     | reader => exact hread hcl _ (top_lo hf hi.closed hrd) (top_hi hf hi.closed hrd) (top_le htr _)
     | effect => exact absurd (by simp [isEff, hcl]) hei
    refine .inl (act_wp hq hcall hact hlact k1 hops fun ν' v' w' hv' hr' hs' => ?_)
    refine next ν' v' w' hv' (by rw [htop]; exact hr') (by rw [htop]; exact k2.trans hs') hs'.le ?_
    rw [htop]
    exact k5.step hs' fewer

/-! ### All code -/

def LEx.real : LEx → Exit
 | .normal => .normal
 | .exit id => .exit id
 | .ret => .ret

/-- What is known behind a piece of code. -/
def Post (n : Nat) (ν : Inj) (h : LHeap) (w : World) (df : List Deferred) (ex : LEx) (fr' : Fr) (h' : LHeap) : Exit → Act → World → Prop :=
 fun e a' w' => e = ex.real ∧ a'.defers = df ∧ ∃ ν', FR ν' n fr' a'.tmps ∧ HR ν' h' w' ∧ Step ν h w ν' h' w'

theorem region_wp (hq : QOk P q) (hcall : CallOk P call) {id : Nat} {ops : Array Oper} {l : List LOper} {k : List Nat} (hl : cOpers nt P n ops ops.toList = some l) {fr fr' : Fr} {h h' : LHeap} {ν : Inj} {a : Act} {w : World}
  (hx : lops q call l fr h = some (fr', h')) (hr : HR ν h w) (hf : FR ν n fr a.tmps) : (Code.region id ops false).wp P (Post n ν h w a.defers .normal (fr'.keep k) h') a w := by
 refine wp_region ?_
 have := lops_wp hq hcall (ops := ops) (Q := Post n ν h w a.defers .normal (fr'.keep k) h') ops.toList l 0 fr fr' h h' ν a w (fun j => by simp) hl hx hr hf
  (fun ν' a' w' f d r s => ⟨rfl, d, ν', f.keep k, r, s⟩)
 simpa [List.range_eq_range'] using this

theorem dregion_any (hq : QOk P q) (hcall : CallOk P call) {ops : Array Oper} {l : List LOper} {k : List Nat} (hl : cOpers nt P n ops ops.toList = some l) (hd : dOk ops.toList l (masks ops.toList []) = true) {fr fr' : Fr} {h h' : LHeap} {ν : Inj} {a : Act} {w : World}
  (hx : ldops q call (dBounds l (masks ops.toList [])) fr h [] [] = some (fr', h')) (hr : HR ν h w) (hf : FR ν n fr a.tmps) : wpAny P .any ops (Post n ν h w a.defers .normal (fr'.keep k) h') ops.size (Array.replicate ops.size false) a { w with drawn := w.drawn + 1 } := by
 obtain ⟨H, F, C, V, _, a2, a3, a4, a5, a6, _, _, a9⟩ := ldops_trace _ _ _ _ _ _ _ hx (by simp) (by simp)
 rw [dBounds_length] at a5 a6 a9
 have hfacts := dOk_facts hd
 have htr : TrOk q call l (masks ops.toList []) ⟨H, F, C, V⟩ := ⟨a9, a4⟩
 have hrd : HR ν h { w with drawn := w.drawn + 1 } := hr.drew _
 refine drawn_any hq hcall (T := ⟨H, F, C, V⟩) (ν₀ := ν) (h₀ := h) (w₀ := { w with drawn := w.drawn + 1 }) (df := a.defers) hl hfacts htr ?_ ops.size _ a _ (by simp [unl]) ⟨by simp, ?_, ⟨ν, ?_, ?_, hf.size, ?_, ?_⟩, rfl⟩
 ·intro ν' a' w' hr' hs' hf' hdf
  simp only [a5, a6] at hr' hs' hf'
  exact ⟨rfl, hdf, ν', hf'.keep k, hr', (Step.drew _).trans hs'⟩
 ·intro j o _ hj
  simp [Array.getD_eq_getD_getElem?] at hj
  have := Array.getElem?_replicate (n := ops.size) (v := false) (i := j)
  rw [this] at hj
  split at hj <;> simp at hj
 all_goals
  have hrep : ∀ j, (Array.replicate ops.size false).getD j false = false := fun j => by
   rw [Array.getD_eq_getD_getElem?, Array.getElem?_replicate]
   split <;> rfl
  have hfun : (fun j => (Array.replicate ops.size false).getD j false) = fun _ => false := funext hrep
  have h0 := topc_none (ls := l)
  have c0 : ∀ t k, cur l V (F 0) (fun _ => false) t k = (F 0).get t := by
   intro t k
   induction k with
   | zero => rfl
   | succ k ih =>
    simp only [cur, ih, Bool.false_eq_true, false_and, if_false]
    split <;> rfl
  simp only [List.length_nil] at a2
 ·rw [hfun, h0]
  show HR ν (H 0) _
  rw [a2]; exact hrd
 ·rw [hfun, h0]
  show Step ν h _ ν (H 0) _
  rw [a2]; exact Step.refl _ _ _
 ·intro t v ht
  rw [hfun] at ht
  have h1 := c0 t l.length
  change cur l V (F 0) (fun _ => false) t l.length = some v at ht
  rw [h1, a3] at ht
  exact hf.get t v ht
 ·rw [hfun, h0]
  exact ⟨fun j o l x _ _ _ _ h => absurd h (Nat.not_lt_zero _), fun i j oi oj li lj x y _ _ _ _ _ _ _ _ h => absurd h (Nat.not_lt_zero _)⟩


/-! ### In another order -/
theorem permOk_spec {π : List Nat} {m : Nat} (h : permOk π m = true) : π.length = m ∧ (∀ i, i < m → π.idxOf i < m ∧ π[π.idxOf i]? = some i) ∧ ∀ k, k < m → ∃ i, i < m ∧ π[k]? = some i ∧ π.idxOf i = k := by
 unfold permOk at h
 simp only [Bool.and_eq_true, beq_iff_eq, List.all_eq_true, List.mem_range, decide_eq_true_eq] at h
 obtain ⟨h1, h2, h3⟩ := h
 refine ⟨h1, fun i hi => h2 i hi, fun k hk => ?_⟩
 have := h3 k hk
 split at this
 ·rename_i i hi
  simp only [Bool.and_eq_true, decide_eq_true_eq, beq_iff_eq] at this
  exact ⟨i, this.1, hi, this.2⟩
 ·cases this

section
variable {π : List Nat} {ops : Array Oper} {md : Region.Mode} {Q : Exit → Act → World → Prop}

theorem permOps_size : (permOps π ops).size = π.length := by simp [permOps]
theorem permOps_at (hp : permOk π ops.size = true) {i : Nat} (hi : i < ops.size) : (permOps π ops)[π.idxOf i]? = (ops[i]?).map (renum π) := by
 have := (permOk_spec hp).2.1 i hi
 simp only [permOps, List.getElem?_toArray, List.getElem?_map, this.2, Option.map_some, Array.getD_eq_getD_getElem?]
 rw [arr_get hi]; rfl
theorem idxOf_out (hp : permOk π ops.size = true) {i : Nat} (hi : ¬ i < ops.size) : π.idxOf i = ops.size := by
 obtain ⟨h1, _, h3⟩ := permOk_spec hp
 rw [← h1]
 refine List.idxOf_eq_length ?_
 intro hm
 obtain ⟨k, hk⟩ := List.getElem?_of_mem hm
 have hkl : k < ops.size := by
  rcases Nat.lt_or_ge k π.length with z | z
  ·omega
  ·rw [List.getElem?_eq_none z] at hk; cases hk
 obtain ⟨j, hj, hj2, _⟩ := h3 k hkl
 rw [hk] at hj2
 cases hj2
 exact hi hj
theorem getD_out {l : Array Bool} {i : Nat} (h : ¬ i < l.size) (b : Bool) : l.getD i b = b := by
 rw [Array.getD_eq_getD_getElem?, Array.getElem?_eq_none (by omega)]; rfl
theorem getD_in {l : Array Bool} {i : Nat} (h : i < l.size) (b c : Bool) : l.getD i b = l.getD i c := by
 rw [Array.getD_eq_getD_getElem?, Array.getD_eq_getD_getElem?, arr_get h]; rfl

theorem perm_same (hp : permOk π ops.size = true) {listed listed' : Array Bool} (hs : listed.size = ops.size) (hs' : listed'.size = ops.size) (hR : ∀ i, i < ops.size → listed.getD i false = listed'.getD (π.idxOf i) false) (j : Nat) : listed.getD j false = listed'.getD (π.idxOf j) false := by
 by_cases hj : j < ops.size
 ·exact hR j hj
 ·rw [getD_out (by omega), idxOf_out hp hj, getD_out (by omega)]

theorem perm_ready (hp : permOk π ops.size = true) {listed listed' : Array Bool} (hs : listed.size = ops.size) (hs' : listed'.size = ops.size) (hR : ∀ i, i < ops.size → listed.getD i false = listed'.getD (π.idxOf i) false) {i : Nat} (hi : i < ops.size) :
  i ∈ Region.ready md ops listed ↔ π.idxOf i ∈ Region.ready md (permOps π ops) listed' := by
 have hk := ((permOk_spec hp).2.1 i hi).1
 have hl := (permOk_spec hp).1
 have hsame := perm_same hp hs hs' hR
 have e1 : listed.getD i true = listed'.getD (π.idxOf i) true := by
  rw [getD_in (by omega) true false, getD_in (l := listed') (by omega) true false]; exact hsame i
 have e2 : ((ops[i]?).map (·.after.all fun e => !Region.binds md e || listed.getD e.on false)) = (((permOps π ops)[π.idxOf i]?).map (·.after.all fun e => !Region.binds md e || listed'.getD e.on false)) := by
  rw [permOps_at hp hi, arr_get hi]
  simp only [Option.map_some, renum, Array.all_map, Function.comp_def]
  congr 1
  congr 1
  funext e
  rw [hsame e.on]
  rfl
 unfold Region.ready
 simp only [List.mem_filter, List.mem_range]
 rw [e1, e2, permOps_size, hl]
 exact ⟨fun ⟨_, h⟩ => ⟨hk, h⟩, fun ⟨_, h⟩ => ⟨hi, h⟩⟩

theorem perm_yielded (hp : permOk π ops.size = true) (tmps : Array Value) (g : Nat) : yielded (permOps π ops) tmps (π.idxOf g) = yielded ops tmps g := by
 unfold yielded
 by_cases hg : g < ops.size
 ·rw [permOps_at hp hg, arr_get hg]; rfl
 ·rw [idxOf_out hp hg, Array.getElem?_eq_none (by rw [permOps_size, (permOk_spec hp).1]; omega), Array.getElem?_eq_none (by omega)]

theorem perm_op (hp : permOk π ops.size = true) {i : Nat} (hi : i < ops.size) {K : Act → World → Prop} {a : Act} {w : World} (h : wpOp P (permOps π ops) Q (π.idxOf i) K a w) : wpOp P ops Q i K a w := by
 unfold wpOp at h ⊢
 rw [permOps_at hp hi] at h
 rw [arr_get hi] at h ⊢
 simp only [Option.map_some] at h ⊢
 have e : Region.wanted (renum π ops[i]) (yielded (permOps π ops) a.tmps) = Region.wanted ops[i] (yielded ops a.tmps) := by
  unfold Region.wanted renum
  cases hg : ops[i].guard with
  | none => rfl
  | some g =>
   simp only [Option.map_some]
   rw [perm_yielded hp]
 rw [e] at h
 exact h

theorem perm_any (hp : permOk π ops.size = true) : ∀ (fuel : Nat) (listed listed' : Array Bool) (a : Act) (w : World), listed.size = ops.size → listed'.size = ops.size → (∀ i, i < ops.size → listed.getD i false = listed'.getD (π.idxOf i) false) →
  wpAny P md (permOps π ops) Q fuel listed' a w → wpAny P md ops Q fuel listed a w := by
 obtain ⟨hl, hA, hB⟩ := permOk_spec hp
 have none_ready : ∀ (listed listed' : Array Bool), listed.size = ops.size → listed'.size = ops.size → (∀ i, i < ops.size → listed.getD i false = listed'.getD (π.idxOf i) false) → Region.ready md ops listed = [] → Region.ready md (permOps π ops) listed' = [] := by
  intro listed listed' hs hs' hR he
  cases hr : Region.ready md (permOps π ops) listed' with
  | nil => rfl
  | cons k r =>
   have hk : k ∈ Region.ready md (permOps π ops) listed' := by rw [hr]; simp
   have hkl : k < ops.size := by
    have := hk
    unfold Region.ready at this
    simp only [List.mem_filter, List.mem_range, permOps_size, hl] at this
    exact this.1
   obtain ⟨i, hi, _, rfl⟩ := hB k hkl
   have := (perm_ready hp hs hs' hR hi).2 hk
   rw [he] at this
   cases this
 intro fuel
 induction fuel with
 | zero =>
  intro listed listed' a w hs hs' hR h
  refine ⟨?_, h.2⟩
  cases hr : Region.ready md ops listed with
  | nil => rfl
  | cons i r =>
   have hi : i ∈ Region.ready md ops listed := by rw [hr]; simp
   have hil : i < ops.size := by
    have := hi
    unfold Region.ready at this
    simp only [List.mem_filter, List.mem_range] at this
    exact this.1
   have := (perm_ready hp hs hs' hR hil).1 hi
   rw [h.1] at this
   cases this
 | succ fuel ih =>
  intro listed listed' a w hs hs' hR h
  refine ⟨fun he => h.1 (none_ready listed listed' hs hs' hR he), fun i hi => ?_⟩
  have hil : i < ops.size := by
   have := hi
   unfold Region.ready at this
   simp only [List.mem_filter, List.mem_range] at this
   exact this.1
  refine perm_op hp hil (wpOp_mono (fun a w hw => ?_) (h.2 _ ((perm_ready hp hs hs' hR hil).1 hi)))
  refine ih _ _ a w (by simpa using hs) (by simpa using hs') (fun j hj => ?_) hw
  rw [getD_set listed i j (by omega), getD_set listed' _ _ (by have := (hA i hil).1; omega)]
  simp only [more]
  rw [hR j hj]
  by_cases e : j = i
  ·subst e; simp
  ·have : ¬ π.idxOf j = π.idxOf i := fun he => by
    have h1 := (hA j hj).2
    have h2 := (hA i hil).2
    rw [he, h2] at h1
    cases h1
    exact e rfl
   rw [beq_eq_false_iff_ne.2 e, beq_eq_false_iff_ne.2 this]
end

theorem dregion_wp (hm : P.follows .mixedOrders = true) (hq : QOk P q) (hcall : CallOk P call) {id : Nat} {ops : Array Oper} {l : List LOper} {k : List Nat} (hl : cOpers nt P n ops ops.toList = some l) {fuel : Nat} {fr fr' : Fr} {h h' : LHeap} {ex : LEx} {ν : Inj} {a : Act} {w : World}
  (hx : evC q call fuel (dCode nt P n ops l k) fr h = some (ex, fr', h')) (hr : HR ν h w) (hf : FR ν n fr a.tmps) : (Code.region id ops true).wp P (Post n ν h w a.defers ex fr' h') a w := by
 unfold dCode at hx
 split at hx
 ·rename_i hd
  simp only [evC] at hx
  split at hx
  ·rename_i fr1 h1 hst
   simp only [Option.some.injEq, Prod.mk.injEq] at hx
   obtain ⟨rfl, rfl, rfl⟩ := hx
   exact wp_region_any hm (dregion_any hq hcall hl hd hst hr hf)
  ·cases hx
 ·generalize earlyOrd ops.toList l (masks ops.toList []) = π at hx
  simp only at hx
  split at hx
  ·rename_i l' hl'
   split at hx
   ·rename_i hpd
    obtain ⟨hp, hd⟩ := hpd
    simp only [evC] at hx
    split at hx
    ·rename_i fr1 h1 hst
     simp only [Option.some.injEq, Prod.mk.injEq] at hx
     obtain ⟨rfl, rfl, rfl⟩ := hx
     have hsz : (permOps π ops).size = ops.size := by rw [permOps_size, (permOk_spec hp).1]
     have := dregion_any hq hcall (k := k) hl' hd hst hr hf
     rw [hsz] at this
     have hrep : ∀ j, (Array.replicate ops.size false).getD j false = false := fun j => by
      rw [Array.getD_eq_getD_getElem?, Array.getElem?_replicate]
      split <;> rfl
     exact wp_region_any hm (perm_any hp _ _ _ _ _ (by simp) (by simp) (fun i _ => by rw [hrep, hrep]) this)
    ·cases hx
   ·simp [evC] at hx
  ·simp [evC] at hx

theorem Post.then {ν ν1 : Inj} {h h1 h' : LHeap} {w w1 : World} {df : List Deferred} {ex : LEx} {fr' : Fr} (hs : Step ν h w ν1 h1 w1) : ∀ e a' w', Post n ν1 h1 w1 df ex fr' h' e a' w' → Post n ν h w df ex fr' h' e a' w' :=
 fun _ _ _ ⟨a, b, ν', c, d, e⟩ => ⟨a, b, ν', c, d, hs.trans e⟩

theorem loop_wp {c : Code} {step : StepF} (hb : ∀ (fr fr' : Fr) (h h' : LHeap) (ex : LEx) (ν : Inj) (a : Act) (w : World), step fr h = some (ex, fr', h') → HR ν h w → FR ν n fr a.tmps → c.wp P (Post n ν h w a.defers ex fr' h') a w) :
  ∀ (k : Nat) (fr fr' : Fr) (h h' : LHeap) (ex : LEx) (ν : Inj) (a : Act) (w : World), loopN step k fr h = some (ex, fr', h') → HR ν h w → FR ν n fr a.tmps →
   ∀ (b : Frame) (kk : List Item) (cs : List Frame), ∃ e a' w', Post n ν h w a.defers ex fr' h' e a' w' ∧ Arrives P (lone (b.at a (.code c :: .inLoop c :: kk)) cs w) b kk cs e a' w'
 | 0, _, _, _, _, _, _, _, _, hx, _, _ => by simp [loopN] at hx
 | k + 1, fr, fr', h, h', ex, ν, a, w, hx, hr, hf => by
  intro b kk cs
  simp only [loopN] at hx
  have finish : ∀ (ex1 : LEx) (fr1 : Fr) (h1 : LHeap), ex1 ≠ .normal → step fr h = some (ex1, fr1, h1) → ∃ e a' w', Post n ν h w a.defers ex1 fr1 h1 e a' w' ∧ Arrives P (lone (b.at a (.code c :: .inLoop c :: kk)) cs w) b kk cs e a' w' := by
   intro ex1 fr1 h1 hne hst
   obtain ⟨e, a1, w1, hp, harr⟩ := hb fr fr1 h h1 ex1 ν a w hst hr hf b (.inLoop c :: kk) cs
   have he : e ≠ .normal := by
    rw [hp.1]
    cases ex1 <;> simp [LEx.real] at hne ⊢
   exact ⟨e, a1, w1, hp, .pass (x := .inLoop c) rfl (fun _ _ => .inl he) harr⟩
  split at hx
  ·rename_i fr1 h1 hst
   obtain ⟨e, a1, w1, hp, harr⟩ := hb fr fr1 h h1 .normal ν a w hst hr hf b (.inLoop c :: kk) cs
   obtain ⟨rfl, hd, ν1, hf1, hr1, hs1⟩ := hp
   obtain ⟨e2, a2, w2, hp2, harr2⟩ := loop_wp hb k fr1 fr' h1 h' ex ν1 a1 w1 hx hr1 hf1 b kk cs
   refine ⟨e2, a2, w2, Post.then hs1 _ _ _ (hd ▸ hp2), .of_steps (Steps.trans harr (.one step_inLoop)) harr2⟩
  ·rename_i r hne
   cases hst : step fr h with
   | none => rw [hst] at hx; cases hx
   | some t =>
    obtain ⟨ex1, fr1, h1⟩ := t
    rw [hst] at hx
    simp only [Option.some.injEq, Prod.mk.injEq] at hx
    obtain ⟨rfl, rfl, rfl⟩ := hx
    refine finish ex1 fr1 h1 ?_ hst
    rintro rfl
    exact hne _ _ hst

theorem evC_wp (hm : P.follows .mixedOrders = true) (hq : QOk P q) (hcall : CallOk P call) (fuel : Nat) : ∀ (c : Code) (ks ks' : List (List Nat)) (lc : LCode), cCode nt P n c ks = some (lc, ks') →
  ∀ (fr fr' : Fr) (h h' : LHeap) (ex : LEx) (ν : Inj) (a : Act) (w : World), evC q call fuel lc fr h = some (ex, fr', h') → HR ν h w → FR ν n fr a.tmps → c.wp P (Post n ν h w a.defers ex fr' h') a w := by
 intro c
 induction c with
 | skip =>
  intro ks ks' lc hc fr fr' h h' ex ν a w hx hr hf
  simp only [cCode, Option.some.injEq, Prod.mk.injEq] at hc
  obtain ⟨rfl, rfl⟩ := hc
  simp only [evC, Option.some.injEq, Prod.mk.injEq] at hx
  obtain ⟨rfl, rfl, rfl⟩ := hx
  exact wp_skip ⟨rfl, rfl, ν, hf, hr, Step.refl _ _ _⟩
 | region id ops draw =>
  intro ks ks' lc hc fr fr' h h' ex ν a w hx hr hf
  cases ks with
  | nil => cases draw <;> (simp [cCode] at hc; obtain ⟨rfl, rfl⟩ := hc; simp [evC] at hx)
  | cons k ks =>
   cases draw with
   | false =>
    simp only [cCode] at hc
    split at hc
    ·rename_i l hl
     simp only [Option.some.injEq, Prod.mk.injEq] at hc
     obtain ⟨rfl, rfl⟩ := hc
     simp only [evC] at hx
     split at hx
     ·rename_i fr1 h1 hst
      simp only [Option.some.injEq, Prod.mk.injEq] at hx
      obtain ⟨rfl, rfl, rfl⟩ := hx
      exact region_wp hq hcall hl hst hr hf
     ·cases hx
    ·cases hc
   | true =>
    simp only [cCode] at hc
    split at hc
    ·rename_i l hl
     simp only [Option.some.injEq, Prod.mk.injEq] at hc
     obtain ⟨rfl, rfl⟩ := hc
     exact dregion_wp hm hq hcall hl hx hr hf
    ·cases hc
 | seq x y ihx ihy =>
  intro ks ks' lc hc fr fr' h h' ex ν a w hx hr hf
  simp only [cCode] at hc
  split at hc
  ·rename_i lx ks1 hlx
   split at hc
   ·rename_i ly ks2 hly
    simp only [Option.some.injEq, Prod.mk.injEq] at hc
    obtain ⟨rfl, rfl⟩ := hc
    simp only [evC] at hx
    split at hx
    ·rename_i fr1 h1 hst
     refine wp_seq (wp_mono (ihx _ _ _ hlx _ _ _ _ _ ν a w hst hr hf) ?_)
     rintro e a1 w1 ⟨rfl, hd, ν1, hf1, hr1, hs1⟩
     have := ihy _ _ _ hly _ _ _ _ _ ν1 a1 w1 hx hr1 hf1
     exact wp_mono this fun e a2 w2 hp => Post.then hs1 _ _ _ (hd ▸ hp)
    ·rename_i hne
     cases hst : evC q call fuel lx fr h with
     | none => rw [hst] at hx; cases hx
     | some t =>
      obtain ⟨ex1, fr1, h1⟩ := t
      rw [hst] at hx
      simp only [Option.some.injEq, Prod.mk.injEq] at hx
      obtain ⟨rfl, rfl, rfl⟩ := hx
      refine wp_seq (wp_mono (ihx _ _ _ hlx _ _ _ _ _ ν a w hst hr hf) ?_)
      rintro e a1 w1 hp
      cases ex1 with
      | normal => exact absurd hst (hne _ _)
      | exit id => obtain ⟨rfl, hrest⟩ := hp; exact ⟨rfl, hrest⟩
      | ret => obtain ⟨rfl, hrest⟩ := hp; exact ⟨rfl, hrest⟩
   ·cases hc
  ·cases hc
 | cond c x y ihx ihy =>
  intro ks ks' lc hc fr fr' h h' ex ν a w hx hr hf
  simp only [cCode] at hc
  split at hc
  ·rename_i lcc lx ks1 hlc hlx
   split at hc
   ·rename_i ly ks2 hly
    simp only [Option.some.injEq, Prod.mk.injEq] at hc
    obtain ⟨rfl, rfl⟩ := hc
    simp only [evC] at hx
    split at hx
    ·rename_i hcv
     exact wp_cond_true (cLO_VR hf hlc hcv).bool_inv (ihx _ _ _ hlx _ _ _ _ _ ν a w hx hr hf)
    ·rename_i hcv
     exact wp_cond_false (cLO_VR hf hlc hcv).bool_inv (ihy _ _ _ hly _ _ _ _ _ ν a w hx hr hf)
    ·cases hx
   ·cases hc
  ·cases hc
 | block id x ih =>
  intro ks ks' lc hc fr fr' h h' ex ν a w hx hr hf
  simp only [cCode] at hc
  split at hc
  ·rename_i lx ks1 hlx
   simp only [Option.some.injEq, Prod.mk.injEq] at hc
   obtain ⟨rfl, rfl⟩ := hc
   simp only [evC] at hx
   cases hst : evC q call fuel lx fr h with
   | none => rw [hst] at hx; cases hx
   | some t =>
    obtain ⟨ex1, fr1, h1⟩ := t
    rw [hst] at hx
    refine wp_block (wp_mono (ih _ _ _ hlx _ _ _ _ _ ν a w hst hr hf) ?_)
    rintro e a1 w1 ⟨rfl, hrest⟩
    cases ex1 with
    | normal =>
     simp only [Option.some.injEq, Prod.mk.injEq] at hx
     obtain ⟨rfl, rfl, rfl⟩ := hx
     exact ⟨rfl, hrest⟩
    | ret =>
     simp only [Option.some.injEq, Prod.mk.injEq] at hx
     obtain ⟨rfl, rfl, rfl⟩ := hx
     exact ⟨rfl, hrest⟩
    | exit j =>
     simp only at hx
     simp only [LEx.real, Exit.inBlock]
     split at hx
     ·rename_i hj
      simp only [Option.some.injEq, Prod.mk.injEq] at hx
      obtain ⟨rfl, rfl, rfl⟩ := hx
      rw [if_pos hj]
      exact ⟨rfl, hrest⟩
     ·rename_i hj
      simp only [Option.some.injEq, Prod.mk.injEq] at hx
      obtain ⟨rfl, rfl, rfl⟩ := hx
      rw [if_neg hj]
      exact ⟨rfl, hrest⟩
  ·cases hc
 | loop x ih =>
  intro ks ks' lc hc fr fr' h h' ex ν a w hx hr hf
  simp only [cCode] at hc
  split at hc
  ·rename_i lx ks1 hlx
   simp only [Option.some.injEq, Prod.mk.injEq] at hc
   obtain ⟨rfl, rfl⟩ := hc
   simp only [evC] at hx
   intro b kk cs
   obtain ⟨e, a1, w1, hp, harr⟩ := loop_wp (fun fr fr' h h' ex ν a w => ih _ _ _ hlx fr fr' h h' ex ν a w) fuel fr fr' h h' ex ν a w hx hr hf b kk cs
   exact ⟨e, a1, w1, hp, .of_steps (.one step_loop) harr⟩
  ·cases hc
 | exit id =>
  intro ks ks' lc hc fr fr' h h' ex ν a w hx hr hf
  simp only [cCode, Option.some.injEq, Prod.mk.injEq] at hc
  obtain ⟨rfl, rfl⟩ := hc
  simp only [evC, Option.some.injEq, Prod.mk.injEq] at hx
  obtain ⟨rfl, rfl, rfl⟩ := hx
  exact wp_exit ⟨rfl, rfl, ν, hf, hr, Step.refl _ _ _⟩
 | ret =>
  intro ks ks' lc hc fr fr' h h' ex ν a w hx hr hf
  simp only [cCode, Option.some.injEq, Prod.mk.injEq] at hc
  obtain ⟨rfl, rfl⟩ := hc
  simp only [evC, Option.some.injEq, Prod.mk.injEq] at hx
  obtain ⟨rfl, rfl, rfl⟩ := hx
  exact wp_ret ⟨rfl, rfl, ν, hf, hr, Step.refl _ _ _⟩
 | _ =>
  intro ks ks' lc hc fr fr' h h' ex ν a w hx
  simp only [cCode, Option.some.injEq, Prod.mk.injEq] at hc
  obtain ⟨rfl, rfl⟩ := hc
  simp [evC] at hx

/-! ### Functions -/

theorem params_FR {ν : Inj} : ∀ (l l' : List Value) (i : Nat), VRs ν l l' → ∀ t v, (params i l).get t = some v → ∃ v', i ≤ t ∧ l'[t - i]? = some v' ∧ VR ν v v'
 | [], l', i, h, t, v, ht => by simp [params, Fr.get] at ht
 | x :: l, l', i, h, t, v, ht => by
  obtain ⟨x', m, rfl, hx, hl⟩ := h.cons_inv
  simp only [params, Fr.get] at ht
  split at ht
  ·rename_i e
   cases ht
   subst e
   exact ⟨x', Nat.le_refl _, by simp, hx⟩
  ·obtain ⟨v', h1, h2, h3⟩ := params_FR l m (i + 1) hl t v ht
   exact ⟨v', by omega, by rw [show t - i = (t - (i + 1)) + 1 by omega]; simpa using h2, h3⟩

def resOf (tmps : Array Value) : ResultVar → Sem Value
 | .tmp t => pure (tmps.getD t undef)
 | .cell a t => do loadVar t (← asAddr (tmps.getD a undef))

theorem results_eq (f : Func) (tmps : Array Value) : results f tmps = (f.results.mapM (resOf tmps) >>= fun vs => pure (if h : vs.size = 1 then vs[0] else .tuple vs)) := rfl

theorem results_run {f : Func} {rs : List LRes} {ν : Inj} {fr : Fr} {h : LHeap} {w : World} {tmps : Array Value} {v : Value} (hrs : LOp.listM (cRes P) f.results.toList = some rs) (hfin : finish rs fr h = some v)
  (hr : HR ν h w) (hf : FR ν n fr tmps) : ∃ v', (results f tmps).run P w = .ok v' w ∧ VR ν v v' := by
 have one : ∀ (x : ResultVar) (r : LRes) (u : Value), cRes P x = some r → lres fr h r = some u → ∃ u', (resOf tmps x).run P w = .ok u' w ∧ VR ν u u' := by
  intro x r u hx hu
  cases x with
  | tmp t =>
   simp only [cRes, Option.some.injEq] at hx
   subst hx
   obtain ⟨v', h1, h2⟩ := hf.get t u hu
   exact ⟨v', by simp [resOf, h1], h2⟩
  | cell a t =>
   simp only [cRes] at hx
   split at hx
   ·rename_i k hagg hk
    cases hx
    simp only [lres] at hu
    split at hu
    ·rename_i b o ha
     obtain ⟨cs, hcs, hh⟩ := map_some hu
     cases hh
     obtain ⟨p, h1, h2⟩ := hf.get a _ ha
     obtain ⟨pl, hb, he⟩ := h2.ptr_inv
     subst he
     obtain ⟨hl, vs', hvr, hcell⟩ := hr.loadCells hcs hb
     have hlen : vs'.length = k := by rw [← hvr.1, hl]
     have hrun := run_loadCells_list (P := P) w ⟨pl.B, pl.base + o, none⟩ vs' (fun j x hj => by rw [add_plain]; exact hcell j x hj)
     refine ⟨.agg vs'.toArray, ?_, VRs.agg (by simpa using hvr)⟩
     simp [resOf, h1, asAddr, loadVar, run_isAgg hagg, run_sizeOf hk, ← hlen, hrun]
    ·cases hu
   ·rename_i k hagg hk
    cases hx
    simp only [lres] at hu
    split at hu
    ·rename_i b o ha
     obtain ⟨p, h1, h2⟩ := hf.get a _ ha
     obtain ⟨pl, hb, he⟩ := h2.ptr_inv
     subst he
     obtain ⟨x', hcell, hvr⟩ := hr.load1 hu hb
     refine ⟨x', ?_, hvr⟩
     simp [resOf, h1, asAddr, loadVar, run_isAgg hagg, hcell]
    ·cases hu
   ·cases hx
 have many : ∀ (xs : List ResultVar) (rs : List LRes) (us : List Value), LOp.listM (cRes P) xs = some rs → LOp.listM (lres fr h) rs = some us → ∃ us', (xs.mapM (resOf tmps)).run P w = .ok us' w ∧ VRs ν us us' := by
  intro xs
  induction xs with
  | nil =>
   intro rs us h1 h2
   simp only [LOp.listM, Option.some.injEq] at h1
   subst h1
   simp only [LOp.listM, Option.some.injEq] at h2
   subst h2
   exact ⟨[], by simp, .nil ν⟩
  | cons x xs ih =>
   intro rs us h1 h2
   simp only [LOp.listM] at h1
   split at h1
   ·rename_i r rs' hr1 hrs1
    simp only [Option.some.injEq] at h1
    subst h1
    simp only [LOp.listM] at h2
    split at h2
    ·rename_i u us' hu hus
     simp only [Option.some.injEq] at h2
     subst h2
     obtain ⟨u', g1, g2⟩ := one x r u hr1 hu
     obtain ⟨us2, g3, g4⟩ := ih rs' us' hrs1 hus
     refine ⟨u' :: us2, ?_, .cons g2 g4⟩
     rw [List.mapM_cons]
     simp only [Sem.run_bind]
     rw [g1]
     simp only [Result.andThen_ok]
     rw [g3]
     simp
    ·cases h2
   ·cases h1
 unfold finish at hfin
 split at hfin
 ·rename_i u hl
  cases hfin
  obtain ⟨us', g1, g2⟩ := many _ _ _ hrs hl
  obtain ⟨u', m, rfl, g3, g4⟩ := g2.cons_inv
  have := g4.nil_inv
  subst this
  refine ⟨u', ?_, g3⟩
  rw [results_eq, Array.mapM_eq_mapM_toList]
  simp only [Sem.run_bind, Sem.run_map, g1, Result.andThen_ok]
  rfl
 ·rename_i us hne hl
  cases hfin
  obtain ⟨us', g1, g2⟩ := many _ _ _ hrs hl
  refine ⟨.tuple us'.toArray, ?_, VRs.tuple (by simpa using g2)⟩
  have hsz : us'.toArray.size ≠ 1 := by
   intro he
   simp only [List.size_toArray] at he
   rw [← g2.1] at he
   match us, he with
   | [u], _ => exact hne u rfl
  rw [results_eq, Array.mapM_eq_mapM_toList]
  simp only [Sem.run_bind, Sem.run_map, g1, Result.andThen_ok]
  rw [dif_neg hsz]
  rfl
 ·cases hfin

/-- An environment that speaks of this program. -/
structure EnvOk (P : Program) (E : Env) : Prop where
 orders : P.follows .mixedOrders = true
 q : QOk P E.q
 code : ∀ f lf, E.code f = some lf → ∃ fn ks nt, P.funcs[f]? = some fn ∧ cFunc P fn ks nt = some lf
 prim : ∀ f p, E.prim f = some p → ∀ args h v h', p args h = some (v, h') → Sound P f args h v h'

theorem evF_sound {E : Env} (hE : EnvOk P E) : ∀ k, CallOk P (evF E k) := by
 intro k
 induction k with
 | zero => intro f args h v h' hx; simp [evF] at hx
 | succ k ih =>
  intro f args h v h' hx
  simp only [evF] at hx
  split at hx
  ·rename_i p hp
   exact hE.prim f p hp args h v h' hx
  ·split at hx
   ·rename_i lf hlf
    obtain ⟨fn, ks, nt, hfn, hcf⟩ := hE.code f lf hlf
    unfold cFunc at hcf
    split at hcf
    ·cases hcf
    ·rename_i c hbody
     split at hcf
     ·rename_i lc rs hlc hrs
      split at hcf
      ·cases hcf
      ·rename_i hname
       cases hcf
       refine ⟨⟨fn, hfn, hname, by simp [hbody]⟩, ?_⟩
       intro ν w args' hr hargs
       have main : args.length ≤ fn.ntmps → ∀ (ex : LEx) (fr : Fr) (h2 : LHeap), evC E.q (evF E k) k lc (params 0 args) h = some (ex, fr, h2) → (ex = .normal ∨ ex = .ret) → (finish rs fr h2).map (·, h2) = some (v, h') →
         Calls P f args' w fun e w' => ∃ ν' v', e = .returned v' ∧ VR ν' v v' ∧ HR ν' h' w' ∧ Step ν h w ν' h' w' := by
        intro hle ex fr h2 hev hex hfin
        obtain ⟨u, hu, hh⟩ := map_some hfin
        cases hh
        refine calls_of_wp hfn hbody ?_
        have hsz : args'.size ≤ fn.ntmps := by have := hargs.1; simp at this; omega
        ·have hf0 : FR ν fn.ntmps (params 0 args) (args' ++ Array.replicate (fn.ntmps - args'.size) undef) := by
          refine ⟨by simp; omega, ?_⟩
          intro t v ht
          obtain ⟨v', _, h2, h3⟩ := params_FR args args'.toList 0 hargs t v ht
          refine ⟨v', ?_, h3⟩
          have h2' : args'[t]? = some v' := by simpa using h2
          have hlt : t < args'.size := by
           rcases Nat.lt_or_ge t args'.size with q | q
           ·exact q
           ·rw [Array.getElem?_eq_none q] at h2'; cases h2'
          rw [Array.getElem?_append_left hlt]
          exact h2'
         refine wp_mono (evC_wp hE.orders hE.q ih k c ks [] lc hlc _ _ _ _ _ ν { tmps := args' ++ Array.replicate (fn.ntmps - args'.size) undef, defers := [] } w hev hr hf0) ?_
         rintro e a1 w1 ⟨he, hd, ν1, hf1, hr1, hs1⟩
         obtain ⟨v', hv1, hv2⟩ := results_run hrs hu hr1 hf1
         rcases hex with rfl | rfl
         ·subst he
          exact ⟨hd, v', hv1, ν1, v', rfl, hv2, hr1, hs1⟩
         ·subst he
          exact ⟨hd, v', hv1, ν1, v', rfl, hv2, hr1, hs1⟩
       split at hx
       case isFalse => cases hx
       rename_i hle
       split at hx
       ·rename_i fr h2 hev; exact main hle _ _ _ hev (.inl rfl) hx
       ·rename_i fr h2 hev; exact main hle _ _ _ hev (.inr rfl) hx
       ·cases hx
     ·cases hcf
   ·cases hx

end
end Go.E1
