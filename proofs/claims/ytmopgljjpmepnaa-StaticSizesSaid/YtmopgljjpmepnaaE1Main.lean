/-
  The engine is sound: what it evaluates, the loaded program does.
-/
import Derived.Test.YtmopgljjpmepnaaE1Drawn
namespace Go.E1
open Go

section
variable {P : Program} {q : EqF} {call : CallF} {n : Nat}

theorem cOpers_get {ops : Array Oper} : ∀ {os : List Oper} {ls : List LOper}, cOpers P n ops os = some ls → os.length = ls.length ∧ ∀ (j : Nat) (o : Oper) (l : LOper), os[j]? = some o → ls[j]? = some l → cOper P n ops o = some l
  | [], ls, h => by
    simp only [cOpers, Option.some.injEq] at h
    subst h
    exact ⟨rfl, fun j o l h => by simp at h⟩
  | o :: os, ls, h => by
    simp only [cOpers] at h
    split at h
    · rename_i l lr hl hlr
      simp only [Option.some.injEq] at h
      subst h
      obtain ⟨h1, h2⟩ := cOpers_get hlr
      refine ⟨by simp [h1], ?_⟩
      intro j o' l' ho hl'
      cases j with
      | zero => simp at ho hl'; subst ho; subst hl'; exact hl
      | succ j => exact h2 j o' l' (by simpa using ho) (by simpa using hl')
    · cases h

/-- What holds on the way through a region that draws its order. -/
structure DInv (ops : Array Oper) (ls : List LOper) (n : Nat) (T : Track) (ν₀ : Inj) (h₀ : LHeap) (w₀ : World) (df : List Deferred) (listed : Array Bool) (a : Act) (w : World) : Prop where
  size : listed.size = ops.size
  closed : Closed ops (fun j => listed.getD j false)
  inv : ∃ ν, HR ν (T.H (cnt ls (fun j => listed.getD j false) ls.length)) w ∧ Step ν₀ h₀ w₀ ν (T.H (cnt ls (fun j => listed.getD j false) ls.length)) w ∧
    a.tmps.size = n ∧ ∀ t v, cur ls T.V (T.F 0) (fun j => listed.getD j false) t ls.length = some v → ∃ v', a.tmps[t]? = some v' ∧ VR ν v v'
  defers : a.defers = df

def unl (listed : Array Bool) : Nat := (listed.toList.filter (! ·)).length

theorem unl_set {listed : Array Bool} {i : Nat} (hi : listed[i]? = some false) : unl (listed.setIfInBounds i true) + 1 = unl listed := by
  unfold unl
  have key : ∀ (l : List Bool) (i : Nat), l[i]? = some false → ((l.set i true).filter (! ·)).length + 1 = (l.filter (! ·)).length := by
    intro l
    induction l with
    | nil => intro i h; simp at h
    | cons b l ih =>
      intro i h
      cases i with
      | zero => simp at h; subst h; simp
      | succ i =>
        have := ih i (by simpa using h)
        cases b <;> simp_all <;> omega
  have := key listed.toList i (by simpa using hi)
  simpa using this

theorem unl_zero {listed : Array Bool} (h : unl listed = 0) (j : Nat) (hj : j < listed.size) : listed.getD j false = true := by
  unfold unl at h
  have h' : listed.toList.filter (! ·) = [] := List.eq_nil_of_length_eq_zero h
  rw [List.filter_eq_nil_iff] at h'
  have := h' listed[j] (by simp)
  simp only [Bool.not_eq_true', Bool.not_eq_false] at this
  simp [hj, this]

theorem getD_set (listed : Array Bool) (i j : Nat) (hi : i < listed.size) : (listed.setIfInBounds i true).getD j false = more (fun j => listed.getD j false) i j := by
  simp only [more, Array.getD_eq_getD_getElem?, Array.getElem?_setIfInBounds]
  by_cases e : i = j
  · subst e; simp [hi]
  · have : ¬ j = i := fun h => e h.symm
    simp [e, this]

theorem ready_mem {ops : Array Oper} {listed : Array Bool} (hs : listed.size = ops.size) {i : Nat} : i ∈ Region.ready .any ops listed ↔ ∃ o, Ready ops (fun j => listed.getD j false) i o := by
  unfold Region.ready
  simp only [List.mem_filter, List.mem_range, Bool.and_eq_true, Bool.not_eq_true']
  constructor
  · rintro ⟨hi, hn, ha⟩
    have ho : ops[i]? = some ops[i] := by simp [hi]
    refine ⟨ops[i], ho, ?_, ?_⟩
    · have hi' : i < listed.size := hs ▸ hi
      simpa [Array.getD_eq_getD_getElem?, hi'] using hn
    · intro d hd
      rw [ho] at ha
      simp only [Option.map_some, Option.getD_some, Array.all_eq_true_iff_forall_mem] at ha
      unfold direct at hd
      simp only [List.mem_map, List.mem_filter, Array.mem_toList_iff] at hd
      obtain ⟨e, ⟨he, hb⟩, rfl⟩ := hd
      have := ha e he
      simpa [hb] using this
  · rintro ⟨o, hr⟩
    have hi := ready_lt hr
    have ho : ops[i]? = some o := hr.op
    refine ⟨hi, ?_, ?_⟩
    · have hi' : i < listed.size := hs ▸ hi
      have := hr.not
      simpa [Array.getD_eq_getD_getElem?, hi'] using this
    · rw [ho]
      simp only [Option.map_some, Option.getD_some, Array.all_eq_true_iff_forall_mem]
      intro e he
      cases hb : Region.binds .any e with
      | false => simp
      | true =>
        have := hr.all e.on (by unfold direct; simp only [List.mem_map, List.mem_filter, Array.mem_toList_iff]; exact ⟨e, ⟨he, hb⟩, rfl⟩)
        simpa using this

theorem some_ready {ops : Array Oper} {ls : List LOper} {ms : List Nat} (hf : DFacts ops ls ms) {listed : Array Bool} (hs : listed.size = ops.size) : ∀ (i : Nat), i < ops.size → listed.getD i false = false → ∃ j, j ∈ Region.ready .any ops listed := by
  intro i
  induction i using Nat.strongRecOn with
  | _ i ih =>
    intro hi hn
    by_cases hall : ∀ d ∈ direct ops[i], listed.getD d false = true
    · exact ⟨i, (ready_mem hs).2 ⟨ops[i], by simp [hi], hn, hall⟩⟩
    · simp only [Classical.not_forall] at hall
      obtain ⟨d, hd, hnd⟩ := hall
      have hlt := hf.less i ops[i] (by simp [hi]) d hd
      exact ih d hlt (by omega) (by simpa using hnd)

theorem drawn_any (hq : QOk P q) (hcall : CallOk P call) {ops : Array Oper} {ls : List LOper} {ms : List Nat} {T : Track} {Q : Exit → Act → World → Prop} {ν₀ : Inj} {h₀ : LHeap} {w₀ : World} {df : List Deferred}
    (hls : cOpers P n ops ops.toList = some ls) (hf : DFacts ops ls ms) (htr : TrOk q call ls ms T)
    (hQ : ∀ ν a w, HR ν (T.H (T.C ls.length)) w → Step ν₀ h₀ w₀ ν (T.H (T.C ls.length)) w → FR ν n (T.F ls.length) a.tmps → a.defers = df → Q .normal a w) :
    ∀ (fuel : Nat) (listed : Array Bool) (a : Act) (w : World), unl listed = fuel → DInv ops ls n T ν₀ h₀ w₀ df listed a w → wpAny P .any ops Q fuel listed a w := by
  obtain ⟨hlen, hget⟩ := cOpers_get hls
  have hdst : ∀ (j : Nat) (o : Oper) (l : LOper), ops[j]? = some o → ls[j]? = some l → l.dst = o.dst := fun j o l ho hl => (cOper_spec (hget j o l (by simpa using ho) hl)).2.1
  have done : ∀ (listed : Array Bool) (a : Act) (w : World), DInv ops ls n T ν₀ h₀ w₀ df listed a w → (∀ j, j < ops.size → listed.getD j false = true) → Q .normal a w := by
    intro listed a w hi hall
    obtain ⟨ν, h1, h2, h3, h4⟩ := hi.inv
    have hNl := hf.len
    have hc : cnt ls (fun j => listed.getD j false) ls.length = T.C ls.length := by
      rw [C_cnt htr _ (Nat.le_refl _)]
      exact cnt_congr _ fun j hj _ => hall j (by omega)
    rw [hc] at h1 h2
    refine hQ ν a w h1 h2 ⟨h3, ?_⟩ hi.defers
    intro t v ht
    refine h4 t v ?_
    rw [F_get htr t _ (Nat.le_refl _)] at ht
    have : ∀ k, k ≤ ls.length → cur ls T.V (T.F 0) (fun j => listed.getD j false) t k = cur ls T.V (T.F 0) (fun _ => true) t k := by
      intro k
      induction k with
      | zero => intro _; rfl
      | succ k ih =>
        intro hk
        simp only [cur]
        rw [ih (by omega)]
        have hk' := hall k (by omega)
        simp [hk']
    rw [this _ (Nat.le_refl _)]
    exact ht
  have stuck : ∀ (listed : Array Bool), listed.size = ops.size → Region.ready .any ops listed = [] → ∀ j, j < ops.size → listed.getD j false = true := by
    intro listed hs he j hj
    cases e : listed.getD j false with
    | true => rfl
    | false =>
      obtain ⟨k, hk⟩ := some_ready hf hs j hj e
      rw [he] at hk
      cases hk
  intro fuel
  induction fuel with
  | zero =>
    intro listed a w hu hi
    have hall : ∀ j, j < ops.size → listed.getD j false = true := fun j hj => unl_zero hu j (hi.size ▸ hj)
    refine ⟨?_, done listed a w hi hall⟩
    cases hr : Region.ready .any ops listed with
    | nil => rfl
    | cons i r =>
      obtain ⟨o, hrd⟩ := (ready_mem hi.size).1 (show i ∈ Region.ready .any ops listed by rw [hr]; simp)
      have := hall i (ready_lt hrd)
      have hn : listed.getD i false = false := hrd.not
      rw [this] at hn; cases hn
  | succ fuel ih =>
    intro listed a w hu hi
    refine ⟨fun he => done listed a w hi (stuck listed hi.size he), ?_⟩
    intro i him
    obtain ⟨o, hrd⟩ := (ready_mem hi.size).1 him
    have hil := ready_lt hrd
    have hNl := hf.len
    have hl := opt_get (l := ls) (i := i) (by omega)
    have hco := hget i o _ (by simpa using hrd.op) hl
    obtain ⟨hact, hld, hdn, hguard⟩ := cOper_spec hco
    obtain ⟨ν, k1, k2, k3, k4⟩ := hi.inv
    obtain ⟨b, hw, hF, hC, hfalse, htrue⟩ := htr.op i _ (dBounds_get hl)
    have hcur : ∀ t, t ∈ o.looksAt ops → ∀ v, (T.F i).get t = some v → ∃ v', a.tmps[t]? = some v' ∧ VR ν v v' := fun t ht v hv => k4 t v (by rw [← cur_ready hf hdst htr hi.closed hrd ht]; exact hv)
    have hops : OpsR ν o.op (T.F i).rd a.eval := by
      intro x hx lx v hlx hv
      cases x with
      | tmp t =>
        simp only [cLO, Option.some.injEq] at hlx
        subst hlx
        obtain ⟨v', h1, h2⟩ := hcur t (by
          unfold Oper.looksAt
          refine List.mem_append_left _ ?_
          rw [List.mem_filterMap]
          exact ⟨.tmp t, by simpa using hx, rfl⟩) v hv
        simpa [Act.eval, h1] using h2
      | const c =>
        simp only [cLO] at hlx
        split at hlx
        · rename_i hc
          cases hlx
          simp only [Fr.rd, Option.some.injEq] at hv
          subst hv
          exact constOk_VR hc ν
        · cases hlx
      | func f =>
        simp only [cLO, Option.some.injEq] at hlx
        subst hlx
        simp only [Fr.rd, Option.some.injEq] at hv
        subst hv
        exact .func rfl (fun i v v' h => by simp at h)
      | global g => simp [cLO] at hlx
    have hwant : Region.wanted o (yielded ops a.tmps) = b := wanted_spec hco hw (fun j want t h1 h2 v hv => by
      obtain ⟨v', p, q⟩ := hcur t (by
        unfold Oper.looksAt
        refine List.mem_append_right _ ?_
        rw [h1]
        simp only [h2]
        simp) v hv
      exact ⟨v', ν, p, q⟩)
    have hlf : listed[i]? = some false := by
      have hn := hrd.not
      have hi' : i < listed.size := hi.size ▸ hil
      simp only [Array.getD_eq_getD_getElem?] at hn
      rw [arr_get hi'] at hn ⊢
      simpa using hn
    have hmore : (fun j => (listed.setIfInBounds i true).getD j false) = more (fun j => listed.getD j false) i := by
      funext j
      exact getD_set listed i j (hi.size ▸ hil)
    have hclosed : Closed ops (more (fun j => listed.getD j false) i) := by
      intro j oj hoj hm d hd
      simp only [more, Bool.or_eq_true, beq_iff_eq] at hm ⊢
      rcases hm with rfl | hm
      · rw [hrd.op] at hoj
        cases hoj
        exact .inr (hrd.all d hd)
      · exact .inr (hi.closed j oj hoj hm d hd)
    have hcnt := cnt_more (ls := ls) (L := fun j => listed.getD j false) (i := i) (N := ls.length) (by omega) hl hrd.not
    have next : ∀ (ν' : Inj) (v' : Value) (w' : World), VR ν' (T.V i) v' → HR ν' (T.H (cnt ls (more (fun j => listed.getD j false) i) ls.length)) w' →
        Step ν (T.H (cnt ls (fun j => listed.getD j false) ls.length)) w ν' (T.H (cnt ls (more (fun j => listed.getD j false) i) ls.length)) w' → wpAny P .any ops Q fuel (listed.setIfInBounds i true) (a.put o.dst v') w' := by
      intro ν' v' w' hv' hr' hs'
      refine ih _ _ _ (by have := unl_set hlf; omega) ⟨by simpa using hi.size, by rw [hmore]; exact hclosed, ⟨ν', ?_, ?_, ?_, ?_⟩, ?_⟩
      · rw [hmore]; exact hr'
      · rw [hmore]; exact k2.trans hs'
      · cases o.dst <;> simp [Act.put, k3]
      · intro t v ht
        rw [hmore, cur_more hf hdst hi.closed hrd] at ht
        by_cases e : o.dst = some t
        · rw [if_pos e] at ht
          cases ht
          refine ⟨v', ?_, hv'⟩
          rw [e]
          simp [Act.put, k3, hdn t e]
        · rw [if_neg e] at ht
          obtain ⟨u, h1, h2⟩ := k4 t v ht
          refine ⟨u, ?_, h2.mono hs'.le⟩
          cases hd : o.dst with
          | none => simpa [Act.put, hd] using h1
          | some d =>
            have : ¬ d = t := fun he => e (by rw [hd, he])
            simp [Act.put, this, h1]
      · have := hi.defers
        cases o.dst <;> simpa [Act.put] using this
    unfold wpOp
    simp only [hrd.op]
    rw [hwant]
    cases b with
    | false =>
      simp only [Bool.false_eq_true, if_false]
      obtain ⟨hV, hH⟩ := hfalse rfl
      have hHeq : T.H (cnt ls (more (fun j => listed.getD j false) i) ls.length) = T.H (cnt ls (fun j => listed.getD j false) ls.length) := by
        rw [hcnt]
        by_cases he : isEff ls[i] = true
        · rw [if_pos he, cnt_eff hf htr hi.closed hrd hl he]
          exact hH (by simpa [isEff] using he)
        · rw [if_neg he]; rfl
      refine next ν undef w ?_ ?_ ?_
      · rw [hV]; exact VRs.tuple (.nil ν)
      · rw [hHeq]; exact k1
      · rw [hHeq]; exact Step.refl _ _ _
    | true =>
      simp only [if_true]
      obtain ⟨hpure, hread, heff⟩ := htrue rfl
      have hlact : lact q call (ls[i]).act (T.F i) (T.H (cnt ls (fun j => listed.getD j false) ls.length)) = some (T.V i, T.H (cnt ls (more (fun j => listed.getD j false) i) ls.length)) := by
        rw [hcnt]
        cases hcl : (ls[i]).act.cls with
        | pure =>
          have : ¬ isEff ls[i] = true := by simp [isEff, hcl]
          rw [if_neg this]
          exact hpure hcl _
        | reader =>
          have : ¬ isEff ls[i] = true := by simp [isEff, hcl]
          rw [if_neg this]
          exact hread hcl _ (cnt_lo hf hi.closed hrd) (cnt_hi hf hi.closed hrd) (cnt_all htr _)
        | effect =>
          have he : isEff ls[i] = true := by simp [isEff, hcl]
          rw [if_pos he, cnt_eff hf htr hi.closed hrd hl he]
          exact heff hcl
      exact .inl (act_wp hq hcall hact hlact k1 hops next)

/-! ### All code -/

def LEx.real : LEx → Exit
  | .normal => .normal
  | .exit id => .exit id
  | .ret => .ret

/-- What is known behind a piece of code. -/
def Post (n : Nat) (ν : Inj) (h : LHeap) (w : World) (df : List Deferred) (ex : LEx) (fr' : Fr) (h' : LHeap) : Exit → Act → World → Prop :=
  fun e a' w' => e = ex.real ∧ a'.defers = df ∧ ∃ ν', FR ν' n fr' a'.tmps ∧ HR ν' h' w' ∧ Step ν h w ν' h' w'

theorem region_wp (hq : QOk P q) (hcall : CallOk P call) {id : Nat} {ops : Array Oper} {l : List LOper} {k : List Nat} (hl : cOpers P n ops ops.toList = some l) {fr fr' : Fr} {h h' : LHeap} {ν : Inj} {a : Act} {w : World}
    (hx : lops q call l fr h = some (fr', h')) (hr : HR ν h w) (hf : FR ν n fr a.tmps) : (Code.region id ops false).wp P (Post n ν h w a.defers .normal (fr'.keep k) h') a w := by
  refine wp_region ?_
  have := lops_wp hq hcall (ops := ops) (Q := Post n ν h w a.defers .normal (fr'.keep k) h') ops.toList l 0 fr fr' h h' ν a w (fun j => by simp) hl hx hr hf
    (fun ν' a' w' f d r s => ⟨rfl, d, ν', f.keep k, r, s⟩)
  simpa [List.range_eq_range'] using this

theorem dregion_wp (hm : P.follows .mixedOrders = true) (hq : QOk P q) (hcall : CallOk P call) {id : Nat} {ops : Array Oper} {l : List LOper} {k : List Nat} (hl : cOpers P n ops ops.toList = some l) (hd : dOk ops.toList l (masks ops.toList []) = true) {fr fr' : Fr} {h h' : LHeap} {ν : Inj} {a : Act} {w : World}
    (hx : ldops q call (dBounds l (masks ops.toList [])) fr h [] [] = some (fr', h')) (hr : HR ν h w) (hf : FR ν n fr a.tmps) : (Code.region id ops true).wp P (Post n ν h w a.defers .normal (fr'.keep k) h') a w := by
  obtain ⟨H, F, C, V, _, a2, a3, a4, a5, a6, _, _, a9⟩ := ldops_trace _ _ _ _ _ _ _ hx (by simp) (by simp)
  rw [dBounds_length] at a5 a6 a9
  have hfacts := dOk_facts hd
  have htr : TrOk q call l (masks ops.toList []) ⟨H, F, C, V⟩ := ⟨a9, a4⟩
  refine wp_region_any hm ?_
  have hrd : HR ν h { w with drawn := w.drawn + 1 } := hr.drew _
  refine drawn_any hq hcall (T := ⟨H, F, C, V⟩) (ν₀ := ν) (h₀ := h) (w₀ := { w with drawn := w.drawn + 1 }) (df := a.defers) hl hfacts htr ?_ ops.size _ a _ (by simp [unl]) ⟨by simp, ?_, ⟨ν, ?_, ?_, hf.size, ?_⟩, rfl⟩
  · intro ν' a' w' hr' hs' hf' hdf
    simp only [a5, a6] at hr' hs' hf'
    exact ⟨rfl, hdf, ν', hf'.keep k, hr', (Step.drew _).trans hs'⟩
  · intro j o _ hj
    simp [Array.getD_eq_getD_getElem?] at hj
    have := Array.getElem?_replicate (n := ops.size) (v := false) (i := j)
    rw [this] at hj
    split at hj <;> simp at hj
  all_goals
    have hrep : ∀ j, (Array.replicate ops.size false).getD j false = false := fun j => by
      rw [Array.getD_eq_getD_getElem?, Array.getElem?_replicate]
      split <;> rfl
    have hfun : (fun j => (Array.replicate ops.size false).getD j false) = fun _ => false := funext hrep
    have h0 : ∀ k, cnt l (fun _ => false) k = 0 := by
      intro k
      induction k with
      | zero => rfl
      | succ k ih => simp [cnt, ih]
    have c0 : ∀ t k, cur l V (F 0) (fun _ => false) t k = (F 0).get t := by
      intro t k
      induction k with
      | zero => rfl
      | succ k ih =>
        simp only [cur, ih, Bool.false_eq_true, false_and, if_false]
        split <;> rfl
    simp only [List.length_nil] at a2
  · rw [hfun, h0]
    show HR ν (H 0) _
    rw [a2]; exact hrd
  · rw [hfun, h0]
    show Step ν h _ ν (H 0) _
    rw [a2]; exact Step.refl _ _ _
  · intro t v ht
    rw [hfun] at ht
    have h1 := c0 t l.length
    change cur l V (F 0) (fun _ => false) t l.length = some v at ht
    rw [h1, a3] at ht
    exact hf.get t v ht

theorem Post.then {ν ν1 : Inj} {h h1 h' : LHeap} {w w1 : World} {df : List Deferred} {ex : LEx} {fr' : Fr} (hs : Step ν h w ν1 h1 w1) : ∀ e a' w', Post n ν1 h1 w1 df ex fr' h' e a' w' → Post n ν h w df ex fr' h' e a' w' :=
  fun _ _ _ ⟨a, b, ν', c, d, e⟩ => ⟨a, b, ν', c, d, hs.trans e⟩

theorem loop_wp {c : Code} {step : StepF} (hb : ∀ (fr fr' : Fr) (h h' : LHeap) (ex : LEx) (ν : Inj) (a : Act) (w : World), step fr h = some (ex, fr', h') → HR ν h w → FR ν n fr a.tmps → c.wp P (Post n ν h w a.defers ex fr' h') a w) :
    ∀ (k : Nat) (fr fr' : Fr) (h h' : LHeap) (ex : LEx) (ν : Inj) (a : Act) (w : World), loopN step k fr h = some (ex, fr', h') → HR ν h w → FR ν n fr a.tmps →
      ∀ (b : Frame) (kk : List Item) (cs : List Frame), ∃ e a' w', Post n ν h w a.defers ex fr' h' e a' w' ∧ Arrives P (lone (b.at a (.code c :: .inLoop c :: kk)) cs w) b kk cs e a' w'
  | 0, _, _, _, _, _, _, _, _, hx, _, _ => by simp [loopN] at hx
  | k + 1, fr, fr', h, h', ex, ν, a, w, hx, hr, hf => by
    intro b kk cs
    simp only [loopN] at hx
    have finish : ∀ (ex1 : LEx) (fr1 : Fr) (h1 : LHeap), ex1 ≠ .normal → step fr h = some (ex1, fr1, h1) → ∃ e a' w', Post n ν h w a.defers ex1 fr1 h1 e a' w' ∧ Arrives P (lone (b.at a (.code c :: .inLoop c :: kk)) cs w) b kk cs e a' w' := by
      intro ex1 fr1 h1 hne hst
      obtain ⟨e, a1, w1, hp, harr⟩ := hb fr fr1 h h1 ex1 ν a w hst hr hf b (.inLoop c :: kk) cs
      have he : e ≠ .normal := by
        rw [hp.1]
        cases ex1 <;> simp [LEx.real] at hne ⊢
      exact ⟨e, a1, w1, hp, .pass (x := .inLoop c) rfl (fun _ _ => .inl he) harr⟩
    split at hx
    · rename_i fr1 h1 hst
      obtain ⟨e, a1, w1, hp, harr⟩ := hb fr fr1 h h1 .normal ν a w hst hr hf b (.inLoop c :: kk) cs
      obtain ⟨rfl, hd, ν1, hf1, hr1, hs1⟩ := hp
      obtain ⟨e2, a2, w2, hp2, harr2⟩ := loop_wp hb k fr1 fr' h1 h' ex ν1 a1 w1 hx hr1 hf1 b kk cs
      refine ⟨e2, a2, w2, Post.then hs1 _ _ _ (hd ▸ hp2), .of_steps (Steps.trans harr (.one step_inLoop)) harr2⟩
    · rename_i r hne
      cases hst : step fr h with
      | none => rw [hst] at hx; cases hx
      | some t =>
        obtain ⟨ex1, fr1, h1⟩ := t
        rw [hst] at hx
        simp only [Option.some.injEq, Prod.mk.injEq] at hx
        obtain ⟨rfl, rfl, rfl⟩ := hx
        refine finish ex1 fr1 h1 ?_ hst
        rintro rfl
        exact hne _ _ hst

theorem evC_wp (hm : P.follows .mixedOrders = true) (hq : QOk P q) (hcall : CallOk P call) (fuel : Nat) : ∀ (c : Code) (ks ks' : List (List Nat)) (lc : LCode), cCode P n c ks = some (lc, ks') →
    ∀ (fr fr' : Fr) (h h' : LHeap) (ex : LEx) (ν : Inj) (a : Act) (w : World), evC q call fuel lc fr h = some (ex, fr', h') → HR ν h w → FR ν n fr a.tmps → c.wp P (Post n ν h w a.defers ex fr' h') a w := by
  intro c
  induction c with
  | skip =>
    intro ks ks' lc hc fr fr' h h' ex ν a w hx hr hf
    simp only [cCode, Option.some.injEq, Prod.mk.injEq] at hc
    obtain ⟨rfl, rfl⟩ := hc
    simp only [evC, Option.some.injEq, Prod.mk.injEq] at hx
    obtain ⟨rfl, rfl, rfl⟩ := hx
    exact wp_skip ⟨rfl, rfl, ν, hf, hr, Step.refl _ _ _⟩
  | region id ops draw =>
    intro ks ks' lc hc fr fr' h h' ex ν a w hx hr hf
    cases ks with
    | nil => cases draw <;> simp [cCode] at hc
    | cons k ks =>
      cases draw with
      | false =>
        simp only [cCode] at hc
        split at hc
        · rename_i l hl
          simp only [Option.some.injEq, Prod.mk.injEq] at hc
          obtain ⟨rfl, rfl⟩ := hc
          simp only [evC] at hx
          split at hx
          · rename_i fr1 h1 hst
            simp only [Option.some.injEq, Prod.mk.injEq] at hx
            obtain ⟨rfl, rfl, rfl⟩ := hx
            exact region_wp hq hcall hl hst hr hf
          · cases hx
        · cases hc
      | true =>
        simp only [cCode] at hc
        split at hc
        · rename_i l hl
          split at hc
          · rename_i hd
            simp only [Option.some.injEq, Prod.mk.injEq] at hc
            obtain ⟨rfl, rfl⟩ := hc
            simp only [evC] at hx
            split at hx
            · rename_i fr1 h1 hst
              simp only [Option.some.injEq, Prod.mk.injEq] at hx
              obtain ⟨rfl, rfl, rfl⟩ := hx
              exact dregion_wp hm hq hcall hl hd hst hr hf
            · cases hx
          · cases hc
        · cases hc
  | seq x y ihx ihy =>
    intro ks ks' lc hc fr fr' h h' ex ν a w hx hr hf
    simp only [cCode] at hc
    split at hc
    · rename_i lx ks1 hlx
      split at hc
      · rename_i ly ks2 hly
        simp only [Option.some.injEq, Prod.mk.injEq] at hc
        obtain ⟨rfl, rfl⟩ := hc
        simp only [evC] at hx
        split at hx
        · rename_i fr1 h1 hst
          refine wp_seq (wp_mono (ihx _ _ _ hlx _ _ _ _ _ ν a w hst hr hf) ?_)
          rintro e a1 w1 ⟨rfl, hd, ν1, hf1, hr1, hs1⟩
          have := ihy _ _ _ hly _ _ _ _ _ ν1 a1 w1 hx hr1 hf1
          exact wp_mono this fun e a2 w2 hp => Post.then hs1 _ _ _ (hd ▸ hp)
        · rename_i hne
          cases hst : evC q call fuel lx fr h with
          | none => rw [hst] at hx; cases hx
          | some t =>
            obtain ⟨ex1, fr1, h1⟩ := t
            rw [hst] at hx
            simp only [Option.some.injEq, Prod.mk.injEq] at hx
            obtain ⟨rfl, rfl, rfl⟩ := hx
            refine wp_seq (wp_mono (ihx _ _ _ hlx _ _ _ _ _ ν a w hst hr hf) ?_)
            rintro e a1 w1 hp
            cases ex1 with
            | normal => exact absurd hst (hne _ _)
            | exit id => obtain ⟨rfl, hrest⟩ := hp; exact ⟨rfl, hrest⟩
            | ret => obtain ⟨rfl, hrest⟩ := hp; exact ⟨rfl, hrest⟩
      · cases hc
    · cases hc
  | cond c x y ihx ihy =>
    intro ks ks' lc hc fr fr' h h' ex ν a w hx hr hf
    simp only [cCode] at hc
    split at hc
    · rename_i lcc lx ks1 hlc hlx
      split at hc
      · rename_i ly ks2 hly
        simp only [Option.some.injEq, Prod.mk.injEq] at hc
        obtain ⟨rfl, rfl⟩ := hc
        simp only [evC] at hx
        split at hx
        · rename_i hcv
          exact wp_cond_true (cLO_VR hf hlc hcv).bool_inv (ihx _ _ _ hlx _ _ _ _ _ ν a w hx hr hf)
        · rename_i hcv
          exact wp_cond_false (cLO_VR hf hlc hcv).bool_inv (ihy _ _ _ hly _ _ _ _ _ ν a w hx hr hf)
        · cases hx
      · cases hc
    · cases hc
  | block id x ih =>
    intro ks ks' lc hc fr fr' h h' ex ν a w hx hr hf
    simp only [cCode] at hc
    split at hc
    · rename_i lx ks1 hlx
      simp only [Option.some.injEq, Prod.mk.injEq] at hc
      obtain ⟨rfl, rfl⟩ := hc
      simp only [evC] at hx
      cases hst : evC q call fuel lx fr h with
      | none => rw [hst] at hx; cases hx
      | some t =>
        obtain ⟨ex1, fr1, h1⟩ := t
        rw [hst] at hx
        refine wp_block (wp_mono (ih _ _ _ hlx _ _ _ _ _ ν a w hst hr hf) ?_)
        rintro e a1 w1 ⟨rfl, hrest⟩
        cases ex1 with
        | normal =>
          simp only [Option.some.injEq, Prod.mk.injEq] at hx
          obtain ⟨rfl, rfl, rfl⟩ := hx
          exact ⟨rfl, hrest⟩
        | ret =>
          simp only [Option.some.injEq, Prod.mk.injEq] at hx
          obtain ⟨rfl, rfl, rfl⟩ := hx
          exact ⟨rfl, hrest⟩
        | exit j =>
          simp only at hx
          simp only [LEx.real, Exit.inBlock]
          split at hx
          · rename_i hj
            simp only [Option.some.injEq, Prod.mk.injEq] at hx
            obtain ⟨rfl, rfl, rfl⟩ := hx
            rw [if_pos hj]
            exact ⟨rfl, hrest⟩
          · rename_i hj
            simp only [Option.some.injEq, Prod.mk.injEq] at hx
            obtain ⟨rfl, rfl, rfl⟩ := hx
            rw [if_neg hj]
            exact ⟨rfl, hrest⟩
    · cases hc
  | loop x ih =>
    intro ks ks' lc hc fr fr' h h' ex ν a w hx hr hf
    simp only [cCode] at hc
    split at hc
    · rename_i lx ks1 hlx
      simp only [Option.some.injEq, Prod.mk.injEq] at hc
      obtain ⟨rfl, rfl⟩ := hc
      simp only [evC] at hx
      intro b kk cs
      obtain ⟨e, a1, w1, hp, harr⟩ := loop_wp (fun fr fr' h h' ex ν a w => ih _ _ _ hlx fr fr' h h' ex ν a w) fuel fr fr' h h' ex ν a w hx hr hf b kk cs
      exact ⟨e, a1, w1, hp, .of_steps (.one step_loop) harr⟩
    · cases hc
  | exit id =>
    intro ks ks' lc hc fr fr' h h' ex ν a w hx hr hf
    simp only [cCode, Option.some.injEq, Prod.mk.injEq] at hc
    obtain ⟨rfl, rfl⟩ := hc
    simp only [evC, Option.some.injEq, Prod.mk.injEq] at hx
    obtain ⟨rfl, rfl, rfl⟩ := hx
    exact wp_exit ⟨rfl, rfl, ν, hf, hr, Step.refl _ _ _⟩
  | ret =>
    intro ks ks' lc hc fr fr' h h' ex ν a w hx hr hf
    simp only [cCode, Option.some.injEq, Prod.mk.injEq] at hc
    obtain ⟨rfl, rfl⟩ := hc
    simp only [evC, Option.some.injEq, Prod.mk.injEq] at hx
    obtain ⟨rfl, rfl, rfl⟩ := hx
    exact wp_ret ⟨rfl, rfl, ν, hf, hr, Step.refl _ _ _⟩
  | _ => intro ks ks' lc hc; simp [cCode] at hc

/-! ### Functions -/

theorem params_FR {ν : Inj} : ∀ (l l' : List Value) (i : Nat), VRs ν l l' → ∀ t v, (params i l).get t = some v → ∃ v', i ≤ t ∧ l'[t - i]? = some v' ∧ VR ν v v'
  | [], l', i, h, t, v, ht => by simp [params, Fr.get] at ht
  | x :: l, l', i, h, t, v, ht => by
    obtain ⟨x', m, rfl, hx, hl⟩ := h.cons_inv
    simp only [params, Fr.get] at ht
    split at ht
    · rename_i e
      cases ht
      subst e
      exact ⟨x', Nat.le_refl _, by simp, hx⟩
    · obtain ⟨v', h1, h2, h3⟩ := params_FR l m (i + 1) hl t v ht
      exact ⟨v', by omega, by rw [show t - i = (t - (i + 1)) + 1 by omega]; simpa using h2, h3⟩

def resOf (tmps : Array Value) : ResultVar → Sem Value
  | .tmp t => pure (tmps.getD t undef)
  | .cell a t => do loadVar t (← asAddr (tmps.getD a undef))

theorem results_eq (f : Func) (tmps : Array Value) : results f tmps = (f.results.mapM (resOf tmps) >>= fun vs => pure (if h : vs.size = 1 then vs[0] else .tuple vs)) := rfl

theorem results_run {f : Func} {rs : List LRes} {ν : Inj} {fr : Fr} {h : LHeap} {w : World} {tmps : Array Value} {v : Value} (hrs : LOp.listM (cRes P) f.results.toList = some rs) (hfin : finish rs fr h = some v)
    (hr : HR ν h w) (hf : FR ν n fr tmps) : ∃ v', (results f tmps).run P w = .ok v' w ∧ VR ν v v' := by
  have one : ∀ (x : ResultVar) (r : LRes) (u : Value), cRes P x = some r → lres fr h r = some u → ∃ u', (resOf tmps x).run P w = .ok u' w ∧ VR ν u u' := by
    intro x r u hx hu
    cases x with
    | tmp t =>
      simp only [cRes, Option.some.injEq] at hx
      subst hx
      obtain ⟨v', h1, h2⟩ := hf.get t u hu
      exact ⟨v', by simp [resOf, h1], h2⟩
    | cell a t =>
      simp only [cRes] at hx
      split at hx
      · rename_i k hagg hk
        cases hx
        simp only [lres] at hu
        split at hu
        · rename_i b o ha
          obtain ⟨cs, hcs, hh⟩ := map_some hu
          cases hh
          obtain ⟨p, h1, h2⟩ := hf.get a _ ha
          obtain ⟨pl, hb, he⟩ := h2.ptr_inv
          subst he
          obtain ⟨hl, vs', hvr, hcell⟩ := hr.loadCells hcs hb
          have hlen : vs'.length = k := by rw [← hvr.1, hl]
          have hrun := run_loadCells_list (P := P) w ⟨pl.B, pl.base + o, none⟩ vs' (fun j x hj => by rw [add_plain]; exact hcell j x hj)
          refine ⟨.agg vs'.toArray, ?_, VRs.agg (by simpa using hvr)⟩
          simp [resOf, h1, asAddr, loadVar, run_isAgg hagg, run_sizeOf hk, ← hlen, hrun]
        · cases hu
      · rename_i k hagg hk
        cases hx
        simp only [lres] at hu
        split at hu
        · rename_i b o ha
          obtain ⟨p, h1, h2⟩ := hf.get a _ ha
          obtain ⟨pl, hb, he⟩ := h2.ptr_inv
          subst he
          obtain ⟨x', hcell, hvr⟩ := hr.load1 hu hb
          refine ⟨x', ?_, hvr⟩
          simp [resOf, h1, asAddr, loadVar, run_isAgg hagg, hcell]
        · cases hu
      · cases hx
  have many : ∀ (xs : List ResultVar) (rs : List LRes) (us : List Value), LOp.listM (cRes P) xs = some rs → LOp.listM (lres fr h) rs = some us → ∃ us', (xs.mapM (resOf tmps)).run P w = .ok us' w ∧ VRs ν us us' := by
    intro xs
    induction xs with
    | nil =>
      intro rs us h1 h2
      simp only [LOp.listM, Option.some.injEq] at h1
      subst h1
      simp only [LOp.listM, Option.some.injEq] at h2
      subst h2
      exact ⟨[], by simp, .nil ν⟩
    | cons x xs ih =>
      intro rs us h1 h2
      simp only [LOp.listM] at h1
      split at h1
      · rename_i r rs' hr1 hrs1
        simp only [Option.some.injEq] at h1
        subst h1
        simp only [LOp.listM] at h2
        split at h2
        · rename_i u us' hu hus
          simp only [Option.some.injEq] at h2
          subst h2
          obtain ⟨u', g1, g2⟩ := one x r u hr1 hu
          obtain ⟨us2, g3, g4⟩ := ih rs' us' hrs1 hus
          refine ⟨u' :: us2, ?_, .cons g2 g4⟩
          rw [List.mapM_cons]
          simp only [Sem.run_bind]
          rw [g1]
          simp only [Result.andThen_ok]
          rw [g3]
          simp
        · cases h2
      · cases h1
  unfold finish at hfin
  split at hfin
  · rename_i u hl
    cases hfin
    obtain ⟨us', g1, g2⟩ := many _ _ _ hrs hl
    obtain ⟨u', m, rfl, g3, g4⟩ := g2.cons_inv
    have := g4.nil_inv
    subst this
    refine ⟨u', ?_, g3⟩
    rw [results_eq, Array.mapM_eq_mapM_toList]
    simp only [Sem.run_bind, Sem.run_map, g1, Result.andThen_ok]
    rfl
  · rename_i us hne hl
    cases hfin
    obtain ⟨us', g1, g2⟩ := many _ _ _ hrs hl
    refine ⟨.tuple us'.toArray, ?_, VRs.tuple (by simpa using g2)⟩
    have hsz : us'.toArray.size ≠ 1 := by
      intro he
      simp only [List.size_toArray] at he
      rw [← g2.1] at he
      match us, he with
      | [u], _ => exact hne u rfl
    rw [results_eq, Array.mapM_eq_mapM_toList]
    simp only [Sem.run_bind, Sem.run_map, g1, Result.andThen_ok]
    rw [dif_neg hsz]
    rfl
  · cases hfin

/-- An environment that speaks of this program. -/
structure EnvOk (P : Program) (E : Env) : Prop where
  orders : P.follows .mixedOrders = true
  q : QOk P E.q
  code : ∀ f lf, E.code f = some lf → ∃ fn ks, P.funcs[f]? = some fn ∧ cFunc P fn ks = some lf
  prim : ∀ f p, E.prim f = some p → ∀ args h v h', p args h = some (v, h') → Sound P f args h v h'

theorem evF_sound {E : Env} (hE : EnvOk P E) : ∀ k, CallOk P (evF E k) := by
  intro k
  induction k with
  | zero => intro f args h v h' hx; simp [evF] at hx
  | succ k ih =>
    intro f args h v h' hx
    simp only [evF] at hx
    split at hx
    · rename_i p hp
      exact hE.prim f p hp args h v h' hx
    · split at hx
      · rename_i lf hlf
        obtain ⟨fn, ks, hfn, hcf⟩ := hE.code f lf hlf
        unfold cFunc at hcf
        split at hcf
        · cases hcf
        · rename_i c hbody
          split at hcf
          · rename_i lc rs hlc hrs
            split at hcf
            · cases hcf
            · rename_i hname
              cases hcf
              refine ⟨⟨fn, hfn, hname, by simp [hbody]⟩, ?_⟩
              intro ν w args' hr hargs
              have main : args.length ≤ fn.ntmps → ∀ (ex : LEx) (fr : Fr) (h2 : LHeap), evC E.q (evF E k) k lc (params 0 args) h = some (ex, fr, h2) → (ex = .normal ∨ ex = .ret) → (finish rs fr h2).map (·, h2) = some (v, h') →
                  Calls P f args' w fun e w' => ∃ ν' v', e = .returned v' ∧ VR ν' v v' ∧ HR ν' h' w' ∧ Step ν h w ν' h' w' := by
                intro hle ex fr h2 hev hex hfin
                obtain ⟨u, hu, hh⟩ := map_some hfin
                cases hh
                refine calls_of_wp hfn hbody ?_
                have hsz : args'.size ≤ fn.ntmps := by have := hargs.1; simp at this; omega
                · have hf0 : FR ν fn.ntmps (params 0 args) (args' ++ Array.replicate (fn.ntmps - args'.size) undef) := by
                    refine ⟨by simp; omega, ?_⟩
                    intro t v ht
                    obtain ⟨v', _, h2, h3⟩ := params_FR args args'.toList 0 hargs t v ht
                    refine ⟨v', ?_, h3⟩
                    have h2' : args'[t]? = some v' := by simpa using h2
                    have hlt : t < args'.size := by
                      rcases Nat.lt_or_ge t args'.size with q | q
                      · exact q
                      · rw [Array.getElem?_eq_none q] at h2'; cases h2'
                    rw [Array.getElem?_append_left hlt]
                    exact h2'
                  refine wp_mono (evC_wp hE.orders hE.q ih k c ks [] lc hlc _ _ _ _ _ ν { tmps := args' ++ Array.replicate (fn.ntmps - args'.size) undef, defers := [] } w hev hr hf0) ?_
                  rintro e a1 w1 ⟨he, hd, ν1, hf1, hr1, hs1⟩
                  obtain ⟨v', hv1, hv2⟩ := results_run hrs hu hr1 hf1
                  rcases hex with rfl | rfl
                  · subst he
                    exact ⟨hd, v', hv1, ν1, v', rfl, hv2, hr1, hs1⟩
                  · subst he
                    exact ⟨hd, v', hv1, ν1, v', rfl, hv2, hr1, hs1⟩
              split at hx
              case isFalse => cases hx
              rename_i hle
              split at hx
              · rename_i fr h2 hev; exact main hle _ _ _ hev (.inl rfl) hx
              · rename_i fr h2 hev; exact main hle _ _ _ hev (.inr rfl) hx
              · cases hx
          · cases hcf
      · cases hx

end
end Go.E1
