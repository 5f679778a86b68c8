/-
  Texts joined: E1Wp, E1Eq, E1Top, E1Plain, E1Sim, E1Wpd.
-/
import Derived.Test.YtmafdmpmilhnfaaGreatDoorKc
import Derived.Laws.StructEq
import Derived.ChangeKeysEq
import Derived.Below
import Derived.IntWalk
/-
 Weakest conditions over the engine's evaluator: what a function answers, shown rule by rule.
-/
namespace Go.E1
open Go

/-- With enough fuel, the call answers so. -/
def LCalls (E : Env) (f : FuncId) (args : List Value) (h : LHeap) (Q : Value → LHeap → Prop) : Prop :=
 ∃ k₀ v h', (∀ k, k₀ ≤ k → evF E k f args h = some (v, h')) ∧ Q v h'

def bnd {α : Type} (x : Option α) (f : α → Prop) : Prop :=
 match x with
 | some a => f a
 | none => False

@[simp] theorem bnd_some {α : Type} (a : α) (f : α → Prop) : bnd (some a) f = f a := rfl
@[simp] theorem bnd_none {α : Type} (f : α → Prop) : bnd (none : Option α) f = False := rfl
theorem bnd_iff {α : Type} {x : Option α} {f : α → Prop} : bnd x f ↔ ∃ a, x = some a ∧ f a := by
 cases x <;> simp [bnd]
@[simp] theorem bnd_ite {α : Type} (c : Prop) [Decidable c] (x y : Option α) (f : α → Prop) : bnd (if c then x else y) f = ((c → bnd x f) ∧ (¬ c → bnd y f)) := by
 by_cases h : c <;> simp [h]
@[simp] theorem bnd_map {α β : Type} (x : Option α) (g : α → β) (f : β → Prop) : bnd (x.map g) f = bnd x (fun a => f (g a)) := by
 cases x <;> rfl

/-- By a truth value. -/
def onB (v : Value) (a b : Prop) : Prop :=
 match v with
 | .bool c => (c = true → a) ∧ (c = false → b)
 | _ => False
@[simp] theorem onB_bool (c : Bool) (a b : Prop) : onB (.bool c) a b = ((c = true → a) ∧ (c = false → b)) := rfl

def onF (v : Value) (f : FuncId → Array Value → Prop) : Prop :=
 match v with
 | .func (.func g) first cap => first.size = 0 ∧ f g cap
 | _ => False
@[simp] theorem onF_func (g : FuncId) (first cap : Array Value) (f : FuncId → Array Value → Prop) : onF (.func (.func g) first cap) f = (first.size = 0 ∧ f g cap) := rfl

def LAct.wp (E : Env) (a : LAct) (fr : Fr) (h : LHeap) (K : Value → LHeap → Prop) : Prop :=
 match a with
 | .op o => bnd (o.sub fr.rd) fun lv => bnd (lexec E.q lv h) fun p => K p.1 p.2
 | .pick c a b => bnd (fr.rd c) fun v => onB v (bnd (fr.rd a) fun x => K x h) (bnd (fr.rd b) fun x => K x h)
 | .call f args => bnd (fr.rd f) fun v => bnd (LOp.listM fr.rd args) fun vs => onF v fun g cap => LCalls E g (vs ++ cap.toList) h K
 | .ncall g args => bnd (LOp.listM fr.rd args) fun vs => plains vs = true ∧ LCalls E g vs LHeap.empty fun v _ => plain v = true ∧ K v h

def LOps (E : Env) : List LOper → Fr → LHeap → (Fr → LHeap → Prop) → Prop
 | [], fr, h, K => K fr h
 | ⟨d, a, none⟩ :: r, fr, h, K => a.wp E fr h fun v h' => LOps E r (fr.put d v) h' K
 | ⟨d, a, some (t, want)⟩ :: r, fr, h, K => bnd (fr.get t) fun b => match want with
  | true => onB (undefB true b) (a.wp E fr h fun v h' => LOps E r (fr.put d v) h' K) (LOps E r (fr.put d undefL) h K)
  | false => onB (undefB false b) (LOps E r (fr.put d undefL) h K) (a.wp E fr h fun v h' => LOps E r (fr.put d v) h' K)

/-- Enough fuel, and then always the same. -/
def LRun (E : Env) (c : LCode) (fr : Fr) (h : LHeap) (K : LEx → Fr → LHeap → Prop) : Prop :=
 ∃ k₀ x fr' h', (∀ k, k₀ ≤ k → evC E.q (evF E k) k c fr h = some (x, fr', h')) ∧ K x fr' h'

def onX (x : LEx) (a : Prop) (b : Nat → Prop) (c : Prop) : Prop :=
 match x with
 | .normal => a
 | .exit j => b j
 | .ret => c
@[simp] theorem onX_normal (a : Prop) (b : Nat → Prop) (c : Prop) : onX .normal a b c = a := rfl
@[simp] theorem onX_exit (j : Nat) (a : Prop) (b : Nat → Prop) (c : Prop) : onX (.exit j) a b c = b j := rfl
@[simp] theorem onX_ret (a : Prop) (b : Nat → Prop) (c : Prop) : onX .ret a b c = c := rfl

def LC (E : Env) : LCode → Fr → LHeap → (LEx → Fr → LHeap → Prop) → Prop
 | .skip, fr, h, K => K .normal fr h
 | .region ops ks, fr, h, K => LOps E ops fr h fun fr' h' => K .normal (fr'.keep ks) h'
 | .dregion ops ks, fr, h, K => LRun E (.dregion ops ks) fr h K
 | .seq a b, fr, h, K => LC E a fr h fun x fr' h' => onX x (LC E b fr' h' K) (fun j => K (.exit j) fr' h') (K .ret fr' h')
 | .cond c a b, fr, h, K => bnd (fr.rd c) fun v => onB v (LC E a fr h K) (LC E b fr h K)
 | .block id a, fr, h, K => LC E a fr h fun x fr' h' => onX x (K .normal fr' h') (fun j => if j = id then K .normal fr' h' else K (.exit j) fr' h') (K .ret fr' h')
 | .loop a, fr, h, K => LRun E (.loop a) fr h K
 | .exit id, fr, h, K => K (.exit id) fr h
 | .ret, fr, h, K => K .ret fr h
 | .bad, _, _, _ => False

/-! ### They hold of the evaluator -/

theorem LCalls.mono {E : Env} {f : FuncId} {args : List Value} {h : LHeap} {Q R : Value → LHeap → Prop} (a : LCalls E f args h Q) (k : ∀ v h', Q v h' → R v h') : LCalls E f args h R :=
 let ⟨n, v, h', p, q⟩ := a; ⟨n, v, h', p, k v h' q⟩

theorem LAct.wp_run {E : Env} {a : LAct} {fr : Fr} {h : LHeap} {K : Value → LHeap → Prop} (w : a.wp E fr h K) :
  ∃ k₀ v h', (∀ k, k₀ ≤ k → lact E.q (evF E k) a fr h = some (v, h')) ∧ K v h' := by
 cases a with
 | op o =>
  simp only [LAct.wp, bnd_iff] at w
  obtain ⟨lv, h1, ⟨v, h'⟩, h2, h3⟩ := w
  exact ⟨0, v, h', fun k _ => by simp [lact, h1, h2], h3⟩
 | pick c x y =>
  simp only [LAct.wp, bnd_iff] at w
  obtain ⟨v, h1, h2⟩ := w
  cases v with
  | bool b =>
   rw [onB_bool] at h2
   cases b with
   | true =>
    obtain ⟨u, h3, h4⟩ := h2.1 rfl
    exact ⟨0, u, h, fun k _ => by simp [lact, h1, h3], h4⟩
   | false =>
    obtain ⟨u, h3, h4⟩ := h2.2 rfl
    exact ⟨0, u, h, fun k _ => by simp [lact, h1, h3], h4⟩
  | _ => simp [onB] at h2
 | call f args =>
  simp only [LAct.wp, bnd_iff] at w
  obtain ⟨v, h1, vs, h2, h3⟩ := w
  unfold onF at h3
  split at h3
  ·rename_i g first cap
   obtain ⟨h4, k₀, u, h', h5, h6⟩ := h3
   exact ⟨k₀, u, h', fun k hk => by simp [lact, h1, h2, h4, h5 k hk], h6⟩
  ·exact h3.elim
 | ncall g args =>
  simp only [LAct.wp, bnd_iff] at w
  obtain ⟨vs, h1, h2, k₀, v, h', h3, h4, h5⟩ := w
  exact ⟨k₀, v, h, fun k hk => by simp [lact, h1, h2, h4, h3 k hk], h5⟩

theorem LOps.run {E : Env} : ∀ (ops : List LOper) {fr : Fr} {h : LHeap} {K : Fr → LHeap → Prop}, LOps E ops fr h K →
  ∃ k₀ fr' h', (∀ k, k₀ ≤ k → lops E.q (evF E k) ops fr h = some (fr', h')) ∧ K fr' h'
 | [], fr, h, K, w => ⟨0, fr, h, fun _ _ => rfl, w⟩
 | ⟨d, a, g⟩ :: r, fr, h, K, w => by
  have one : (a.wp E fr h fun v h' => LOps E r (fr.put d v) h' K) → (LOper.wanted ⟨d, a, g⟩ fr = some true) →
    ∃ k₀ fr' h', (∀ k, k₀ ≤ k → lops E.q (evF E k) (⟨d, a, g⟩ :: r) fr h = some (fr', h')) ∧ K fr' h' := by
   intro w hw
   obtain ⟨k₁, v, h1, h2, h3⟩ := LAct.wp_run w
   obtain ⟨k₂, fr', h', h4, h5⟩ := LOps.run r h3
   refine ⟨max k₁ k₂, fr', h', fun k hk => ?_, h5⟩
   simp only [lops, loper, hw, h2 k (by omega), h4 k (by omega)]
  have two : LOps E r (fr.put d undefL) h K → (LOper.wanted ⟨d, a, g⟩ fr = some false) →
    ∃ k₀ fr' h', (∀ k, k₀ ≤ k → lops E.q (evF E k) (⟨d, a, g⟩ :: r) fr h = some (fr', h')) ∧ K fr' h' := by
   intro w hw
   obtain ⟨k₂, fr', h', h4, h5⟩ := LOps.run r w
   refine ⟨k₂, fr', h', fun k hk => ?_, h5⟩
   simp only [lops, loper, hw, h4 k hk]
  cases g with
  | none => exact one w rfl
  | some g =>
   obtain ⟨t, want⟩ := g
   obtain ⟨b, hb, w⟩ := bnd_iff.1 w
   cases want
   ·simp only at w
    generalize hu : undefB false b = u at w
    cases u with
    | bool b =>
     cases b
     ·exact one (w.2 rfl) (by simp [LOper.wanted, hb, hu])
     ·exact two (w.1 rfl) (by simp [LOper.wanted, hb, hu])
    | _ => simp [onB] at w
   ·simp only at w
    generalize hu : undefB true b = u at w
    cases u with
    | bool b =>
     cases b
     ·exact two (w.2 rfl) (by simp [LOper.wanted, hb, hu])
     ·exact one (w.1 rfl) (by simp [LOper.wanted, hb, hu])
    | _ => simp [onB] at w

theorem LC.run {E : Env} : ∀ (c : LCode) {fr : Fr} {h : LHeap} {K : LEx → Fr → LHeap → Prop}, LC E c fr h K → LRun E c fr h K
 | .skip, fr, h, K, w => ⟨0, .normal, fr, h, fun _ _ => rfl, w⟩
 | .exit id, fr, h, K, w => ⟨0, .exit id, fr, h, fun _ _ => rfl, w⟩
 | .ret, fr, h, K, w => ⟨0, .ret, fr, h, fun _ _ => rfl, w⟩
 | .bad, _, _, _, w => w.elim
 | .dregion ops ks, fr, h, K, w => w
 | .loop a, fr, h, K, w => w
 | .region ops ks, fr, h, K, w => by
  obtain ⟨k₀, fr', h', h1, h2⟩ := LOps.run ops w
  exact ⟨k₀, .normal, fr'.keep ks, h', fun k hk => by simp [evC, h1 k hk], h2⟩
 | .seq a b, fr, h, K, w => by
  obtain ⟨k₁, x, fr₁, h₁, h1, h2⟩ := LC.run a w
  cases x with
  | normal =>
   obtain ⟨k₂, x, fr₂, h₂, h3, h4⟩ := LC.run b h2
   exact ⟨max k₁ k₂, x, fr₂, h₂, fun k hk => by simp only [evC, h1 k (by omega), h3 k (by omega)], h4⟩
  | exit j => exact ⟨k₁, .exit j, fr₁, h₁, fun k hk => by simp only [evC, h1 k hk], h2⟩
  | ret => exact ⟨k₁, .ret, fr₁, h₁, fun k hk => by simp only [evC, h1 k hk], h2⟩
 | .cond c a b, fr, h, K, w => by
  obtain ⟨v, hv, w⟩ := bnd_iff.1 w
  cases v with
  | bool v =>
   cases v
   ·obtain ⟨k₁, x, fr₁, h₁, h1, h2⟩ := LC.run b (w.2 rfl)
    exact ⟨k₁, x, fr₁, h₁, fun k hk => by simp only [evC, hv, h1 k hk], h2⟩
   ·obtain ⟨k₁, x, fr₁, h₁, h1, h2⟩ := LC.run a (w.1 rfl)
    exact ⟨k₁, x, fr₁, h₁, fun k hk => by simp only [evC, hv, h1 k hk], h2⟩
  | _ => simp [onB] at w
 | .block id a, fr, h, K, w => by
  obtain ⟨k₁, x, fr₁, h₁, h1, h2⟩ := LC.run a w
  cases x with
  | normal => exact ⟨k₁, .normal, fr₁, h₁, fun k hk => by simp only [evC, h1 k hk], h2⟩
  | ret => exact ⟨k₁, .ret, fr₁, h₁, fun k hk => by simp only [evC, h1 k hk], h2⟩
  | exit j =>
   rw [onX_exit] at h2
   by_cases e : j = id
   ·rw [if_pos e] at h2
    exact ⟨k₁, .normal, fr₁, h₁, fun k hk => by simp only [evC, h1 k hk, e, if_true], h2⟩
   ·rw [if_neg e] at h2
    exact ⟨k₁, .exit j, fr₁, h₁, fun k hk => by simp only [evC, h1 k hk, e, if_false], h2⟩

/-- A loop, by what holds ahead of each turn, with a number that falls. -/
theorem LC.loop {E : Env} {a : LCode} {fr : Fr} {h : LHeap} {K : LEx → Fr → LHeap → Prop} (I : Nat → Fr → LHeap → Prop) (n : Nat) (start : I n fr h)
  (step : ∀ n fr h, I n fr h → LC E a fr h fun x fr' h' => onX x (∃ m, m < n ∧ I m fr' h') (fun j => K (.exit j) fr' h') (K .ret fr' h')) :
  LC E (.loop a) fr h K := by
 have main : ∀ n fr h, I n fr h → ∃ k₀ m₀ x fr' h', (∀ k, k₀ ≤ k → ∀ m, m₀ ≤ m → loopN (evC E.q (evF E k) k a) m fr h = some (x, fr', h')) ∧ K x fr' h' := by
  intro n
  induction n using Nat.strongRecOn with
  | ind n ih =>
   intro fr h hI
   obtain ⟨k₁, x, fr₁, h₁, h1, h2⟩ := LC.run a (step n fr h hI)
   cases x with
   | normal =>
    obtain ⟨m, hm, hI'⟩ := h2
    obtain ⟨k₂, m₂, x, fr₂, h₂, h3, h4⟩ := ih m hm fr₁ h₁ hI'
    refine ⟨max k₁ k₂, m₂ + 1, x, fr₂, h₂, fun k hk m hm => ?_, h4⟩
    obtain ⟨m, rfl⟩ : ∃ m', m = m' + 1 := ⟨m - 1, by omega⟩
    simp only [loopN, h1 k (by omega)]
    exact h3 k (by omega) m (by omega)
   | exit j =>
    refine ⟨k₁, 1, .exit j, fr₁, h₁, fun k hk m hm => ?_, h2⟩
    obtain ⟨m, rfl⟩ : ∃ m', m = m' + 1 := ⟨m - 1, by omega⟩
    simp only [loopN, h1 k (by omega)]
   | ret =>
    refine ⟨k₁, 1, .ret, fr₁, h₁, fun k hk m hm => ?_, h2⟩
    obtain ⟨m, rfl⟩ : ∃ m', m = m' + 1 := ⟨m - 1, by omega⟩
    simp only [loopN, h1 k (by omega)]
 obtain ⟨k₀, m₀, x, fr', h', h1, h2⟩ := main n fr h start
 exact ⟨max k₀ m₀, x, fr', h', fun k hk => by simpa only [evC] using h1 k (by omega) k (by omega), h2⟩

/-- Weaker. -/
theorem LRun.mono {E : Env} {c : LCode} {fr : Fr} {h : LHeap} {K L : LEx → Fr → LHeap → Prop} (a : LRun E c fr h K) (k : ∀ x fr' h', K x fr' h' → L x fr' h') : LRun E c fr h L :=
 let ⟨n, x, fr', h', p, q⟩ := a; ⟨n, x, fr', h', p, k x fr' h' q⟩
theorem LAct.wp_mono {E : Env} {a : LAct} {fr : Fr} {h : LHeap} {K L : Value → LHeap → Prop} (w : a.wp E fr h K) (k : ∀ v h', K v h' → L v h') : a.wp E fr h L := by
 cases a with
 | op o =>
  simp only [LAct.wp, bnd_iff] at w ⊢
  obtain ⟨lv, h1, p, h2, h3⟩ := w
  exact ⟨lv, h1, p, h2, k _ _ h3⟩
 | pick c x y =>
  simp only [LAct.wp, bnd_iff] at w ⊢
  obtain ⟨v, h1, h2⟩ := w
  refine ⟨v, h1, ?_⟩
  cases v with
  | bool b => exact ⟨fun e => let ⟨u, p, q⟩ := h2.1 e; ⟨u, p, k _ _ q⟩, fun e => let ⟨u, p, q⟩ := h2.2 e; ⟨u, p, k _ _ q⟩⟩
  | _ => simp [onB] at h2
 | call f args =>
  simp only [LAct.wp, bnd_iff] at w ⊢
  obtain ⟨v, h1, vs, h2, h3⟩ := w
  refine ⟨v, h1, vs, h2, ?_⟩
  unfold onF at h3 ⊢
  split at h3
  ·exact ⟨h3.1, h3.2.mono k⟩
  ·exact h3.elim
 | ncall g args =>
  simp only [LAct.wp, bnd_iff] at w ⊢
  obtain ⟨vs, h1, h2, h3⟩ := w
  exact ⟨vs, h1, h2, h3.mono fun v h' q => ⟨q.1, k _ _ q.2⟩⟩
theorem LOps.mono {E : Env} : ∀ (ops : List LOper) {fr : Fr} {h : LHeap} {K L : Fr → LHeap → Prop}, LOps E ops fr h K → (∀ fr' h', K fr' h' → L fr' h') → LOps E ops fr h L
 | [], fr, h, K, L, w, k => k _ _ w
 | ⟨d, a, none⟩ :: r, fr, h, K, L, w, k => LAct.wp_mono w fun v h' w => LOps.mono r w k
 | ⟨d, a, some (t, want)⟩ :: r, fr, h, K, L, w, k => by
  obtain ⟨b, hb, w⟩ := bnd_iff.1 w
  refine bnd_iff.2 ⟨b, hb, ?_⟩
  cases want
  ·simp only at w ⊢
   generalize undefB false b = u at w
   cases u with
   | bool b => exact ⟨fun e => LOps.mono r (w.1 e) k, fun e => LAct.wp_mono (w.2 e) fun v h' w => LOps.mono r w k⟩
   | _ => simp [onB] at w
  ·simp only at w ⊢
   generalize undefB true b = u at w
   cases u with
   | bool b => exact ⟨fun e => LAct.wp_mono (w.1 e) fun v h' w => LOps.mono r w k, fun e => LOps.mono r (w.2 e) k⟩
   | _ => simp [onB] at w
theorem LC.mono {E : Env} : ∀ (c : LCode) {fr : Fr} {h : LHeap} {K L : LEx → Fr → LHeap → Prop}, LC E c fr h K → (∀ x fr' h', K x fr' h' → L x fr' h') → LC E c fr h L
 | .skip, fr, h, K, L, w, k => k _ _ _ w
 | .exit id, fr, h, K, L, w, k => k _ _ _ w
 | .ret, fr, h, K, L, w, k => k _ _ _ w
 | .bad, _, _, _, _, w, _ => w.elim
 | .dregion ops ks, fr, h, K, L, w, k => LRun.mono w k
 | .loop a, fr, h, K, L, w, k => LRun.mono w k
 | .region ops ks, fr, h, K, L, w, k => LOps.mono ops w fun fr' h' => k _ _ _
 | .seq a b, fr, h, K, L, w, k => LC.mono a w fun x fr' h' w => by
  cases x
  ·exact LC.mono b w k
  ·exact k _ _ _ w
  ·exact k _ _ _ w
 | .cond c a b, fr, h, K, L, w, k => by
  obtain ⟨v, hv, w⟩ := bnd_iff.1 w
  refine bnd_iff.2 ⟨v, hv, ?_⟩
  cases v with
  | bool v => exact ⟨fun e => LC.mono a (w.1 e) k, fun e => LC.mono b (w.2 e) k⟩
  | _ => simp [onB] at w
 | .block id a, fr, h, K, L, w, k => LC.mono a w fun x fr' h' w => by
  cases x
  ·exact k _ _ _ w
  ·rw [onX_exit] at w ⊢
   split
   ·rename_i e; rw [if_pos e] at w; exact k _ _ _ w
   ·rename_i e; rw [if_neg e] at w; exact k _ _ _ w
  ·exact k _ _ _ w

/-- A function by its code. -/
theorem LCalls.code {E : Env} {f : FuncId} {lf : LFunc} {args : List Value} {h : LHeap} {Q : Value → LHeap → Prop} (hp : E.prim f = none) (hc : E.code f = some lf) (hl : args.length ≤ lf.ntmps)
  (w : LC E lf.body (params 0 args) h fun x fr h' => onX x (bnd (finish lf.results fr h') fun v => Q v h') (fun _ => False) (bnd (finish lf.results fr h') fun v => Q v h')) : LCalls E f args h Q := by
 obtain ⟨k₀, x, fr', h', h1, h2⟩ := LC.run _ w
 have key : ∀ v, finish lf.results fr' h' = some v → Q v h' → (x = .normal ∨ x = .ret) → LCalls E f args h Q := by
  intro v hv hQ hx
  refine ⟨k₀ + 1, v, h', fun k hk => ?_, hQ⟩
  obtain ⟨k, rfl⟩ : ∃ m, k = m + 1 := ⟨k - 1, by omega⟩
  simp only [evF, hp, hc, hl, if_true, h1 k (by omega)]
  rcases hx with rfl | rfl <;> simp [hv]
 cases x with
 | normal => obtain ⟨v, a, b⟩ := bnd_iff.1 h2; exact key v a b (.inl rfl)
 | exit j => exact h2.elim
 | ret => obtain ⟨v, a, b⟩ := bnd_iff.1 h2; exact key v a b (.inr rfl)

theorem LCalls.prim {E : Env} {f : FuncId} {p : List Value → LHeap → Option (Value × LHeap)} {args : List Value} {h h' : LHeap} {v : Value} {Q : Value → LHeap → Prop} (hp : E.prim f = some p) (hx : p args h = some (v, h')) (q : Q v h') : LCalls E f args h Q :=
 ⟨1, v, h', fun k hk => by obtain ⟨k, rfl⟩ : ∃ m, k = m + 1 := ⟨k - 1, by omega⟩; simp [evF, hp, hx], q⟩

/-- And so of the program. -/
theorem LCalls.sound {P : Program} {E : Env} (hE : EnvOk P E) {f : FuncId} {args : List Value} {h : LHeap} {Q : Value → LHeap → Prop} (a : LCalls E f args h Q) : ∃ v h', Sound P f args h v h' ∧ Q v h' :=
 let ⟨k, v, h', p, q⟩ := a; ⟨v, h', evF_sound hE k f args h v h' (p k (Nat.le_refl k)), q⟩

/-! ### Heaps that only grew -/

structure Ext (h h' : LHeap) : Prop where
 size : h.size ≤ h'.size
 get : ∀ b, b < h.size → h'.get b = h.get b

theorem Ext.refl (h : LHeap) : Ext h h := ⟨Nat.le_refl _, fun _ _ => rfl⟩
theorem Ext.trans {a b c : LHeap} (x : Ext a b) (y : Ext b c) : Ext a c := ⟨Nat.le_trans x.size y.size, fun i hi => by rw [y.get i (Nat.lt_of_lt_of_le hi x.size), x.get i hi]⟩
theorem Ext.push (h : LHeap) (o : LObj) : Ext h (h.push o) := ⟨Nat.le_succ _, fun b hb => by simp [Nat.ne_of_lt hb]⟩
theorem Ext.set {h h' : LHeap} (x : Ext h h') {b : Nat} (hb : h.size ≤ b) (o : LObj) : Ext h (h'.set b o) := by
 refine ⟨x.size, fun c hc => ?_⟩
 have : c ≠ b := by omega
 simp [this, x.get c hc]
theorem Ext.pushed {h h' : LHeap} (x : Ext h h') (o : LObj) : Ext h (h'.push o) := x.trans (Ext.push h' o)

end Go.E1

/-
 Equality of structs and arrays whose cells are truth values, numbers and strings.
-/
namespace Go.E1
open Go

inductive Leaf where
 | bool | int | str
 deriving DecidableEq

def leafEq : Leaf → Value → Value → Option Bool
 | .bool, .bool a, .bool b => some (a == b)
 | .int, .int k a, .int l b => if k = l then some (a == b) else none
 | .str, .string a, .string b => some (a.data.toList == b.data.toList)
 | _, _, _ => none

def cellsEq : List Leaf → List Value → List Value → Option Bool
 | [], _, _ => some true
 | l :: ls, x :: xs, y :: ys => match leafEq l x y, cellsEq ls xs ys with
  | some a, some b => some (a && b)
  | _, _ => none
 | _, _, _ => none

theorem cellsEq_append : ∀ {L M : List Leaf} {xs ys : List Value} {b : Bool}, cellsEq (L ++ M) xs ys = some b →
  ∃ p q, cellsEq L (xs.take L.length) (ys.take L.length) = some p ∧ cellsEq M (xs.drop L.length) (ys.drop L.length) = some q ∧ b = (p && q)
 | [], M, xs, ys, b, h => ⟨true, b, by simp [cellsEq], by simpa using h, by simp⟩
 | l :: L, M, xs, ys, b, h => by
  cases xs with
  | nil => simp [cellsEq] at h
  | cons x xs =>
   cases ys with
   | nil => simp [cellsEq] at h
   | cons y ys =>
    simp only [List.cons_append, cellsEq] at h
    split at h
    ·rename_i p q h1 h2
     cases h
     obtain ⟨p', q', h3, h4, rfl⟩ := cellsEq_append h2
     exact ⟨p && p', q', by simp [cellsEq, h1, h3], by simpa using h4, by simp [Bool.and_assoc]⟩
    ·cases h

section
variable (P : Program)
mutual
def flatT : Nat → TypeId → Option (List Leaf)
 | 0, _ => none
 | d + 1, t => match P.underlying t with
  | some .bool => some [.bool]
  | some (.int _) => some [.int]
  | some .string => some [.str]
  | some (.struct fs) => if P.stoodInHeld t then none else flatFs d 0 fs.toList
  | some (.array n e) => match flatT d e, P.info? e with
   | some L, some i => if i.size = L.length ∧ L.length ≠ 0 then some (List.replicate n L).flatten else none
   | _, _ => none
  | _ => none
def flatFs : Nat → Nat → List Field → Option (List Leaf)
 | 0, _, _ => none
 | _ + 1, _, [] => some []
 | d + 1, off, f :: fs => if f.name ≠ "_" ∧ f.offset = off then
   match flatT d f.type, P.info? f.type with
   | some L, some i => if i.size = L.length ∧ L.length ≠ 0 then (flatFs d (off + L.length) fs).map (L ++ ·) else none
   | _, _ => none
  else none
end
end

def Formed (P : Program) (t : TypeId) (x : Value) : Prop :=
 (∃ a, x = .agg a ∧ isAggP P t = some true) ∨ (isAggP P t = some false ∧ x.cells = #[x])

variable {P : Program}

theorem leafAgg {t : TypeId} {d : TypeDesc} (hu : P.underlying t = some d) (h : d = .bool ∨ (∃ k, d = .int k) ∨ d = .string) : isAggP P t = some false := by
 rcases h with rfl | ⟨k, rfl⟩ | rfl <;> simp [isAggP, hu]

/-- A part of an aggregate, and its cells. -/
theorem part_formed {t : TypeId} {d : Nat} {L : List Leaf} (hf : flatT P d t = some L) {i : TypeInfo} (hi : P.info? t = some i) (hsz : i.size = L.length) {xs : Array Value} {off : Nat} (w : World) (hlen : off + L.length ≤ xs.size) :
  ∃ v, (part t xs off).run P w = .ok v w ∧ Formed P t v ∧ v.cells.toList = (xs.toList.drop off).take L.length ∨ (∃ x, xs[off]? = some x ∧ isAggP P t = some false ∧ L.length = 1 ∧ (part t xs off).run P w = .ok x w) := by
 cases d with
 | zero => simp [flatT] at hf
 | succ d =>
  have leaf : ∀ l, isAggP P t = some false → L = [l] → ∃ x, xs[off]? = some x ∧ isAggP P t = some false ∧ L.length = 1 ∧ (part t xs off).run P w = .ok x w := by
   intro l ha hL
   subst hL
   simp only [List.length_singleton] at hlen
   exact ⟨xs[off], by simp [show off < xs.size by omega], ha, rfl, run_part1 ha (by simp [show off < xs.size by omega]) w⟩
  have agg : isAggP P t = some true → ∃ v, (part t xs off).run P w = .ok v w ∧ Formed P t v ∧ v.cells.toList = (xs.toList.drop off).take L.length := by
   intro ha
   refine ⟨_, run_partN ha (n := L.length) (by simp [sizeP, hi, hsz]) w, .inl ⟨_, rfl, ha⟩, ?_⟩
   simp [Value.cells, Array.toList_extract, List.extract]
  unfold flatT at hf
  split at hf
  ·rename_i hu; cases hf; exact ⟨.bool true, .inr (leaf _ (leafAgg hu (.inl rfl)) rfl)⟩
  ·rename_i hu; cases hf; exact ⟨.bool true, .inr (leaf _ (leafAgg hu (.inr (.inl ⟨_, rfl⟩))) rfl)⟩
  ·rename_i hu; cases hf; exact ⟨.bool true, .inr (leaf _ (leafAgg hu (.inr (.inr rfl))) rfl)⟩
  ·rename_i hu; obtain ⟨v, hv⟩ := agg (by simp [isAggP, hu]); exact ⟨v, .inl hv⟩
  ·rename_i hu; obtain ⟨v, hv⟩ := agg (by simp [isAggP, hu]); exact ⟨v, .inl hv⟩
  ·cases hf

/-- What is shown of a type: its values are equal just if their cells are. -/
def EqAll (P : Program) (D : Nat) (t : TypeId) (L : List Leaf) : Prop :=
 (isAggP P t = some true → ∀ xs ys b w, cellsEq L xs.toList ys.toList = some b → (Op.equalIn D t (.agg xs) (.agg ys)).run P w = .ok b w) ∧
 (isAggP P t = some false → ∀ x y b w, cellsEq L [x] [y] = some b → (Op.equalIn D t x y).run P w = .ok b w)

theorem take_cells {L : List Leaf} {xs ys : List Value} {b : Bool} (h : cellsEq L xs ys = some b) : L.length ≤ xs.length ∧ L.length ≤ ys.length := by
 induction L generalizing xs ys b with
 | nil => simp
 | cons l L ih =>
  cases xs with
  | nil => simp [cellsEq] at h
  | cons x xs =>
   cases ys with
   | nil => simp [cellsEq] at h
   | cons y ys =>
    simp only [cellsEq] at h
    split at h
    ·rename_i h2
     have := ih h2
     simp; omega
    ·cases h

/-- One part on both sides. -/
theorem part_eq {D d off : Nat} {t : TypeId} {L : List Leaf} (hE : EqAll P D t L) (hf : flatT P d t = some L) {i : TypeInfo} (hi : P.info? t = some i) (hsz : i.size = L.length) {xs ys : Array Value} {p : Bool}
  (hp : cellsEq L ((xs.toList.drop off).take L.length) ((ys.toList.drop off).take L.length) = some p) (hx : off + L.length ≤ xs.size) (hy : off + L.length ≤ ys.size) (w : World) :
  ∃ a b, (part t xs off).run P w = .ok a w ∧ (part t ys off).run P w = .ok b w ∧ (Op.equalIn D t a b).run P w = .ok p w := by
 cases hagg : isAggP P t with
 | none =>
  obtain ⟨v, h | ⟨x, _, h, _⟩⟩ := part_formed hf hi hsz (xs := xs) w hx
  ·rcases h.2.1 with ⟨a, _, h⟩ | ⟨h, _⟩ <;> simp [hagg] at h
  ·simp [hagg] at h
 | some g =>
  cases g
  ·obtain ⟨v, h | ⟨x, h1, _, h3, h4⟩⟩ := part_formed hf hi hsz (xs := xs) w hx
   ·rcases h.2.1 with ⟨a, _, h⟩ | ⟨h', hc⟩
    ·simp [hagg] at h
    ·obtain ⟨u, k | ⟨y, k1, _, k3, k4⟩⟩ := part_formed hf hi hsz (xs := ys) w hy
     ·rcases k.2.1 with ⟨a, _, k⟩ | ⟨k', kc⟩
      ·simp [hagg] at k
      ·refine ⟨v, u, h.1, k.1, hE.2 hagg v u p w ?_⟩
       rw [← h.2.2, ← k.2.2, hc, kc] at hp
       simpa using hp
     ·refine ⟨v, y, h.1, k4, hE.2 hagg v y p w ?_⟩
      rw [← h.2.2, hc, k3] at hp
      have : (ys.toList.drop off).take 1 = [y] := by
       obtain ⟨hlt, rfl⟩ := Array.getElem?_eq_some_iff.1 k1
       rw [List.drop_eq_getElem_cons (by simpa using hlt)]
       simp
      rw [this] at hp
      simpa using hp
   ·obtain ⟨u, k | ⟨y, k1, _, k3, k4⟩⟩ := part_formed hf hi hsz (xs := ys) w hy
    ·rcases k.2.1 with ⟨a, _, k⟩ | ⟨k', kc⟩
     ·simp [hagg] at k
     ·refine ⟨x, u, h4, k.1, hE.2 hagg x u p w ?_⟩
      rw [← k.2.2, kc, h3] at hp
      have : (xs.toList.drop off).take 1 = [x] := by
       obtain ⟨hlt, rfl⟩ := Array.getElem?_eq_some_iff.1 h1
       rw [List.drop_eq_getElem_cons (by simpa using hlt)]
       simp
      rw [this] at hp
      simpa using hp
    ·refine ⟨x, y, h4, k4, hE.2 hagg x y p w ?_⟩
     rw [h3] at hp
     have e1 : (xs.toList.drop off).take 1 = [x] := by
      obtain ⟨hlt, rfl⟩ := Array.getElem?_eq_some_iff.1 h1
      rw [List.drop_eq_getElem_cons (by simpa using hlt)]
      simp
     have e2 : (ys.toList.drop off).take 1 = [y] := by
      obtain ⟨hlt, rfl⟩ := Array.getElem?_eq_some_iff.1 k1
      rw [List.drop_eq_getElem_cons (by simpa using hlt)]
      simp
     rw [e1, e2] at hp
     exact hp
  ·refine ⟨_, _, run_partN hagg (n := L.length) (by simp [sizeP, hi, hsz]) w, run_partN hagg (n := L.length) (by simp [sizeP, hi, hsz]) w, hE.1 hagg _ _ p w ?_⟩
   simpa [Array.toList_extract, List.extract] using hp

theorem fields_eq {D : Nat} (xs ys : Array Value) : ∀ (fs : List Field) (d off : Nat) (L : List Leaf), (∀ d' t L, flatT P d' t = some L → d' < d → EqAll P D t L) → flatFs P d off fs = some L →
  ∀ b w, cellsEq L (xs.toList.drop off) (ys.toList.drop off) = some b → (Op.eqFields D xs ys fs).run P w = .ok b w
 | [], d, off, L, hE, hf, b, w, hb => by
  cases d with
  | zero => simp [flatFs] at hf
  | succ d =>
   simp only [flatFs, Option.some.injEq] at hf
   subst hf
   simp only [cellsEq, Option.some.injEq] at hb
   subst hb
   simp [Op.eqFields]
 | f :: fs, d, off, L, hE, hf, b, w, hb => by
  cases d with
  | zero => simp [flatFs] at hf
  | succ d =>
   simp only [flatFs] at hf
   split at hf
   ·rename_i hn
    split at hf
    ·rename_i L₁ i hL hi
     split at hf
     ·rename_i hsz
      obtain ⟨M, hM, rfl⟩ := map_some hf
      obtain ⟨p, q, h1, h2, rfl⟩ := cellsEq_append hb
      have hlen := take_cells h1
      simp only [List.length_take, List.length_drop, Array.length_toList] at hlen
      have hlen2 := take_cells hb
      simp only [List.length_append, List.length_drop, Array.length_toList] at hlen2
      obtain ⟨x, y, g1, g2, g3⟩ := part_eq (hE d f.type L₁ hL (Nat.lt_succ_self _)) hL hi hsz.1 (xs := xs) (ys := ys) (off := off) h1 (by have := hsz.2; omega) (by have := hsz.2; omega) w
      simp only [Op.eqFields, hn.1, ne_eq, not_false_eq_true, if_true, hn.2, Sem.run_bind, g1, g2, g3, Result.andThen_ok]
      cases p
      ·simp
      ·simp only [Bool.not_true, Bool.false_eq_true, if_false, Bool.true_and]
       exact fields_eq xs ys fs d (off + L₁.length) M (fun d' t L h hd => hE d' t L h (Nat.lt_succ_of_lt hd)) hM q w (by simpa [List.drop_drop] using h2)
     ·cases hf
    ·cases hf
   ·cases hf

theorem items_eq {D d : Nat} {e : TypeId} {L : List Leaf} (hE : EqAll P D e L) (hL : flatT P d e = some L) {i : TypeInfo} (hi : P.info? e = some i) (hsz : i.size = L.length) (h0 : L.length ≠ 0) (xs ys : Array Value) :
  ∀ (n k : Nat) (b : Bool) (w : World), cellsEq (List.replicate n L).flatten (xs.toList.drop (k * L.length)) (ys.toList.drop (k * L.length)) = some b → (Op.eqItems D e L.length xs ys (List.range' k n)).run P w = .ok b w
 | 0, k, b, w, hb => by
  simp only [List.replicate_zero, List.flatten_nil, cellsEq, Option.some.injEq] at hb
  subst hb
  simp [Op.eqItems]
 | n + 1, k, b, w, hb => by
  simp only [List.replicate_succ, List.flatten_cons] at hb
  obtain ⟨p, q, h1, h2, rfl⟩ := cellsEq_append hb
  have hlen := take_cells h1
  simp only [List.length_take, List.length_drop, Array.length_toList] at hlen
  obtain ⟨x, y, g1, g2, g3⟩ := part_eq hE hL hi hsz (xs := xs) (ys := ys) (off := k * L.length) h1 (by omega) (by omega) w
  simp only [List.range'_succ, Op.eqItems, Sem.run_bind, g1, g2, g3, Result.andThen_ok]
  cases p
  ·simp
  ·simp only [Bool.not_true, Bool.false_eq_true, if_false, Bool.true_and]
   refine items_eq hE hL hi hsz h0 xs ys n (k + 1) q w ?_
   simpa [List.drop_drop, Nat.add_mul, Nat.add_comm] using h2

theorem flat_eq : ∀ (d : Nat) (t : TypeId) (L : List Leaf), flatT P d t = some L → ∀ D, d ≤ D → EqAll P D t L := by
 intro d
 induction d using Nat.strongRecOn with
 | ind d ih =>
  intro t L hf D hD
  cases d with
  | zero => simp [flatT] at hf
  | succ d =>
   obtain ⟨D, rfl⟩ : ∃ D', D = D' + 1 := ⟨D - 1, by omega⟩
   have single : ∀ {l : Leaf} {x y : Value} {b : Bool}, cellsEq [l] [x] [y] = some b → leafEq l x y = some b := by
    intro l x y b h
    simp only [cellsEq] at h
    split at h
    ·rename_i h1 h2
     cases h2
     cases h
     simpa using h1
    ·cases h
   unfold flatT at hf
   split at hf
   ·rename_i hu
    cases hf
    refine ⟨fun h => by simp [isAggP, hu] at h, fun _ x y b w hb => ?_⟩
    have hb := single hb
    cases x <;> cases y <;> simp [leafEq] at hb
    subst hb
    exact run_equalIn_bool w D t _ _ hu
   ·rename_i hu
    cases hf
    refine ⟨fun h => by simp [isAggP, hu] at h, fun _ x y b w hb => ?_⟩
    have hb := single hb
    cases x <;> cases y <;> simp [leafEq] at hb
    obtain ⟨e1, e2⟩ := hb
    subst e1
    subst e2
    exact run_equalIn_int w D t _ _ _ _ hu
   ·rename_i hu
    cases hf
    refine ⟨fun h => by simp [isAggP, hu] at h, fun _ x y b w hb => ?_⟩
    have hb := single hb
    cases x <;> cases y <;> simp only [leafEq, Option.some.injEq] at hb <;> first | (cases hb; done) | skip
    subst hb
    rw [← ByteArray.toList_eq, ← ByteArray.toList_eq]
    exact run_equalIn_string w D t _ _ hu
   ·rename_i fs hu
    split at hf
    ·cases hf
    ·rename_i hs
     refine ⟨fun _ xs ys b w hb => ?_, fun h => by simp [isAggP, hu] at h⟩
     have hfs : P.fieldsOf t = fs := by simp [Program.fieldsOf, hu]
     rw [run_equalIn_struct w D t xs ys (by rw [hfs]; exact hu) (by simpa using hs), hfs]
     exact fields_eq xs ys fs.toList d 0 L (fun d' t L h hd => ih d' (by omega) t L h D (by omega)) hf b w (by simpa using hb)
   ·rename_i n e hu
    split at hf
    ·rename_i M i hM hi
     split at hf
     ·rename_i hsz
      cases hf
      refine ⟨fun _ xs ys b w hb => ?_, fun h => by simp [isAggP, hu] at h⟩
      rw [run_equalIn_array w D xs ys hu hi, List.range_eq_range']
      have hc : P.cellsOf e = M.length := by simp [Program.cellsOf, hi, hsz.1]
      rw [hc]
      exact items_eq (ih d (by omega) e M hM D (by omega)) hM hi hsz.1 hsz.2 xs ys n 0 b w (by simpa using hb)
     ·cases hf
    ·cases hf
   ·cases hf

theorem cellsEq_VR {ν : Inj} : ∀ {L : List Leaf} {xs ys xs' ys' : List Value} {b : Bool}, cellsEq L xs ys = some b → VRs ν xs xs' → VRs ν ys ys' → cellsEq L xs' ys' = some b
 | [], _, _, _, _, b, h, _, _ => by simpa [cellsEq] using h
 | l :: L, xs, ys, xs', ys', b, h, hx, hy => by
  cases xs with
  | nil => simp [cellsEq] at h
  | cons x xs =>
   cases ys with
   | nil => simp [cellsEq] at h
   | cons y ys =>
    simp only [cellsEq] at h
    split at h
    ·rename_i p q h1 h2
     cases h
     obtain ⟨x', xs', rfl, hx1, hx2⟩ := hx.cons_inv
     obtain ⟨y', ys', rfl, hy1, hy2⟩ := hy.cons_inv
     have e : leafEq l x' y' = some p := by
      cases l <;> cases hx1 <;> cases hy1 <;> simp only [leafEq] at h1 ⊢ <;> first | exact h1 | (cases h1; done)
     simp only [cellsEq, e, cellsEq_VR h2 hx2 hy2]
    ·cases h

/-- The seat's table of such types. -/
def qOf (tab : List (TypeId × List Leaf)) : EqF := fun t x y =>
 match tab.lookup t, x, y with
 | some L, .agg xs, .agg ys => cellsEq L xs.toList ys.toList
 | _, _, _ => none

theorem qOf_ok {tab : List (TypeId × List Leaf)} (h : tab.all (fun p => decide (flatT P 50 p.1 = some p.2 ∧ isAggP P p.1 = some true ∧ P.eqGuardType P.depth p.1 = false)) = true) : QOk P (qOf tab) := by
 have look : ∀ {t L}, tab.lookup t = some L → flatT P 50 t = some L ∧ isAggP P t = some true ∧ P.eqGuardType P.depth t = false := by
  intro t L hl
  induction tab with
  | nil => simp at hl
  | cons p tab ih =>
   simp only [List.all_cons, Bool.and_eq_true, decide_eq_true_eq] at h
   simp only [List.lookup] at hl
   split at hl
   ·rename_i e
    cases hl
    have : t = p.1 := by simpa using e
    subst this
    exact h.1
   ·exact ih h.2 hl
 constructor
 ·intro t x y b hq ν x' y' w hx hy
  simp only [qOf] at hq
  split at hq
  ·rename_i L xs ys hl
   obtain ⟨h1, h2, h3⟩ := look hl
   cases hx with
   | agg hs hx =>
    cases hy with
    | agg hs2 hy =>
     exact (flat_eq 50 t L h1 10000 (by omega)).1 h2 _ _ b w (cellsEq_VR hq (VRs.of_agg (.agg hs hx)) (VRs.of_agg (.agg hs2 hy)))
  ·cases hq
 ·intro t x y b hq
  simp only [qOf] at hq
  split at hq
  ·rename_i hl
   exact (look hl).2.2
  ·cases hq

end Go.E1

/-
 From the engine's answer at a call to what a law's row asks.
-/
namespace Go.E1
open Go Go.RowKit

/-- Nothing writable was handed in: what was there is as it was. -/
theorem Step.below {ν ν' : Inj} {h h' : LHeap} {w w' : World} (s : Step ν h w ν' h' w') (ro : ∀ b pl, ν b = some pl → LObj.writable (h.get b) = false) : Below w.heap.size w w' :=
 ⟨s.os, s.tape, s.output, s.size, fun k hk => s.frame k hk fun b pl hb _ => ro b pl hb⟩

/-- A law that is true, over arguments that are only read. -/
theorem LCalls.law {P : Program} {E : Env} (hE : EnvOk P E) {f : FuncId} {args : List Value} {h : LHeap} {args' : Array Value} {ν : Inj} {w : World}
  (a : LCalls E f args h fun v _ => v = .bool true) (hr : HR ν h w) (hv : VRs ν args args'.toList) (ro : ∀ b pl, ν b = some pl → LObj.writable (h.get b) = false) :
  Calls P f args' w fun e w' => e = .returned (.bool true) ∧ Below w.heap.size w w' := by
 obtain ⟨v, h', ⟨_, hs⟩, rfl⟩ := a.sound hE
 refine (hs ν w args' hr hv).mono ?_
 rintro e w' ⟨ν', v', rfl, hv', _, hst⟩
 cases hv'
 exact ⟨rfl, hst.below ro⟩

end Go.E1

/-
 Plain values (no addresses), calls over plain values as primitives, and environments.
-/
namespace Go.E1
open Go Go.RowKit

/-! ### Primitives -/

/-- What answers by its arguments alone. -/
def pureP (g : List Value → Option Value) : List Value → LHeap → Option (Value × LHeap) := fun args h => (g args).map (·, h)

def Env.add (E : Env) (f : FuncId) (g : List Value → Option Value) : Env := { E with prim := fun i => if i = f then some (pureP g) else E.prim i }

theorem EnvOk.add {P : Program} {E : Env} (hE : EnvOk P E) (f : FuncId) (g : List Value → Option Value) (hg : ∀ args v, g args = some v → plains args = true ∧ plain v = true ∧ LCalls E f args LHeap.empty fun u _ => u = v) : EnvOk P (E.add f g) where
 orders := hE.orders
 q := hE.q
 code := hE.code
 prim := by
  intro i p hp args h v h' hx
  simp only [Env.add] at hp
  split at hp
  ·rename_i e
   subst e
   cases hp
   simp only [pureP, Option.map_eq_some_iff] at hx
   obtain ⟨u, h1, h2⟩ := hx
   cases h2
   obtain ⟨h3, h4, h5⟩ := hg args v h1
   obtain ⟨u, h1, h6, rfl⟩ := h5.sound hE
   exact h6.lift h3 h4 h
  ·exact hE.prim i p hp args h v h' hx

theorem LCalls.pure_eq {E : Env} {f : FuncId} {g : List Value → Option Value} (hp : E.prim f = some (pureP g)) (args : List Value) (h : LHeap) (Q : Value → LHeap → Prop) : LCalls E f args h Q = bnd (g args) fun v => Q v h := by
 apply propext
 constructor
 ·rintro ⟨k, v, h', hk, hQ⟩
  have := hk (k + 1) (Nat.le_succ k)
  simp only [evF, hp, pureP, Option.map_eq_some_iff, Prod.mk.injEq] at this
  obtain ⟨u, h1, rfl, rfl⟩ := this
  rw [h1]
  exact hQ
 ·intro w
  obtain ⟨v, h1, h2⟩ := bnd_iff.1 w
  exact LCalls.prim hp (by simp [pureP, h1]) h2

theorem LCalls.prim_eq {E : Env} {f : FuncId} {p : List Value → LHeap → Option (Value × LHeap)} (hp : E.prim f = some p) (args : List Value) (h : LHeap) (Q : Value → LHeap → Prop) : LCalls E f args h Q = bnd (p args h) fun r => Q r.1 r.2 := by
 apply propext
 constructor
 ·rintro ⟨k, v, h', hk, hQ⟩
  have := hk (k + 1) (Nat.le_succ k)
  simp only [evF, hp] at this
  rw [this]
  exact hQ
 ·intro w
  obtain ⟨⟨v, h'⟩, h1, h2⟩ := bnd_iff.1 w
  exact LCalls.prim hp h1 h2

/-- A primitive of any kind. -/
def Env.put (E : Env) (f : FuncId) (p : List Value → LHeap → Option (Value × LHeap)) : Env := { E with prim := fun i => if i = f then some p else E.prim i }
theorem EnvOk.put {P : Program} {E : Env} (hE : EnvOk P E) (f : FuncId) (p : List Value → LHeap → Option (Value × LHeap)) (hp : ∀ args h v h', p args h = some (v, h') → Sound P f args h v h') : EnvOk P (E.put f p) where
 orders := hE.orders
 q := hE.q
 code := hE.code
 prim := by
  intro i p' hp' args h v h' hx
  simp only [Env.put] at hp'
  split at hp'
  ·rename_i e
   subst e
   cases hp'
   exact hp args h v h' hx
  ·exact hE.prim i p' hp' args h v h' hx

/-- Operations that only reckon, at once. -/
noncomputable def pures (q : EqF) : List LOper → Fr → Option Fr
 | [], fr => some fr
 | o :: r, fr => match o.act.cls, o.guard with
  | .pure, none => match o.act with
   | .op op => match op.sub fr.rd with
    | some lv => match lexec q lv LHeap.empty with
     | some (v, _) => pures q r (fr.put o.dst v)
     | none => none
    | none => none
   | _ => none
  | _, _ => none

theorem LOps.pures {E : Env} : ∀ (a b : List LOper) {fr fr' : Fr} {h : LHeap} {K : Fr → LHeap → Prop}, pures E.q a fr = some fr' → LOps E b fr' h K → LOps E (a ++ b) fr h K
 | [], b, fr, fr', h, K, hp, w => by cases hp; exact w
 | o :: a, b, fr, fr', h, K, hp, w => by
  obtain ⟨d, act, g⟩ := o
  simp only [E1.pures] at hp
  split at hp
  ·rename_i hc
   split at hp
   ·rename_i op
    split at hp
    ·rename_i lv hs
     split at hp
     ·rename_i v h1 hx
      simp only [List.cons_append, LOps, LAct.wp, hs, bnd_some]
      have hcl : lv.cls = .pure := by rw [sub_cls hs]; exact hc
      rw [lexec_pure hcl hx h]
      exact LOps.pures a b hp w
     ·cases hp
    ·cases hp
   ·cases hp
  ·cases hp

/-! ### Tables of code -/

def tabOf (l : List (FuncId × LFunc)) : FuncId → Option LFunc := fun f => l.lookup f

theorem tabOf_ok {P : Program} {l : List (FuncId × LFunc)} (h : ∀ p ∈ l, ∃ fn ks nt, P.funcs[p.1]? = some fn ∧ cFunc P fn ks nt = some p.2) : ∀ f lf, tabOf l f = some lf → ∃ fn ks nt, P.funcs[f]? = some fn ∧ cFunc P fn ks nt = some lf := by
 intro f lf hl
 unfold tabOf at hl
 induction l with
 | nil => simp at hl
 | cons p l ih =>
  obtain ⟨i, x⟩ := p
  simp only [List.lookup] at hl
  split at hl
  ·rename_i e
   cases hl
   have : f = i := by simpa using e
   subst this
   exact h _ (List.mem_cons_self ..)
  ·exact ih (fun p hp => h p (List.mem_cons_of_mem _ hp)) hl

/-- The same, by a recursor: so the kernel reckons fast. -/
noncomputable def tabR (l : List (FuncId × LFunc)) (f : FuncId) : Option LFunc :=
 List.rec (motive := fun _ => Option LFunc) none (fun p _ ih => Bool.rec (motive := fun _ => Option LFunc) ih (some p.2) (Nat.beq p.1 f)) l
theorem tabR_eq (l : List (FuncId × LFunc)) (f : FuncId) : tabR l f = tabOf l f := by
 induction l with
 | nil => rfl
 | cons p l ih =>
  obtain ⟨i, x⟩ := p
  have h1 : tabR ((i, x) :: l) f = Bool.rec (motive := fun _ => Option LFunc) (tabR l f) (some x) (Nat.beq i f) := rfl
  rw [h1, ih]
  unfold tabOf
  simp only [List.lookup]
  by_cases e : i = f
  ·subst e
   have h2 : Nat.beq i i = true := Nat.beq_refl i
   rw [h2]
   simp
  ·have h2 : Nat.beq i f = false := by
    cases hb : Nat.beq i f with
    | false => rfl
    | true => exact absurd (Nat.eq_of_beq_eq_true hb) e
   have h3 : (f == i) = false := by simpa using fun h : f = i => e h.symm
   rw [h2, h3]
theorem tabR_ok {P : Program} {l : List (FuncId × LFunc)} (h : ∀ p ∈ l, ∃ fn ks nt, P.funcs[p.1]? = some fn ∧ cFunc P fn ks nt = some p.2) : ∀ f lf, tabR l f = some lf → ∃ fn ks nt, P.funcs[f]? = some fn ∧ cFunc P fn ks nt = some lf :=
 fun f lf hl => tabOf_ok h f lf (by rw [← tabR_eq]; exact hl)

end Go.E1

/-
 Rules by which the weakest conditions are reckoned out, one operation at a time.
-/
namespace Go.E1
open Go

/-! ### The machine: states without any function in them, so that the simplifier goes step by step -/

inductive Cont where
 | done (rs : List LRes)
 | code (c : LCode) (k : Cont)
 | block (id : Nat) (k : Cont)
 | inv (J : Fr → LHeap → Prop) (k : Cont)

def kont (E : Env) (Q : Value → LHeap → Prop) : Cont → LEx → Fr → LHeap → Prop
 | .done rs, x, fr, h => onX x (bnd (finish rs fr h) fun v => Q v h) (fun _ => False) (bnd (finish rs fr h) fun v => Q v h)
 | .code c k, x, fr, h => onX x (LC E c fr h (kont E Q k)) (fun j => kont E Q k (.exit j) fr h) (kont E Q k .ret fr h)
 | .block id k, x, fr, h => onX x (kont E Q k .normal fr h) (fun j => if j = id then kont E Q k .normal fr h else kont E Q k (.exit j) fr h) (kont E Q k .ret fr h)
 | .inv J k, x, fr, h => onX x (J fr h) (fun j => kont E Q k (.exit j) fr h) (kont E Q k .ret fr h)

def MC (E : Env) (c : LCode) (k : Cont) (fr : Fr) (h : LHeap) (Q : Value → LHeap → Prop) : Prop := LC E c fr h (kont E Q k)
def MK (E : Env) (x : LEx) (k : Cont) (fr : Fr) (h : LHeap) (Q : Value → LHeap → Prop) : Prop := kont E Q k x fr h
def MO (E : Env) (ops : List LOper) (ks : List Nat) (k : Cont) (fr : Fr) (h : LHeap) (Q : Value → LHeap → Prop) : Prop := LOps E ops fr h fun fr' h' => kont E Q k .normal (fr'.keep ks) h'
/-- A branch. -/
def MB (E : Env) (x : Option Value) (a b : LCode) (k : Cont) (fr : Fr) (h : LHeap) (Q : Value → LHeap → Prop) : Prop := bnd x fun v => onB v (MC E a k fr h Q) (MC E b k fr h Q)
/-- The end. -/
def MF (x : Option Value) (h : LHeap) (Q : Value → LHeap → Prop) : Prop := bnd x fun v => Q v h
/-- Behind an operation. -/
def MX (E : Env) (x : Option (Value × LHeap)) (d : Option Nat) (r : List LOper) (ks : List Nat) (k : Cont) (fr : Fr) (Q : Value → LHeap → Prop) : Prop := bnd x fun p => MO E r ks k (fr.put d p.1) p.2 Q
/-- Behind what answers by its arguments alone. -/
def MXp (E : Env) (x : Option Value) (d : Option Nat) (r : List LOper) (ks : List Nat) (k : Cont) (fr : Fr) (h : LHeap) (Q : Value → LHeap → Prop) : Prop := bnd x fun v => MO E r ks k (fr.put d v) h Q
def MP (E : Env) (c a b : Option Value) (d : Option Nat) (r : List LOper) (ks : List Nat) (k : Cont) (fr : Fr) (h : LHeap) (Q : Value → LHeap → Prop) : Prop := bnd c fun v => onB v (bnd a fun x => MO E r ks k (fr.put d x) h Q) (bnd b fun x => MO E r ks k (fr.put d x) h Q)
def MV (E : Env) (f : Option Value) (args : Option (List Value)) (d : Option Nat) (r : List LOper) (ks : List Nat) (k : Cont) (fr : Fr) (h : LHeap) (Q : Value → LHeap → Prop) : Prop := bnd f fun v => bnd args fun vs => onF v fun g cap => LCalls E g (vs ++ cap.toList) h fun v h' => MO E r ks k (fr.put d v) h' Q
/-- At a call. -/
def MCall (E : Env) (g : FuncId) (args : List Value) (h : LHeap) (d : Option Nat) (r : List LOper) (ks : List Nat) (k : Cont) (fr : Fr) (Q : Value → LHeap → Prop) : Prop := LCalls E g args h fun v h' => MO E r ks k (fr.put d v) h' Q
/-- At a guard. -/
def MG (E : Env) (x : Option Value) (w : Bool) (d : Option Nat) (a : LAct) (r : List LOper) (ks : List Nat) (k : Cont) (fr : Fr) (h : LHeap) (Q : Value → LHeap → Prop) : Prop :=
 bnd x fun v => onB (undefB w v) (if w then MO E (⟨d, a, none⟩ :: r) ks k fr h Q else MO E r ks k (fr.put d undefL) h Q) (if w then MO E r ks k (fr.put d undefL) h Q else MO E (⟨d, a, none⟩ :: r) ks k fr h Q)
/-- At a call: by its primitive, if it has one. -/
def MCallQ (E : Env) (x : Option (List Value → LHeap → Option (Value × LHeap))) (g : FuncId) (args : List Value) (h : LHeap) (d : Option Nat) (r : List LOper) (ks : List Nat) (k : Cont) (fr : Fr) (Q : Value → LHeap → Prop) : Prop :=
 match x with
 | some p => MX E (p args h) d r ks k fr Q
 | none => MCall E g args h d r ks k fr Q
def MNQ (E : Env) (x : Option (List Value → LHeap → Option (Value × LHeap))) (g : FuncId) (args : List Value) (d : Option Nat) (r : List LOper) (ks : List Nat) (k : Cont) (fr : Fr) (h : LHeap) (Q : Value → LHeap → Prop) : Prop :=
 match x with
 | some p => plains args = true ∧ bnd (p args LHeap.empty) fun v => plain v.1 = true ∧ MO E r ks k (fr.put d v.1) h Q
 | none => plains args = true ∧ LCalls E g args LHeap.empty fun v _ => plain v = true ∧ MO E r ks k (fr.put d v) h Q
/-- At a call of a function over plain values, that leaves the heap alone. -/
def MN (E : Env) (g : FuncId) (x : Option (List Value)) (d : Option Nat) (r : List LOper) (ks : List Nat) (k : Cont) (fr : Fr) (h : LHeap) (Q : Value → LHeap → Prop) : Prop :=
 bnd x fun vs => plains vs = true ∧ LCalls E g vs LHeap.empty fun v _ => plain v = true ∧ MO E r ks k (fr.put d v) h Q
def MNt (E : Env) (b : Bool) (x : Option Value) (d : Option Nat) (r : List LOper) (ks : List Nat) (k : Cont) (fr : Fr) (h : LHeap) (Q : Value → LHeap → Prop) : Prop :=
 b = true ∧ bnd x fun v => plain v = true ∧ MO E r ks k (fr.put d v) h Q
def MNv (E : Env) (b : Bool) (v : Value) (d : Option Nat) (r : List LOper) (ks : List Nat) (k : Cont) (fr : Fr) (h : LHeap) (Q : Value → LHeap → Prop) : Prop :=
 b = true ∧ MO E r ks k (fr.put d v) h Q
noncomputable def lxs (q : EqF) (x : Option (LOp Value)) (h : LHeap) : Option (Value × LHeap) := x.bind fun lv => lexec q lv h

theorem LCalls.enter {E : Env} {f : FuncId} {lf : LFunc} {args : List Value} {h : LHeap} {Q : Value → LHeap → Prop} (hp : E.prim f = none) (hc : E.code f = some lf) (hl : args.length ≤ lf.ntmps)
  (w : MC E lf.body (.done lf.results) (params 0 args) h Q) : LCalls E f args h Q := LCalls.code hp hc hl w

/-- A call by what is known of it. -/
theorem MCall.by {E : Env} {g : FuncId} {args : List Value} {h : LHeap} {d : Option Nat} {r : List LOper} {ks : List Nat} {k : Cont} {fr : Fr} {Q R : Value → LHeap → Prop}
  (hc : LCalls E g args h R) (w : ∀ v h', R v h' → MO E r ks k (fr.put d v) h' Q) : MCall E g args h d r ks k fr Q := hc.mono w

theorem MC.loop {E : Env} {a : LCode} {k : Cont} {fr : Fr} {h : LHeap} {Q : Value → LHeap → Prop} (I : Nat → Fr → LHeap → Prop) (n : Nat) (start : I n fr h)
  (step : ∀ n fr h (J : Fr → LHeap → Prop), I n fr h → (∀ m fr h, m < n → I m fr h → J fr h) → MC E a (.inv J k) fr h Q) : MC E (.loop a) k fr h Q :=
 LC.loop I n start fun n fr h hI => step n fr h (fun fr h => ∃ m, m < n ∧ I m fr h) hI fun m _ _ hm hI => ⟨m, hm, hI⟩

section
variable {E : Env} {fr : Fr} {h : LHeap} {Q : Value → LHeap → Prop} {k : Cont}

@[go_sem] theorem MC_skip : MC E .skip k fr h Q = MK E .normal k fr h Q := Eq.trans rfl rfl
@[go_sem] theorem MC_region (ops : List LOper) (ks : List Nat) : MC E (.region ops ks) k fr h Q = MO E ops ks k fr h Q := Eq.trans rfl rfl
@[go_sem] theorem MC_seq (a b : LCode) : MC E (.seq a b) k fr h Q = MC E a (.code b k) fr h Q := Eq.trans rfl rfl
@[go_sem] theorem MC_cond (c : LO) (a b : LCode) : MC E (.cond c a b) k fr h Q = MB E (fr.rd c) a b k fr h Q := Eq.trans rfl rfl
@[go_sem] theorem MC_block (id : Nat) (a : LCode) : MC E (.block id a) k fr h Q = MC E a (.block id k) fr h Q := Eq.trans rfl rfl
@[go_sem] theorem MC_exit (id : Nat) : MC E (.exit id) k fr h Q = MK E (.exit id) k fr h Q := Eq.trans rfl rfl
@[go_sem] theorem MC_ret : MC E .ret k fr h Q = MK E .ret k fr h Q := Eq.trans rfl rfl
@[go_sem] theorem MB_t (a b : LCode) : MB E (some (.bool true)) a b k fr h Q = MC E a k fr h Q := by simp [MB, bnd, onB]
@[go_sem] theorem MB_f (a b : LCode) : MB E (some (.bool false)) a b k fr h Q = MC E b k fr h Q := by simp [MB, bnd, onB]
theorem MB.split {c : Bool} {a b : LCode} (x : c = true → MC E a k fr h Q) (y : c = false → MC E b k fr h Q) : MB E (some (.bool c)) a b k fr h Q := ⟨x, y⟩
@[go_sem] theorem MK_code (c : LCode) : MK E .normal (.code c k) fr h Q = MC E c k fr h Q := Eq.trans rfl rfl
@[go_sem] theorem MK_code_x (j : Nat) (c : LCode) : MK E (.exit j) (.code c k) fr h Q = MK E (.exit j) k fr h Q := Eq.trans rfl rfl
@[go_sem] theorem MK_code_r (c : LCode) : MK E .ret (.code c k) fr h Q = MK E .ret k fr h Q := Eq.trans rfl rfl
@[go_sem] theorem MK_block (id : Nat) : MK E .normal (.block id k) fr h Q = MK E .normal k fr h Q := Eq.trans rfl rfl
@[go_sem] theorem MK_block_x (j id : Nat) : MK E (.exit j) (.block id k) fr h Q = if j = id then MK E .normal k fr h Q else MK E (.exit j) k fr h Q := Eq.trans rfl rfl
@[go_sem] theorem MK_block_r (id : Nat) : MK E .ret (.block id k) fr h Q = MK E .ret k fr h Q := Eq.trans rfl rfl
@[go_sem] theorem MK_inv (J : Fr → LHeap → Prop) : MK E .normal (.inv J k) fr h Q = J fr h := Eq.trans rfl rfl
@[go_sem] theorem MK_inv_x (J : Fr → LHeap → Prop) (j : Nat) : MK E (.exit j) (.inv J k) fr h Q = MK E (.exit j) k fr h Q := Eq.trans rfl rfl
@[go_sem] theorem MK_inv_r (J : Fr → LHeap → Prop) : MK E .ret (.inv J k) fr h Q = MK E .ret k fr h Q := Eq.trans rfl rfl
@[go_sem] theorem MK_done (rs : List LRes) : MK E .normal (.done rs) fr h Q = MF (finish rs fr h) h Q := Eq.trans rfl rfl
@[go_sem] theorem MK_done_r (rs : List LRes) : MK E .ret (.done rs) fr h Q = MF (finish rs fr h) h Q := Eq.trans rfl rfl
@[go_sem] theorem MF_some (v : Value) : MF (some v) h Q = Q v h := Eq.trans rfl rfl
@[go_sem] theorem MO_nil (ks : List Nat) : MO E [] ks k fr h Q = MK E .normal k (fr.keep ks) h Q := Eq.trans rfl rfl
@[go_sem] theorem MO_op (d : Option Nat) (o : LOp LO) (r : List LOper) (ks : List Nat) : MO E (⟨d, .op o, none⟩ :: r) ks k fr h Q = MX E (lxs E.q (o.sub fr.rd) h) d r ks k fr Q := by
 simp only [MO, MX, LOps, LAct.wp, lxs]
 cases o.sub fr.rd <;> rfl
@[go_sem] theorem MO_pick (d : Option Nat) (c a b : LO) (r : List LOper) (ks : List Nat) : MO E (⟨d, .pick c a b, none⟩ :: r) ks k fr h Q = MP E (fr.rd c) (fr.rd a) (fr.rd b) d r ks k fr h Q := Eq.trans rfl rfl
@[go_sem] theorem MO_call (d : Option Nat) (f : LO) (args : List LO) (r : List LOper) (ks : List Nat) : MO E (⟨d, .call f args, none⟩ :: r) ks k fr h Q = MV E (fr.rd f) (LOp.listM fr.rd args) d r ks k fr h Q := Eq.trans rfl rfl
@[go_sem] theorem MO_ncall (d : Option Nat) (g : FuncId) (args : List LO) (r : List LOper) (ks : List Nat) : MO E (⟨d, .ncall g args, none⟩ :: r) ks k fr h Q = MN E g (LOp.listM fr.rd args) d r ks k fr h Q := Eq.trans rfl rfl
@[go_sem] theorem MN_mk (g : FuncId) (args : List Value) (d : Option Nat) (r : List LOper) (ks : List Nat) : MN E g (some args) d r ks k fr h Q = MNQ E (E.prim g) g args d r ks k fr h Q := by
 cases hp : E.prim g with
 | none => rfl
 | some p => simp only [MN, bnd_some, MNQ, LCalls.prim_eq hp]
@[go_sem] theorem MNQ_pure (p : List Value → Option Value) (g : FuncId) (args : List Value) (d : Option Nat) (r : List LOper) (ks : List Nat) : MNQ E (some (pureP p)) g args d r ks k fr h Q = MNt E (plains args) (p args) d r ks k fr h Q := by
 simp only [MNQ, MNt, pureP, bnd_map]
@[go_sem] theorem MNt_some (v : Value) (d : Option Nat) (r : List LOper) (ks : List Nat) : MNt E true (some v) d r ks k fr h Q = MNv E (plain v) v d r ks k fr h Q := by simp [MNt, MNv]
@[go_sem] theorem MNv_true (v : Value) (d : Option Nat) (r : List LOper) (ks : List Nat) : MNv E true v d r ks k fr h Q = MO E r ks k (fr.put d v) h Q := by simp [MNv]
@[go_sem] theorem MO_guard (d : Option Nat) (a : LAct) (t : Nat) (w : Bool) (r : List LOper) (ks : List Nat) : MO E (⟨d, a, some (t, w)⟩ :: r) ks k fr h Q = MG E (fr.get t) w d a r ks k fr h Q := by
 cases w <;> rfl
@[go_sem] theorem MX_some (v : Value) (h' : LHeap) (d : Option Nat) (r : List LOper) (ks : List Nat) : MX E (some (v, h')) d r ks k fr Q = MO E r ks k (fr.put d v) h' Q := Eq.trans rfl rfl
@[go_sem] theorem MXp_some (v : Value) (d : Option Nat) (r : List LOper) (ks : List Nat) : MXp E (some v) d r ks k fr h Q = MO E r ks k (fr.put d v) h Q := Eq.trans rfl rfl
@[go_sem] theorem MP_t (x : Value) (b : Option Value) (d : Option Nat) (r : List LOper) (ks : List Nat) : MP E (some (.bool true)) (some x) b d r ks k fr h Q = MO E r ks k (fr.put d x) h Q := by simp [MP, bnd, onB]
@[go_sem] theorem MP_f (x : Value) (a : Option Value) (d : Option Nat) (r : List LOper) (ks : List Nat) : MP E (some (.bool false)) a (some x) d r ks k fr h Q = MO E r ks k (fr.put d x) h Q := by simp [MP, bnd, onB]
@[go_sem] theorem MV_mk (g : FuncId) (cap : Array Value) (vs : List Value) (d : Option Nat) (r : List LOper) (ks : List Nat) : MV E (some (.func (.func g) #[] cap)) (some vs) d r ks k fr h Q = MCallQ E (E.prim g) g (vs ++ cap.toList) h d r ks k fr Q := by
 have e : MV E (some (.func (.func g) #[] cap)) (some vs) d r ks k fr h Q = LCalls E g (vs ++ cap.toList) h fun v h' => MO E r ks k (fr.put d v) h' Q := by simp [MV, bnd, onF]
 rw [e]
 cases hp : E.prim g with
 | none => rfl
 | some p => rw [LCalls.prim_eq hp]; rfl
@[go_sem] theorem MCallQ_none (g : FuncId) (args : List Value) (d : Option Nat) (r : List LOper) (ks : List Nat) : MCallQ E none g args h d r ks k fr Q = MCall E g args h d r ks k fr Q := Eq.trans rfl rfl
@[go_sem] theorem MCallQ_some (p : List Value → LHeap → Option (Value × LHeap)) (g : FuncId) (args : List Value) (d : Option Nat) (r : List LOper) (ks : List Nat) : MCallQ E (some p) g args h d r ks k fr Q = MX E (p args h) d r ks k fr Q := Eq.trans rfl rfl
@[go_sem] theorem MG_u (w : Bool) (d : Option Nat) (a : LAct) (r : List LOper) (ks : List Nat) : MG E (some undefL) w d a r ks k fr h Q = MO E r ks k (fr.put d undefL) h Q := by cases w <;> simp [MG, bnd, onB, undefB, undefL]
@[go_sem] theorem MG_tt (d : Option Nat) (a : LAct) (r : List LOper) (ks : List Nat) : MG E (some (.bool true)) true d a r ks k fr h Q = MO E (⟨d, a, none⟩ :: r) ks k fr h Q := by simp [MG, bnd, onB, undefB]
@[go_sem] theorem MG_ft (d : Option Nat) (a : LAct) (r : List LOper) (ks : List Nat) : MG E (some (.bool false)) true d a r ks k fr h Q = MO E r ks k (fr.put d undefL) h Q := by simp [MG, bnd, onB, undefB]
@[go_sem] theorem MG_tf (d : Option Nat) (a : LAct) (r : List LOper) (ks : List Nat) : MG E (some (.bool true)) false d a r ks k fr h Q = MO E r ks k (fr.put d undefL) h Q := by simp [MG, bnd, onB, undefB]
@[go_sem] theorem MG_ff (d : Option Nat) (a : LAct) (r : List LOper) (ks : List Nat) : MG E (some (.bool false)) false d a r ks k fr h Q = MO E (⟨d, a, none⟩ :: r) ks k fr h Q := by simp [MG, bnd, onB, undefB]
@[go_sem] theorem lxs_some (q : EqF) (lv : LOp Value) : lxs q (some lv) h = lexec q lv h := Eq.trans rfl rfl
theorem MCall.pure {g : FuncId} {p : List Value → Option Value} (hp : E.prim g = some (pureP p)) (args : List Value) (d : Option Nat) (r : List LOper) (ks : List Nat) : MCall E g args h d r ks k fr Q = MXp E (p args) d r ks k fr h Q := LCalls.pure_eq hp args h _
@[go_sem] theorem pureP_mk (p : List Value → Option Value) (args : List Value) (h : LHeap) : pureP p args h = (p args).map (·, h) := Eq.trans rfl rfl
@[go_sem] theorem put_prim (E : Env) (f : FuncId) (p : List Value → LHeap → Option (Value × LHeap)) (i : FuncId) : (E.put f p).prim i = if i = f then some p else E.prim i := Eq.trans rfl rfl
@[go_sem] theorem add_prim (E : Env) (f : FuncId) (p : List Value → Option Value) (i : FuncId) : (E.add f p).prim i = if i = f then some (pureP p) else E.prim i := Eq.trans rfl rfl
@[go_sem] theorem put_q (E : Env) (f : FuncId) (p : List Value → LHeap → Option (Value × LHeap)) : (E.put f p).q = E.q := Eq.trans rfl rfl
@[go_sem] theorem add_q (E : Env) (f : FuncId) (p : List Value → Option Value) : (E.add f p).q = E.q := Eq.trans rfl rfl
end

section
variable {E : Env} {fr : Fr} {h : LHeap} {q : EqF}
@[go_sem] theorem map_some' {α β : Type} (f : α → β) (x : α) : Option.map f (some x) = some (f x) := Eq.trans rfl rfl
@[go_sem] theorem map_none' {α β : Type} (f : α → β) : Option.map f none = none := Eq.trans rfl rfl
@[go_sem] theorem rd_t (n : Nat) : fr.rd (.t n) = fr.get n := Eq.trans rfl rfl
@[go_sem] theorem rd_c (v : Value) : fr.rd (.c v) = some v := Eq.trans rfl rfl
@[go_sem] theorem get_cons (k n : Nat) (v : Value) (r : List (Nat × Value)) : Fr.get ((k, v) :: r) n = if k = n then some v else Fr.get r n := Eq.trans rfl rfl
@[go_sem] theorem put_some (d : Nat) (v : Value) : fr.put (some d) v = (d, v) :: fr := Eq.trans rfl rfl
@[go_sem] theorem put_none (v : Value) : fr.put none v = fr := Eq.trans rfl rfl
@[go_sem] theorem keep_nil : fr.keep [] = [] := Eq.trans rfl rfl
@[go_sem] theorem keepc (k : Nat) (ks : List Nat) : fr.keep (k :: ks) = match fr.get k with | some v => (k, v) :: fr.keep ks | none => fr.keep ks := Eq.trans rfl rfl
@[go_sem] theorem params_nil (i : Nat) : params i [] = [] := Eq.trans rfl rfl
@[go_sem] theorem params_cons (i : Nat) (v : Value) (l : List Value) : params i (v :: l) = (i, v) :: params (i + 1) l := Eq.trans rfl rfl


/-! ### The operations -/
@[go_sem] theorem x_mov (x : Value) : lexec q (.mov x) h = some (x, h) := Eq.trans rfl rfl
@[go_sem] theorem x_alloc (z : List Value) : lexec q (.alloc z) h = some (.pointer (some ⟨h.size, 0, none⟩), h.push (.cells z true true)) := Eq.trans rfl rfl
@[go_sem] theorem x_box (x : Value) : lexec q (.box x) h = some (.pointer (some ⟨h.size, 0, none⟩), h.push (.cells x.cells.toList true true)) := Eq.trans rfl rfl
@[go_sem] theorem x_build (z : List Value) (ps : List (Nat × Nat × Value)) : lexec q (.build z ps) h = (lfill z ps).map fun cs => (.agg cs.toArray, h) := Eq.trans rfl rfl
@[go_sem] theorem x_buildSlice (n e : Nat) (z : List Value) (ps : List (Nat × Nat × Value)) : lexec q (.buildSlice n e z ps) h = if n * e ≤ 16777216 then (lfill z ps).map fun cs => (.slice (some ⟨h.size, 0, none⟩) n e, h.push (.cells cs true true)) else none := Eq.trans rfl rfl
@[go_sem] theorem x_load1 (b o : Nat) : lexec q (.load1 (.pointer (some ⟨b, o, none⟩))) h = (h.load1 b o).map (·, h) := Eq.trans rfl rfl
@[go_sem] theorem x_loadN (n b o : Nat) : lexec q (.loadN n (.pointer (some ⟨b, o, none⟩))) h = (h.loadCells b o n).map fun cs => (.agg cs.toArray, h) := Eq.trans rfl rfl
@[go_sem] theorem x_store (n b o : Nat) (x : Value) : lexec q (.store n (.pointer (some ⟨b, o, none⟩)) x) h = if x.cells.size = n then (h.storeCells b o x.cells.toList).map (.tuple #[], ·) else none := Eq.trans rfl rfl
@[go_sem] theorem x_nilCheck (p : Addr) : lexec q (.nilCheck (.pointer (some p))) h = some (.pointer (some p), h) := Eq.trans rfl rfl
@[go_sem] theorem x_nilCheckF (f : FuncId) (c : Array Value) : lexec q (.nilCheck (.func (.func f) #[] c)) h = some (.func (.func f) #[] c, h) := Eq.trans rfl rfl
@[go_sem] theorem x_add (ty : EqT) (k : IntKind) (a b : Int) : lexec q (.bin .add ty (.int k a) (.int k b)) h = some (.int k (k.wrap (a + b)), h) := by simp [lexec, lbin, ibin, BinOp.isShift]
@[go_sem] theorem x_sub (ty : EqT) (k : IntKind) (a b : Int) : lexec q (.bin .sub ty (.int k a) (.int k b)) h = some (.int k (k.wrap (a - b)), h) := by simp [lexec, lbin, ibin, BinOp.isShift]
@[go_sem] theorem x_mul (ty : EqT) (k : IntKind) (a b : Int) : lexec q (.bin .mul ty (.int k a) (.int k b)) h = some (.int k (k.wrap (a * b)), h) := by simp [lexec, lbin, ibin, BinOp.isShift]
@[go_sem] theorem x_quo (ty : EqT) (k : IntKind) (a b : Int) : lexec q (.bin .quo ty (.int k a) (.int k b)) h = if b = 0 then none else some (.int k (k.wrap (a.tdiv b)), h) := by
 simp only [lexec, lbin, ibin, BinOp.isShift]; by_cases hb : b = 0 <;> simp [hb]
@[go_sem] theorem x_rem (ty : EqT) (k : IntKind) (a b : Int) : lexec q (.bin .rem ty (.int k a) (.int k b)) h = if b = 0 then none else some (.int k (a.tmod b), h) := by
 simp only [lexec, lbin, ibin, BinOp.isShift]; by_cases hb : b = 0 <;> simp [hb]
@[go_sem] theorem x_eql (ty : EqT) (k : IntKind) (a b : Int) : lexec q (.bin .eql ty (.int k a) (.int k b)) h = some (.bool (a == b), h) := by simp [lexec, lbin, ibin, BinOp.isShift]
@[go_sem] theorem x_neq (ty : EqT) (k : IntKind) (a b : Int) : lexec q (.bin .neq ty (.int k a) (.int k b)) h = some (.bool (a != b), h) := by simp [lexec, lbin, ibin, BinOp.isShift]
@[go_sem] theorem x_lss (ty : EqT) (k : IntKind) (a b : Int) : lexec q (.bin .lss ty (.int k a) (.int k b)) h = some (.bool (decide (a < b)), h) := by simp [lexec, lbin, ibin, BinOp.isShift]
@[go_sem] theorem x_leq (ty : EqT) (k : IntKind) (a b : Int) : lexec q (.bin .leq ty (.int k a) (.int k b)) h = some (.bool (decide (a ≤ b)), h) := by simp [lexec, lbin, ibin, BinOp.isShift]
@[go_sem] theorem x_gtr (ty : EqT) (k : IntKind) (a b : Int) : lexec q (.bin .gtr ty (.int k a) (.int k b)) h = some (.bool (decide (b < a)), h) := by simp [lexec, lbin, ibin, BinOp.isShift]
@[go_sem] theorem x_geq (ty : EqT) (k : IntKind) (a b : Int) : lexec q (.bin .geq ty (.int k a) (.int k b)) h = some (.bool (decide (b ≤ a)), h) := by simp [lexec, lbin, ibin, BinOp.isShift]
@[go_sem] theorem x_seql (ty : EqT) (a b : ByteArray) : lexec q (.bin .eql ty (.string a) (.string b)) h = some (.bool (a.data.toList == b.data.toList), h) := Eq.trans rfl rfl
@[go_sem] theorem x_sneq (ty : EqT) (a b : ByteArray) : lexec q (.bin .neq ty (.string a) (.string b)) h = some (.bool (!(a.data.toList == b.data.toList)), h) := Eq.trans rfl rfl
@[go_sem] theorem x_sadd (ty : EqT) (a b : ByteArray) : lexec q (.bin .add ty (.string a) (.string b)) h = if a.size + b.size ≤ 4611686018427387904 then some (.string (a ++ b), h) else none := by
 simp only [lexec, lbin, sbin]; by_cases hb : a.size + b.size ≤ 4611686018427387904 <;> simp [hb]
@[go_sem] theorem x_beql (a b : Bool) : lexec q (.bin .eql .bool (.bool a) (.bool b)) h = some (.bool (a == b), h) := Eq.trans rfl rfl
@[go_sem] theorem x_bneq (a b : Bool) : lexec q (.bin .neq .bool (.bool a) (.bool b)) h = some (.bool (!(a == b)), h) := Eq.trans rfl rfl
@[go_sem] theorem x_teql (t : TypeId) (a b : Array Value) : lexec q (.bin .eql (.typed t) (.agg a) (.agg b)) h = (q t (.agg a) (.agg b)).map fun r => (.bool r, h) := by
 simp only [lexec, lbin]; cases q t (.agg a) (.agg b) <;> rfl
@[go_sem] theorem x_tneq (t : TypeId) (a b : Array Value) : lexec q (.bin .neq (.typed t) (.agg a) (.agg b)) h = (q t (.agg a) (.agg b)).map fun r => (.bool (!r), h) := by
 simp only [lexec, lbin]; cases q t (.agg a) (.agg b) <;> rfl
@[go_sem] theorem x_not (b : Bool) : lexec q (.un .not (.bool b)) h = some (.bool (!b), h) := Eq.trans rfl rfl
@[go_sem] theorem x_neg (k : IntKind) (n : Int) : lexec q (.un .neg (.int k n)) h = some (.int k (k.wrap (0 - n)), h) := Eq.trans rfl rfl
@[go_sem] theorem x_convInt (k k' : IntKind) (n : Int) : lexec q (.convInt k (.int k' n)) h = some (.int k (k.wrap n), h) := Eq.trans rfl rfl
@[go_sem] theorem x_convStr (s : ByteArray) : lexec q (.convStr (.string s)) h = some (.string s, h) := Eq.trans rfl rfl
@[go_sem] theorem x_strBytes (s : ByteArray) : lexec q (.strBytes (.string s)) h = some (.slice (some ⟨h.size, 0, none⟩) s.size 1, h.push (.cells (s.data.toList.map fun b => .int .u8 b.toNat) true true)) := Eq.trans rfl rfl
@[go_sem] theorem x_makeFunc (f : Fn) (c : List Value) : lexec q (.makeFunc f c) h = some (.func f #[] c.toArray, h) := Eq.trans rfl rfl
@[go_sem] theorem x_fieldAddr (off b o : Nat) : lexec q (.fieldAddr off (.pointer (some ⟨b, o, none⟩))) h = some (.pointer (some ⟨b, o + off, none⟩), h) := Eq.trans rfl rfl
@[go_sem] theorem x_field1 (off : Nat) (cs : Array Value) : lexec q (.field1 off (.agg cs)) h = (cs[off]?).map (·, h) := Eq.trans rfl rfl
@[go_sem] theorem x_fieldN (off n : Nat) (cs : Array Value) : lexec q (.fieldN off n (.agg cs)) h = if off + n ≤ cs.size then some (.agg (cs.extract off (off + n)), h) else none := Eq.trans rfl rfl
@[go_sem] theorem x_idxAddrA (len e b o : Nat) (k : IntKind) (i : Int) : lexec q (.idxAddrA len e (.pointer (some ⟨b, o, none⟩)) (.int k i)) h = if 0 ≤ i ∧ i < len then some (.pointer (some ⟨b, o + i.toNat * e, none⟩), h) else none := Eq.trans rfl rfl
@[go_sem] theorem x_idxAddrS (e b o n E : Nat) (k : IntKind) (i : Int) : lexec q (.idxAddrS e (.slice (some ⟨b, o, none⟩) n E) (.int k i)) h = if 0 ≤ i ∧ i < n ∧ E = e then some (.pointer (some ⟨b, o + i.toNat * e, none⟩), h) else none := Eq.trans rfl rfl
@[go_sem] theorem x_idxA1 (len : Nat) (cs : Array Value) (k : IntKind) (i : Int) : lexec q (.idxA1 len (.agg cs) (.int k i)) h = if 0 ≤ i ∧ i < len then (cs[i.toNat]?).map (·, h) else none := Eq.trans rfl rfl
@[go_sem] theorem x_idxAN (len e : Nat) (cs : Array Value) (k : IntKind) (i : Int) : lexec q (.idxAN len e (.agg cs) (.int k i)) h = if 0 ≤ i ∧ i < len ∧ i.toNat * e + e ≤ cs.size then some (.agg (cs.extract (i.toNat * e) (i.toNat * e + e)), h) else none := Eq.trans rfl rfl
@[go_sem] theorem x_idxStr (s : ByteArray) (k : IntKind) (i : Int) : lexec q (.idxStr (.string s) (.int k i)) h = if 0 ≤ i then (s.data.toList[i.toNat]?).map fun b => (.int .u8 b.toNat, h) else none := by simp only [lexec, nthR_eq]
@[go_sem] theorem x_extract (i : Nat) (vs : Array Value) : lexec q (.extract i (.tuple vs)) h = (vs[i]?).map (·, h) := Eq.trans rfl rfl
@[go_sem] theorem x_lenStr (s : ByteArray) : lexec q (.lenStr (.string s)) h = some (.int .i64 s.size, h) := Eq.trans rfl rfl
@[go_sem] theorem x_lenS (a : Option Addr) (n E : Nat) : lexec q (.lenS (.slice a n E)) h = some (.int .i64 n, h) := Eq.trans rfl rfl
@[go_sem] theorem x_slice0 (e b o n : Nat) : lexec q (.slice e (.slice (some ⟨b, o, none⟩) n e) none none none) h = some (.slice (some ⟨b, o, none⟩) n e, h) := by
 simp [lexec, lo1]
theorem x_sliceArr0 (n e b o : Nat) (cs : List Value) (t r : Bool) (hg : h.get b = some (.cells cs t r)) (hl : o + n * e ≤ cs.length) : lexec q (.sliceArr n e (.pointer (some ⟨b, o, none⟩)) none none none) h = some (.slice (some ⟨b, o, none⟩) n e, h) := by
 simp [lexec, lo1, hg, hl]

/-! ### Memory -/
theorem m_load1 {b o : Nat} {cs : List Value} {t r : Bool} (hg : h.get b = some (.cells cs t r)) : h.load1 b o = cs[o]? := by simp [LHeap.load1_eq, hg]
end

@[go_sem] theorem oc_cons (v : Value) (l : List Value) : oneCells (v :: l) = (v.oneCell' && oneCells l) := Eq.trans rfl rfl
@[go_sem] theorem oc_nil : oneCells [] = true := Eq.trans rfl rfl
@[go_sem] theorem oc_int (k : IntKind) (n : Int) : (Value.int k n).oneCell' = true := Eq.trans rfl rfl
@[go_sem] theorem oc_bool (b : Bool) : (Value.bool b).oneCell' = true := Eq.trans rfl rfl
@[go_sem] theorem oc_string (s : ByteArray) : (Value.string s).oneCell' = true := Eq.trans rfl rfl
@[go_sem] theorem oc_pointer (a : Option Addr) : (Value.pointer a).oneCell' = true := Eq.trans rfl rfl
@[go_sem] theorem oc_slice (a : Option Addr) (n c : Nat) : (Value.slice a n c).oneCell' = true := Eq.trans rfl rfl
@[go_sem] theorem oc_map (a : Option Nat) : (Value.map a).oneCell' = true := Eq.trans rfl rfl
@[go_sem] theorem oc_func (f : Fn) (a c : Array Value) : (Value.func f a c).oneCell' = true := Eq.trans rfl rfl
@[go_sem] theorem oc_nilFunc : Value.nilFunc.oneCell' = true := Eq.trans rfl rfl
@[go_sem] theorem oc_nilIface : Value.nilIface.oneCell' = true := Eq.trans rfl rfl
@[go_sem] theorem oc_iface (t : TypeId) (v : Value) : (Value.iface t v).oneCell' = true := Eq.trans rfl rfl

attribute [go_sem] plain plains
attribute [go_sem] bnd_some bnd_none LOp.sub LOp.optM LOp.listM LOp.partsM LHeap.load1_eq LHeap.loadCells LHeap.storeCells_eq LHeap.get_set LHeap.get_push LHeap.size_set LHeap.size_push LHeap.get_empty LHeap.size_empty splice lfill Value.cells finish lres leafEq cellsEq qOf
attribute [go_sem] Int.reduceToNat Int.reduceLT Int.reduceLE Int.reduceEq Int.reduceBEq Int.reduceBNe Int.reduceAdd Int.reduceSub Int.reduceMul Int.reduceNeg Int.cast_ofNat_Int Int.ofNat_eq_natCast Int.natCast_zero Int.natCast_one Nat.reduceMul Nat.reduceSub Nat.mul_one Nat.one_mul Nat.zero_mul Int.toNat_natCast decide_true decide_false Bool.true_and Bool.false_and Bool.and_false Bool.not_true Bool.not_false Bool.true_or Bool.or_true Bool.false_or Bool.or_false Nat.le_refl
attribute [go_sem] reduceIte Nat.reduceEqDiff Nat.reduceAdd Nat.reduceLeDiff Nat.reduceLT Nat.zero_add Nat.add_zero List.getElem?_cons_zero List.getElem?_cons_succ List.getElem?_toArray List.take_succ_cons List.take_zero List.drop_succ_cons List.drop_zero List.length_cons List.length_nil List.size_toArray List.append_eq List.cons_append List.nil_append List.append_nil List.all_cons List.all_nil Bool.and_true Bool.and_self and_self and_true true_and if_true if_false List.lookup_cons beq_self_eq_true

end Go.E1

/-
 Regions whose order is drawn: their weakest condition.
-/
namespace Go.E1
open Go

def guardB (fr : Fr) (g : Option (Nat × Bool)) (yes no : Prop) : Prop :=
 match g with
 | none => yes
 | some (t, true) => bnd (fr.get t) fun b => onB (undefB true b) yes no
 | some (t, false) => bnd (fr.get t) fun b => onB (undefB false b) no yes

def readB (E : Env) (a : LAct) (fr : Fr) (h : LHeap) (K : LOp Value → Value → Prop) : Prop :=
 match a with
 | .op op => bnd (op.sub fr.rd) fun lv => bnd (lexec E.q lv h) fun p => K lv p.1
 | _ => False

def onCls (c : LOp.Cls) (p r e : Prop) : Prop :=
 match c with
 | .pure => p
 | .reader => r
 | .effect => e

def both (c : Bool) (p : Prop) : Prop := c = true ∧ p

def LDOps (E : Env) : List (LOper × Nat × Nat) → Fr → LHeap → List LHeap → List Pend → (Fr → LHeap → Prop) → Prop
 | [], fr, h, _, _, K => K fr h
 | (⟨d, a, g⟩, lo, hi) :: r, fr, h, past, pend, K =>
  onCls a.cls
   (guardB fr g (a.wp E fr h fun v _ => LDOps E r (fr.put d v) h past pend K) (LDOps E r (fr.put d undefL) h past pend K))
   (guardB fr g (readB E a fr h fun lv v => both ((past.take (past.length - lo)).all (Pend.ok E.q ⟨lv, v, hi⟩)) (LDOps E r (fr.put d v) h past (⟨lv, v, hi⟩ :: pend) K)) (LDOps E r (fr.put d undefL) h past pend K))
   (guardB fr g (a.wp E fr h fun v h' => both (pend.all fun p => decide (p.hi ≤ past.length) || p.ok E.q h') (LDOps E r (fr.put d v) h' (h :: past) pend K)) (LDOps E r (fr.put d undefL) h (h :: past) pend K))

theorem guardB_run {fr : Fr} {d : Option Nat} {a : LAct} {g : Option (Nat × Bool)} {yes no : Prop} (w : guardB fr g yes no) :
  (LOper.wanted ⟨d, a, g⟩ fr = some true ∧ yes) ∨ (LOper.wanted ⟨d, a, g⟩ fr = some false ∧ no) := by
 unfold guardB at w
 split at w
 ·exact .inl ⟨rfl, w⟩
 ·obtain ⟨b, hb, w⟩ := bnd_iff.1 w
  generalize hu : undefB true b = u at w
  cases u with
  | bool b =>
   cases b
   ·exact .inr ⟨by simp [LOper.wanted, hb, hu], w.2 rfl⟩
   ·exact .inl ⟨by simp [LOper.wanted, hb, hu], w.1 rfl⟩
  | _ => simp [onB] at w
 ·obtain ⟨b, hb, w⟩ := bnd_iff.1 w
  generalize hu : undefB false b = u at w
  cases u with
  | bool b =>
   cases b
   ·exact .inl ⟨by simp [LOper.wanted, hb, hu], w.2 rfl⟩
   ·exact .inr ⟨by simp [LOper.wanted, hb, hu], w.1 rfl⟩
  | _ => simp [onB] at w

theorem LDOps.run {E : Env} : ∀ (ops : List (LOper × Nat × Nat)) {fr : Fr} {h : LHeap} {past : List LHeap} {pend : List Pend} {K : Fr → LHeap → Prop}, LDOps E ops fr h past pend K →
  ∃ k₀ fr' h', (∀ k, k₀ ≤ k → ldops E.q (evF E k) ops fr h past pend = some (fr', h')) ∧ K fr' h'
 | [], fr, h, _, _, K, w => ⟨0, fr, h, fun _ _ => rfl, w⟩
 | (⟨d, a, g⟩, lo, hi) :: r, fr, h, past, pend, K, w => by
  unfold LDOps onCls at w
  split at w
  ·rename_i hc
   rcases guardB_run (d := d) (a := a) w with ⟨hw, w⟩ | ⟨hw, w⟩
   ·obtain ⟨k₁, v, h1, h2, h3⟩ := LAct.wp_run w
    obtain ⟨k₂, fr', h', h4, h5⟩ := LDOps.run r h3
    refine ⟨max k₁ k₂, fr', h', fun k hk => ?_, h5⟩
    have hcp : (LOper.mk d a g).act.cls = .pure := hc
    simp only [ldops, hcp, loper, hw, h2 k (by omega), h4 k (by omega)]
   ·obtain ⟨k₂, fr', h', h4, h5⟩ := LDOps.run r w
    refine ⟨k₂, fr', h', fun k hk => ?_, h5⟩
    have hcp : (LOper.mk d a g).act.cls = .pure := hc
    simp only [ldops, hcp, loper, hw, h4 k hk]
  ·rename_i hc
   have hcp : (LOper.mk d a g).act.cls = .reader := hc
   rcases guardB_run (d := d) (a := a) w with ⟨hw, w⟩ | ⟨hw, w⟩
   ·unfold readB at w
    split at w
    ·rename_i op
     obtain ⟨lv, h1, w⟩ := bnd_iff.1 w
     obtain ⟨⟨v, h2⟩, h3, w1, w2⟩ := bnd_iff.1 w
     obtain ⟨k₂, fr', h', h4, h5⟩ := LDOps.run r w2
     refine ⟨k₂, fr', h', fun k hk => ?_, h5⟩
     simp only [ldops, hcp, hw, h1, h3]
     rw [if_pos w1]
     exact h4 k hk
    ·exact w.elim
   ·obtain ⟨k₂, fr', h', h4, h5⟩ := LDOps.run r w
    refine ⟨k₂, fr', h', fun k hk => ?_, h5⟩
    simp only [ldops, hcp, hw, h4 k hk]
  ·rename_i hc
   have hcp : (LOper.mk d a g).act.cls = .effect := hc
   rcases guardB_run (d := d) (a := a) w with ⟨hw, w⟩ | ⟨hw, w⟩
   ·obtain ⟨k₁, v, h1, h2, w1, w2⟩ := LAct.wp_run w
    obtain ⟨k₂, fr', h', h4, h5⟩ := LDOps.run r w2
    refine ⟨max k₁ k₂, fr', h', fun k hk => ?_, h5⟩
    simp only [ldops, hcp, hw, h2 k (by omega)]
    rw [if_pos w1]
    exact h4 k (by omega)
   ·obtain ⟨k₂, fr', h', h4, h5⟩ := LDOps.run r w
    refine ⟨k₂, fr', h', fun k hk => ?_, h5⟩
    simp only [ldops, hcp, hw, h4 k hk]

theorem LRun.dregion {E : Env} {ops : List (LOper × Nat × Nat)} {ks : List Nat} {fr : Fr} {h : LHeap} {K : LEx → Fr → LHeap → Prop} (w : LDOps E ops fr h [] [] fun fr' h' => K .normal (fr'.keep ks) h') : LRun E (.dregion ops ks) fr h K := by
 obtain ⟨k₀, fr', h', h1, h2⟩ := LDOps.run ops w
 exact ⟨k₀, .normal, fr'.keep ks, h', fun k hk => by simp [evC, h1 k hk], h2⟩

/-! ### The machine's states for them -/

def MD (E : Env) (ops : List (LOper × Nat × Nat)) (ks : List Nat) (k : Cont) (fr : Fr) (h : LHeap) (past : List LHeap) (pend : List Pend) (Q : Value → LHeap → Prop) : Prop :=
 LDOps E ops fr h past pend fun fr' h' => kont E Q k .normal (fr'.keep ks) h'
/-- At a guard. -/
def MDG (E : Env) (x : Option Value) (w : Bool) (d : Option Nat) (a : LAct) (lo hi : Nat) (r : List (LOper × Nat × Nat)) (ks : List Nat) (k : Cont) (fr : Fr) (h : LHeap) (past : List LHeap) (pend : List Pend) (Q : Value → LHeap → Prop) : Prop :=
 bnd x fun v => onB (undefB w v) (if w then MD E ((⟨d, a, none⟩, lo, hi) :: r) ks k fr h past pend Q else MD E r ks k (fr.put d undefL) h (if a.cls = .effect then h :: past else past) pend Q)
  (if w then MD E r ks k (fr.put d undefL) h (if a.cls = .effect then h :: past else past) pend Q else MD E ((⟨d, a, none⟩, lo, hi) :: r) ks k fr h past pend Q)
/-- At an operation, by its kind. -/
def MDc (E : Env) (c : LOp.Cls) (d : Option Nat) (a : LAct) (lo hi : Nat) (r : List (LOper × Nat × Nat)) (ks : List Nat) (k : Cont) (fr : Fr) (h : LHeap) (past : List LHeap) (pend : List Pend) (Q : Value → LHeap → Prop) : Prop :=
 match c with
 | .pure => a.wp E fr h fun v _ => MD E r ks k (fr.put d v) h past pend Q
 | .reader => readB E a fr h fun lv v => both ((past.take (past.length - lo)).all (Pend.ok E.q ⟨lv, v, hi⟩)) (MD E r ks k (fr.put d v) h past (⟨lv, v, hi⟩ :: pend) Q)
 | .effect => a.wp E fr h fun v h' => both (pend.all fun p => decide (p.hi ≤ past.length) || p.ok E.q h') (MD E r ks k (fr.put d v) h' (h :: past) pend Q)
def MDX (E : Env) (x : Option (Value × LHeap)) (d : Option Nat) (r : List (LOper × Nat × Nat)) (ks : List Nat) (k : Cont) (fr : Fr) (h : LHeap) (past : List LHeap) (pend : List Pend) (Q : Value → LHeap → Prop) : Prop := bnd x fun p => MD E r ks k (fr.put d p.1) h past pend Q
def MDN (E : Env) (g : FuncId) (x : Option (List Value)) (d : Option Nat) (r : List (LOper × Nat × Nat)) (ks : List Nat) (k : Cont) (fr : Fr) (h : LHeap) (past : List LHeap) (pend : List Pend) (Q : Value → LHeap → Prop) : Prop :=
 bnd x fun vs => plains vs = true ∧ LCalls E g vs LHeap.empty fun v _ => plain v = true ∧ MD E r ks k (fr.put d v) h past pend Q
def MDNt (E : Env) (b : Bool) (x : Option Value) (d : Option Nat) (r : List (LOper × Nat × Nat)) (ks : List Nat) (k : Cont) (fr : Fr) (h : LHeap) (past : List LHeap) (pend : List Pend) (Q : Value → LHeap → Prop) : Prop :=
 b = true ∧ bnd x fun v => plain v = true ∧ MD E r ks k (fr.put d v) h past pend Q
def MDNv (E : Env) (b : Bool) (v : Value) (d : Option Nat) (r : List (LOper × Nat × Nat)) (ks : List Nat) (k : Cont) (fr : Fr) (h : LHeap) (past : List LHeap) (pend : List Pend) (Q : Value → LHeap → Prop) : Prop :=
 b = true ∧ MD E r ks k (fr.put d v) h past pend Q
def MDP (E : Env) (c a b : Option Value) (d : Option Nat) (r : List (LOper × Nat × Nat)) (ks : List Nat) (k : Cont) (fr : Fr) (h : LHeap) (past : List LHeap) (pend : List Pend) (Q : Value → LHeap → Prop) : Prop := bnd c fun v => onB v (bnd a fun x => MD E r ks k (fr.put d x) h past pend Q) (bnd b fun x => MD E r ks k (fr.put d x) h past pend Q)
def MDR (E : Env) (x : Option (LOp Value)) (d : Option Nat) (lo hi : Nat) (r : List (LOper × Nat × Nat)) (ks : List Nat) (k : Cont) (fr : Fr) (h : LHeap) (past : List LHeap) (pend : List Pend) (Q : Value → LHeap → Prop) : Prop :=
 bnd x fun lv => bnd (lexec E.q lv h) fun p => both ((past.take (past.length - lo)).all (Pend.ok E.q ⟨lv, p.1, hi⟩)) (MD E r ks k (fr.put d p.1) h past (⟨lv, p.1, hi⟩ :: pend) Q)
def MDR2 (E : Env) (lv : LOp Value) (x : Option (Value × LHeap)) (d : Option Nat) (lo hi : Nat) (r : List (LOper × Nat × Nat)) (ks : List Nat) (k : Cont) (fr : Fr) (h : LHeap) (past : List LHeap) (pend : List Pend) (Q : Value → LHeap → Prop) : Prop :=
 bnd x fun p => both ((past.take (past.length - lo)).all (Pend.ok E.q ⟨lv, p.1, hi⟩)) (MD E r ks k (fr.put d p.1) h past (⟨lv, p.1, hi⟩ :: pend) Q)
/-- At a test that must be passed. -/
def MDt (E : Env) (c : Bool) (r : List (LOper × Nat × Nat)) (ks : List Nat) (k : Cont) (fr : Fr) (h : LHeap) (past : List LHeap) (pend : List Pend) (Q : Value → LHeap → Prop) : Prop := both c (MD E r ks k fr h past pend Q)
def MDE (E : Env) (x : Option (Value × LHeap)) (d : Option Nat) (r : List (LOper × Nat × Nat)) (ks : List Nat) (k : Cont) (fr : Fr) (h : LHeap) (past : List LHeap) (pend : List Pend) (Q : Value → LHeap → Prop) : Prop :=
 bnd x fun p => both (pend.all fun y => decide (y.hi ≤ past.length) || y.ok E.q p.2) (MD E r ks k (fr.put d p.1) p.2 (h :: past) pend Q)
def MDV (E : Env) (f : Option Value) (args : Option (List Value)) (d : Option Nat) (r : List (LOper × Nat × Nat)) (ks : List Nat) (k : Cont) (fr : Fr) (h : LHeap) (past : List LHeap) (pend : List Pend) (Q : Value → LHeap → Prop) : Prop :=
 bnd f fun v => bnd args fun vs => onF v fun g cap => LCalls E g (vs ++ cap.toList) h fun v h' => both (pend.all fun p => decide (p.hi ≤ past.length) || p.ok E.q h') (MD E r ks k (fr.put d v) h' (h :: past) pend Q)
def MDCall (E : Env) (g : FuncId) (args : List Value) (d : Option Nat) (r : List (LOper × Nat × Nat)) (ks : List Nat) (k : Cont) (fr : Fr) (h : LHeap) (past : List LHeap) (pend : List Pend) (Q : Value → LHeap → Prop) : Prop :=
 LCalls E g args h fun v h' => both (pend.all fun p => decide (p.hi ≤ past.length) || p.ok E.q h') (MD E r ks k (fr.put d v) h' (h :: past) pend Q)
def MDXp (E : Env) (x : Option Value) (d : Option Nat) (r : List (LOper × Nat × Nat)) (ks : List Nat) (k : Cont) (fr : Fr) (h : LHeap) (past : List LHeap) (pend : List Pend) (Q : Value → LHeap → Prop) : Prop :=
 bnd x fun v => both (pend.all fun p => decide (p.hi ≤ past.length) || p.ok E.q h) (MD E r ks k (fr.put d v) h (h :: past) pend Q)

def MDCallQ (E : Env) (x : Option (List Value → LHeap → Option (Value × LHeap))) (g : FuncId) (args : List Value) (d : Option Nat) (r : List (LOper × Nat × Nat)) (ks : List Nat) (k : Cont) (fr : Fr) (h : LHeap) (past : List LHeap) (pend : List Pend) (Q : Value → LHeap → Prop) : Prop :=
 match x with
 | some p => MDE E (p args h) d r ks k fr h past pend Q
 | none => MDCall E g args d r ks k fr h past pend Q
def MDNQ (E : Env) (x : Option (List Value → LHeap → Option (Value × LHeap))) (g : FuncId) (args : List Value) (d : Option Nat) (r : List (LOper × Nat × Nat)) (ks : List Nat) (k : Cont) (fr : Fr) (h : LHeap) (past : List LHeap) (pend : List Pend) (Q : Value → LHeap → Prop) : Prop :=
 match x with
 | some p => plains args = true ∧ bnd (p args LHeap.empty) fun v => plain v.1 = true ∧ MD E r ks k (fr.put d v.1) h past pend Q
 | none => plains args = true ∧ LCalls E g args LHeap.empty fun v _ => plain v = true ∧ MD E r ks k (fr.put d v) h past pend Q
theorem MDCall.by {E : Env} {g : FuncId} {args : List Value} {d : Option Nat} {r : List (LOper × Nat × Nat)} {ks : List Nat} {k : Cont} {fr : Fr} {h : LHeap} {past : List LHeap} {pend : List Pend} {Q R : Value → LHeap → Prop}
  (hc : LCalls E g args h R) (w : ∀ v h', R v h' → MDt E (pend.all fun p => decide (p.hi ≤ past.length) || p.ok E.q h') r ks k (fr.put d v) h' (h :: past) pend Q) : MDCall E g args d r ks k fr h past pend Q := hc.mono w

section
variable {E : Env} {fr : Fr} {h : LHeap} {Q : Value → LHeap → Prop} {k : Cont} {past : List LHeap} {pend : List Pend} {lo hi : Nat}
theorem MC.dregion {ops : List (LOper × Nat × Nat)} {ks : List Nat} (w : MD E ops ks k fr h [] [] Q) : MC E (.dregion ops ks) k fr h Q := LRun.dregion w
@[go_sem] theorem MD_nil (ks : List Nat) : MD E [] ks k fr h past pend Q = MK E .normal k (fr.keep ks) h Q := Eq.trans rfl rfl
@[go_sem] theorem MD_cons (d : Option Nat) (a : LAct) (r : List (LOper × Nat × Nat)) (ks : List Nat) : MD E ((⟨d, a, none⟩, lo, hi) :: r) ks k fr h past pend Q = MDc E a.cls d a lo hi r ks k fr h past pend Q := by
 simp only [MD, MDc, LDOps, guardB]
 cases a.cls <;> rfl
@[go_sem] theorem MD_guard (d : Option Nat) (a : LAct) (t : Nat) (w : Bool) (r : List (LOper × Nat × Nat)) (ks : List Nat) : MD E ((⟨d, a, some (t, w)⟩, lo, hi) :: r) ks k fr h past pend Q = MDG E (fr.get t) w d a lo hi r ks k fr h past pend Q := by
 simp only [MD, MDG, LDOps, guardB]
 cases hc : a.cls <;> cases w <;> rfl
@[go_sem] theorem MDG_u (w : Bool) (d : Option Nat) (a : LAct) (r : List (LOper × Nat × Nat)) (ks : List Nat) : MDG E (some undefL) w d a lo hi r ks k fr h past pend Q = MD E r ks k (fr.put d undefL) h (if a.cls = .effect then h :: past else past) pend Q := by cases w <;> simp [MDG, bnd, onB, undefB, undefL]
@[go_sem] theorem MDG_tt (d : Option Nat) (a : LAct) (r : List (LOper × Nat × Nat)) (ks : List Nat) : MDG E (some (.bool true)) true d a lo hi r ks k fr h past pend Q = MD E ((⟨d, a, none⟩, lo, hi) :: r) ks k fr h past pend Q := by simp [MDG, bnd, onB, undefB]
@[go_sem] theorem MDG_ff (d : Option Nat) (a : LAct) (r : List (LOper × Nat × Nat)) (ks : List Nat) : MDG E (some (.bool false)) false d a lo hi r ks k fr h past pend Q = MD E ((⟨d, a, none⟩, lo, hi) :: r) ks k fr h past pend Q := by simp [MDG, bnd, onB, undefB]
@[go_sem] theorem MDG_ft (d : Option Nat) (a : LAct) (r : List (LOper × Nat × Nat)) (ks : List Nat) : MDG E (some (.bool false)) true d a lo hi r ks k fr h past pend Q = MD E r ks k (fr.put d undefL) h (if a.cls = .effect then h :: past else past) pend Q := by simp [MDG, bnd, onB, undefB]
@[go_sem] theorem MDG_tf (d : Option Nat) (a : LAct) (r : List (LOper × Nat × Nat)) (ks : List Nat) : MDG E (some (.bool true)) false d a lo hi r ks k fr h past pend Q = MD E r ks k (fr.put d undefL) h (if a.cls = .effect then h :: past else past) pend Q := by simp [MDG, bnd, onB, undefB]
@[go_sem] theorem MDc_op (d : Option Nat) (o : LOp LO) (r : List (LOper × Nat × Nat)) (ks : List Nat) : MDc E .pure d (.op o) lo hi r ks k fr h past pend Q = MDX E (lxs E.q (o.sub fr.rd) h) d r ks k fr h past pend Q := by
 simp only [MDc, MDX, LAct.wp, lxs]
 cases o.sub fr.rd <;> rfl
@[go_sem] theorem MDc_pick (d : Option Nat) (c a b : LO) (r : List (LOper × Nat × Nat)) (ks : List Nat) : MDc E .pure d (.pick c a b) lo hi r ks k fr h past pend Q = MDP E (fr.rd c) (fr.rd a) (fr.rd b) d r ks k fr h past pend Q := Eq.trans rfl rfl
@[go_sem] theorem MDc_ncall (d : Option Nat) (g : FuncId) (args : List LO) (r : List (LOper × Nat × Nat)) (ks : List Nat) : MDc E .pure d (.ncall g args) lo hi r ks k fr h past pend Q = MDN E g (LOp.listM fr.rd args) d r ks k fr h past pend Q := Eq.trans rfl rfl
@[go_sem] theorem MDN_mk (g : FuncId) (args : List Value) (d : Option Nat) (r : List (LOper × Nat × Nat)) (ks : List Nat) : MDN E g (some args) d r ks k fr h past pend Q = MDNQ E (E.prim g) g args d r ks k fr h past pend Q := by
 cases hp : E.prim g with
 | none => rfl
 | some p => simp only [MDN, bnd_some, MDNQ, LCalls.prim_eq hp]
@[go_sem] theorem MDNQ_pure (p : List Value → Option Value) (g : FuncId) (args : List Value) (d : Option Nat) (r : List (LOper × Nat × Nat)) (ks : List Nat) : MDNQ E (some (pureP p)) g args d r ks k fr h past pend Q = MDNt E (plains args) (p args) d r ks k fr h past pend Q := by
 simp only [MDNQ, MDNt, pureP, bnd_map]
@[go_sem] theorem MDNt_some (v : Value) (d : Option Nat) (r : List (LOper × Nat × Nat)) (ks : List Nat) : MDNt E true (some v) d r ks k fr h past pend Q = MDNv E (plain v) v d r ks k fr h past pend Q := by simp [MDNt, MDNv]
@[go_sem] theorem MDNv_true (v : Value) (d : Option Nat) (r : List (LOper × Nat × Nat)) (ks : List Nat) : MDNv E true v d r ks k fr h past pend Q = MD E r ks k (fr.put d v) h past pend Q := by simp [MDNv]
@[go_sem] theorem MDc_r (d : Option Nat) (o : LOp LO) (r : List (LOper × Nat × Nat)) (ks : List Nat) : MDc E .reader d (.op o) lo hi r ks k fr h past pend Q = MDR E (o.sub fr.rd) d lo hi r ks k fr h past pend Q := Eq.trans rfl rfl
@[go_sem] theorem MDc_e (d : Option Nat) (o : LOp LO) (r : List (LOper × Nat × Nat)) (ks : List Nat) : MDc E .effect d (.op o) lo hi r ks k fr h past pend Q = MDE E (lxs E.q (o.sub fr.rd) h) d r ks k fr h past pend Q := by
 simp only [MDc, MDE, LAct.wp, lxs]
 cases o.sub fr.rd <;> rfl
@[go_sem] theorem MDc_call (d : Option Nat) (f : LO) (args : List LO) (r : List (LOper × Nat × Nat)) (ks : List Nat) : MDc E .effect d (.call f args) lo hi r ks k fr h past pend Q = MDV E (fr.rd f) (LOp.listM fr.rd args) d r ks k fr h past pend Q := Eq.trans rfl rfl
@[go_sem] theorem MDX_some (v : Value) (h' : LHeap) (d : Option Nat) (r : List (LOper × Nat × Nat)) (ks : List Nat) : MDX E (some (v, h')) d r ks k fr h past pend Q = MD E r ks k (fr.put d v) h past pend Q := Eq.trans rfl rfl
@[go_sem] theorem MDP_t (x : Value) (b : Option Value) (d : Option Nat) (r : List (LOper × Nat × Nat)) (ks : List Nat) : MDP E (some (.bool true)) (some x) b d r ks k fr h past pend Q = MD E r ks k (fr.put d x) h past pend Q := by simp [MDP, bnd, onB]
@[go_sem] theorem MDP_f (x : Value) (a : Option Value) (d : Option Nat) (r : List (LOper × Nat × Nat)) (ks : List Nat) : MDP E (some (.bool false)) a (some x) d r ks k fr h past pend Q = MD E r ks k (fr.put d x) h past pend Q := by simp [MDP, bnd, onB]
@[go_sem] theorem MDR_some (lv : LOp Value) (d : Option Nat) (r : List (LOper × Nat × Nat)) (ks : List Nat) : MDR E (some lv) d lo hi r ks k fr h past pend Q = MDR2 E lv (lexec E.q lv h) d lo hi r ks k fr h past pend Q := Eq.trans rfl rfl
@[go_sem] theorem MDR2_some (lv : LOp Value) (v : Value) (h' : LHeap) (d : Option Nat) (r : List (LOper × Nat × Nat)) (ks : List Nat) : MDR2 E lv (some (v, h')) d lo hi r ks k fr h past pend Q = MDt E ((past.take (past.length - lo)).all (Pend.ok E.q ⟨lv, v, hi⟩)) r ks k (fr.put d v) h past (⟨lv, v, hi⟩ :: pend) Q := Eq.trans rfl rfl
@[go_sem] theorem MDt_true (r : List (LOper × Nat × Nat)) (ks : List Nat) : MDt E true r ks k fr h past pend Q = MD E r ks k fr h past pend Q := by simp [MDt, both]
@[go_sem] theorem MDE_some (v : Value) (h' : LHeap) (d : Option Nat) (r : List (LOper × Nat × Nat)) (ks : List Nat) : MDE E (some (v, h')) d r ks k fr h past pend Q = MDt E (pend.all fun y => decide (y.hi ≤ past.length) || y.ok E.q h') r ks k (fr.put d v) h' (h :: past) pend Q := Eq.trans rfl rfl
@[go_sem] theorem MDV_mk (g : FuncId) (cap : Array Value) (vs : List Value) (d : Option Nat) (r : List (LOper × Nat × Nat)) (ks : List Nat) : MDV E (some (.func (.func g) #[] cap)) (some vs) d r ks k fr h past pend Q = MDCallQ E (E.prim g) g (vs ++ cap.toList) d r ks k fr h past pend Q := by
 have e : MDV E (some (.func (.func g) #[] cap)) (some vs) d r ks k fr h past pend Q = LCalls E g (vs ++ cap.toList) h fun v h' => both (pend.all fun p => decide (p.hi ≤ past.length) || p.ok E.q h') (MD E r ks k (fr.put d v) h' (h :: past) pend Q) := by simp [MDV, bnd, onF]
 rw [e]
 cases hp : E.prim g with
 | none => rfl
 | some p => rw [LCalls.prim_eq hp]; rfl
@[go_sem] theorem MDCallQ_none (g : FuncId) (args : List Value) (d : Option Nat) (r : List (LOper × Nat × Nat)) (ks : List Nat) : MDCallQ E none g args d r ks k fr h past pend Q = MDCall E g args d r ks k fr h past pend Q := Eq.trans rfl rfl
@[go_sem] theorem MDCallQ_some (p : List Value → LHeap → Option (Value × LHeap)) (g : FuncId) (args : List Value) (d : Option Nat) (r : List (LOper × Nat × Nat)) (ks : List Nat) : MDCallQ E (some p) g args d r ks k fr h past pend Q = MDE E (p args h) d r ks k fr h past pend Q := Eq.trans rfl rfl
@[go_sem] theorem MDXp_some (v : Value) (d : Option Nat) (r : List (LOper × Nat × Nat)) (ks : List Nat) : MDXp E (some v) d r ks k fr h past pend Q = MDt E (pend.all fun p => decide (p.hi ≤ past.length) || p.ok E.q h) r ks k (fr.put d v) h (h :: past) pend Q := Eq.trans rfl rfl
theorem MDCall.pure {g : FuncId} {p : List Value → Option Value} (hp : E.prim g = some (pureP p)) (args : List Value) (d : Option Nat) (r : List (LOper × Nat × Nat)) (ks : List Nat) : MDCall E g args d r ks k fr h past pend Q = MDXp E (p args) d r ks k fr h past pend Q := LCalls.pure_eq hp args h _
attribute [go_sem] LAct.cls LOp.cls Pend.ok veq
end

end Go.E1
