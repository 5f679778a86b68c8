/-
  Weakest conditions over the engine's evaluator: what a function answers, shown rule by rule.
-/
import Derived.Test.YtmopgljjpmepnaaE1Main
namespace Go.E1
open Go

/-- With enough fuel, the call answers so. -/
def LCalls (E : Env) (f : FuncId) (args : List Value) (h : LHeap) (Q : Value → LHeap → Prop) : Prop :=
  ∃ k₀ v h', (∀ k, k₀ ≤ k → evF E k f args h = some (v, h')) ∧ Q v h'

def bnd {α : Type} (x : Option α) (f : α → Prop) : Prop :=
  match x with
  | some a => f a
  | none => False

@[simp] theorem bnd_some {α : Type} (a : α) (f : α → Prop) : bnd (some a) f = f a := rfl
@[simp] theorem bnd_none {α : Type} (f : α → Prop) : bnd (none : Option α) f = False := rfl
theorem bnd_iff {α : Type} {x : Option α} {f : α → Prop} : bnd x f ↔ ∃ a, x = some a ∧ f a := by
  cases x <;> simp [bnd]
@[simp] theorem bnd_ite {α : Type} (c : Prop) [Decidable c] (x y : Option α) (f : α → Prop) : bnd (if c then x else y) f = ((c → bnd x f) ∧ (¬ c → bnd y f)) := by
  by_cases h : c <;> simp [h]
@[simp] theorem bnd_map {α β : Type} (x : Option α) (g : α → β) (f : β → Prop) : bnd (x.map g) f = bnd x (fun a => f (g a)) := by
  cases x <;> rfl

/-- By a truth value. -/
def onB (v : Value) (a b : Prop) : Prop :=
  match v with
  | .bool c => (c = true → a) ∧ (c = false → b)
  | _ => False
@[simp] theorem onB_bool (c : Bool) (a b : Prop) : onB (.bool c) a b = ((c = true → a) ∧ (c = false → b)) := rfl

def onF (v : Value) (f : FuncId → Array Value → Prop) : Prop :=
  match v with
  | .func (.func g) first cap => first.size = 0 ∧ f g cap
  | _ => False
@[simp] theorem onF_func (g : FuncId) (first cap : Array Value) (f : FuncId → Array Value → Prop) : onF (.func (.func g) first cap) f = (first.size = 0 ∧ f g cap) := rfl

def LAct.wp (E : Env) (a : LAct) (fr : Fr) (h : LHeap) (K : Value → LHeap → Prop) : Prop :=
  match a with
  | .op o => bnd (o.sub fr.rd) fun lv => bnd (lexec E.q lv h) fun p => K p.1 p.2
  | .pick c a b => bnd (fr.rd c) fun v => onB v (bnd (fr.rd a) fun x => K x h) (bnd (fr.rd b) fun x => K x h)
  | .call f args => bnd (fr.rd f) fun v => bnd (LOp.listM fr.rd args) fun vs => onF v fun g cap => LCalls E g (vs ++ cap.toList) h K

def LOps (E : Env) : List LOper → Fr → LHeap → (Fr → LHeap → Prop) → Prop
  | [], fr, h, K => K fr h
  | ⟨d, a, none⟩ :: r, fr, h, K => a.wp E fr h fun v h' => LOps E r (fr.put d v) h' K
  | ⟨d, a, some (t, want)⟩ :: r, fr, h, K => bnd (fr.get t) fun b => match want with
    | true => onB b (a.wp E fr h fun v h' => LOps E r (fr.put d v) h' K) (LOps E r (fr.put d undefL) h K)
    | false => onB b (LOps E r (fr.put d undefL) h K) (a.wp E fr h fun v h' => LOps E r (fr.put d v) h' K)

/-- Enough fuel, and then always the same. -/
def LRun (E : Env) (c : LCode) (fr : Fr) (h : LHeap) (K : LEx → Fr → LHeap → Prop) : Prop :=
  ∃ k₀ x fr' h', (∀ k, k₀ ≤ k → evC E.q (evF E k) k c fr h = some (x, fr', h')) ∧ K x fr' h'

def onX (x : LEx) (a : Prop) (b : Nat → Prop) (c : Prop) : Prop :=
  match x with
  | .normal => a
  | .exit j => b j
  | .ret => c
@[simp] theorem onX_normal (a : Prop) (b : Nat → Prop) (c : Prop) : onX .normal a b c = a := rfl
@[simp] theorem onX_exit (j : Nat) (a : Prop) (b : Nat → Prop) (c : Prop) : onX (.exit j) a b c = b j := rfl
@[simp] theorem onX_ret (a : Prop) (b : Nat → Prop) (c : Prop) : onX .ret a b c = c := rfl

def LC (E : Env) : LCode → Fr → LHeap → (LEx → Fr → LHeap → Prop) → Prop
  | .skip, fr, h, K => K .normal fr h
  | .region ops ks, fr, h, K => LOps E ops fr h fun fr' h' => K .normal (fr'.keep ks) h'
  | .dregion ops ks, fr, h, K => LRun E (.dregion ops ks) fr h K
  | .seq a b, fr, h, K => LC E a fr h fun x fr' h' => onX x (LC E b fr' h' K) (fun j => K (.exit j) fr' h') (K .ret fr' h')
  | .cond c a b, fr, h, K => bnd (fr.rd c) fun v => onB v (LC E a fr h K) (LC E b fr h K)
  | .block id a, fr, h, K => LC E a fr h fun x fr' h' => onX x (K .normal fr' h') (fun j => if j = id then K .normal fr' h' else K (.exit j) fr' h') (K .ret fr' h')
  | .loop a, fr, h, K => LRun E (.loop a) fr h K
  | .exit id, fr, h, K => K (.exit id) fr h
  | .ret, fr, h, K => K .ret fr h

/-! ### They hold of the evaluator -/

theorem LCalls.mono {E : Env} {f : FuncId} {args : List Value} {h : LHeap} {Q R : Value → LHeap → Prop} (a : LCalls E f args h Q) (k : ∀ v h', Q v h' → R v h') : LCalls E f args h R :=
  let ⟨n, v, h', p, q⟩ := a; ⟨n, v, h', p, k v h' q⟩

theorem LAct.wp_run {E : Env} {a : LAct} {fr : Fr} {h : LHeap} {K : Value → LHeap → Prop} (w : a.wp E fr h K) :
    ∃ k₀ v h', (∀ k, k₀ ≤ k → lact E.q (evF E k) a fr h = some (v, h')) ∧ K v h' := by
  cases a with
  | op o =>
    simp only [LAct.wp, bnd_iff] at w
    obtain ⟨lv, h1, ⟨v, h'⟩, h2, h3⟩ := w
    exact ⟨0, v, h', fun k _ => by simp [lact, h1, h2], h3⟩
  | pick c x y =>
    simp only [LAct.wp, bnd_iff] at w
    obtain ⟨v, h1, h2⟩ := w
    cases v with
    | bool b =>
      rw [onB_bool] at h2
      cases b with
      | true =>
        obtain ⟨u, h3, h4⟩ := h2.1 rfl
        exact ⟨0, u, h, fun k _ => by simp [lact, h1, h3], h4⟩
      | false =>
        obtain ⟨u, h3, h4⟩ := h2.2 rfl
        exact ⟨0, u, h, fun k _ => by simp [lact, h1, h3], h4⟩
    | _ => simp [onB] at h2
  | call f args =>
    simp only [LAct.wp, bnd_iff] at w
    obtain ⟨v, h1, vs, h2, h3⟩ := w
    unfold onF at h3
    split at h3
    · rename_i g first cap
      obtain ⟨h4, k₀, u, h', h5, h6⟩ := h3
      exact ⟨k₀, u, h', fun k hk => by simp [lact, h1, h2, h4, h5 k hk], h6⟩
    · exact h3.elim

theorem LOps.run {E : Env} : ∀ (ops : List LOper) {fr : Fr} {h : LHeap} {K : Fr → LHeap → Prop}, LOps E ops fr h K →
    ∃ k₀ fr' h', (∀ k, k₀ ≤ k → lops E.q (evF E k) ops fr h = some (fr', h')) ∧ K fr' h'
  | [], fr, h, K, w => ⟨0, fr, h, fun _ _ => rfl, w⟩
  | ⟨d, a, g⟩ :: r, fr, h, K, w => by
    have one : (a.wp E fr h fun v h' => LOps E r (fr.put d v) h' K) → (LOper.wanted ⟨d, a, g⟩ fr = some true) →
        ∃ k₀ fr' h', (∀ k, k₀ ≤ k → lops E.q (evF E k) (⟨d, a, g⟩ :: r) fr h = some (fr', h')) ∧ K fr' h' := by
      intro w hw
      obtain ⟨k₁, v, h1, h2, h3⟩ := LAct.wp_run w
      obtain ⟨k₂, fr', h', h4, h5⟩ := LOps.run r h3
      refine ⟨max k₁ k₂, fr', h', fun k hk => ?_, h5⟩
      simp only [lops, loper, hw, h2 k (by omega), h4 k (by omega)]
    have two : LOps E r (fr.put d undefL) h K → (LOper.wanted ⟨d, a, g⟩ fr = some false) →
        ∃ k₀ fr' h', (∀ k, k₀ ≤ k → lops E.q (evF E k) (⟨d, a, g⟩ :: r) fr h = some (fr', h')) ∧ K fr' h' := by
      intro w hw
      obtain ⟨k₂, fr', h', h4, h5⟩ := LOps.run r w
      refine ⟨k₂, fr', h', fun k hk => ?_, h5⟩
      simp only [lops, loper, hw, h4 k hk]
    cases g with
    | none => exact one w rfl
    | some g =>
      obtain ⟨t, want⟩ := g
      obtain ⟨b, hb, w⟩ := bnd_iff.1 w
      cases want
      · cases b with
        | bool b =>
          cases b
          · exact one (w.2 rfl) (by simp [LOper.wanted, hb])
          · exact two (w.1 rfl) (by simp [LOper.wanted, hb])
        | _ => simp [onB] at w
      · cases b with
        | bool b =>
          cases b
          · exact two (w.2 rfl) (by simp [LOper.wanted, hb])
          · exact one (w.1 rfl) (by simp [LOper.wanted, hb])
        | _ => simp [onB] at w

theorem LC.run {E : Env} : ∀ (c : LCode) {fr : Fr} {h : LHeap} {K : LEx → Fr → LHeap → Prop}, LC E c fr h K → LRun E c fr h K
  | .skip, fr, h, K, w => ⟨0, .normal, fr, h, fun _ _ => rfl, w⟩
  | .exit id, fr, h, K, w => ⟨0, .exit id, fr, h, fun _ _ => rfl, w⟩
  | .ret, fr, h, K, w => ⟨0, .ret, fr, h, fun _ _ => rfl, w⟩
  | .dregion ops ks, fr, h, K, w => w
  | .loop a, fr, h, K, w => w
  | .region ops ks, fr, h, K, w => by
    obtain ⟨k₀, fr', h', h1, h2⟩ := LOps.run ops w
    exact ⟨k₀, .normal, fr'.keep ks, h', fun k hk => by simp [evC, h1 k hk], h2⟩
  | .seq a b, fr, h, K, w => by
    obtain ⟨k₁, x, fr₁, h₁, h1, h2⟩ := LC.run a w
    cases x with
    | normal =>
      obtain ⟨k₂, x, fr₂, h₂, h3, h4⟩ := LC.run b h2
      exact ⟨max k₁ k₂, x, fr₂, h₂, fun k hk => by simp only [evC, h1 k (by omega), h3 k (by omega)], h4⟩
    | exit j => exact ⟨k₁, .exit j, fr₁, h₁, fun k hk => by simp only [evC, h1 k hk], h2⟩
    | ret => exact ⟨k₁, .ret, fr₁, h₁, fun k hk => by simp only [evC, h1 k hk], h2⟩
  | .cond c a b, fr, h, K, w => by
    obtain ⟨v, hv, w⟩ := bnd_iff.1 w
    cases v with
    | bool v =>
      cases v
      · obtain ⟨k₁, x, fr₁, h₁, h1, h2⟩ := LC.run b (w.2 rfl)
        exact ⟨k₁, x, fr₁, h₁, fun k hk => by simp only [evC, hv, h1 k hk], h2⟩
      · obtain ⟨k₁, x, fr₁, h₁, h1, h2⟩ := LC.run a (w.1 rfl)
        exact ⟨k₁, x, fr₁, h₁, fun k hk => by simp only [evC, hv, h1 k hk], h2⟩
    | _ => simp [onB] at w
  | .block id a, fr, h, K, w => by
    obtain ⟨k₁, x, fr₁, h₁, h1, h2⟩ := LC.run a w
    cases x with
    | normal => exact ⟨k₁, .normal, fr₁, h₁, fun k hk => by simp only [evC, h1 k hk], h2⟩
    | ret => exact ⟨k₁, .ret, fr₁, h₁, fun k hk => by simp only [evC, h1 k hk], h2⟩
    | exit j =>
      rw [onX_exit] at h2
      by_cases e : j = id
      · rw [if_pos e] at h2
        exact ⟨k₁, .normal, fr₁, h₁, fun k hk => by simp only [evC, h1 k hk, e, if_true], h2⟩
      · rw [if_neg e] at h2
        exact ⟨k₁, .exit j, fr₁, h₁, fun k hk => by simp only [evC, h1 k hk, e, if_false], h2⟩

/-- A loop, by what holds ahead of each turn, with a number that falls. -/
theorem LC.loop {E : Env} {a : LCode} {fr : Fr} {h : LHeap} {K : LEx → Fr → LHeap → Prop} (I : Nat → Fr → LHeap → Prop) (n : Nat) (start : I n fr h)
    (step : ∀ n fr h, I n fr h → LC E a fr h fun x fr' h' => onX x (∃ m, m < n ∧ I m fr' h') (fun j => K (.exit j) fr' h') (K .ret fr' h')) :
    LC E (.loop a) fr h K := by
  have main : ∀ n fr h, I n fr h → ∃ k₀ m₀ x fr' h', (∀ k, k₀ ≤ k → ∀ m, m₀ ≤ m → loopN (evC E.q (evF E k) k a) m fr h = some (x, fr', h')) ∧ K x fr' h' := by
    intro n
    induction n using Nat.strongRecOn with
    | ind n ih =>
      intro fr h hI
      obtain ⟨k₁, x, fr₁, h₁, h1, h2⟩ := LC.run a (step n fr h hI)
      cases x with
      | normal =>
        obtain ⟨m, hm, hI'⟩ := h2
        obtain ⟨k₂, m₂, x, fr₂, h₂, h3, h4⟩ := ih m hm fr₁ h₁ hI'
        refine ⟨max k₁ k₂, m₂ + 1, x, fr₂, h₂, fun k hk m hm => ?_, h4⟩
        obtain ⟨m, rfl⟩ : ∃ m', m = m' + 1 := ⟨m - 1, by omega⟩
        simp only [loopN, h1 k (by omega)]
        exact h3 k (by omega) m (by omega)
      | exit j =>
        refine ⟨k₁, 1, .exit j, fr₁, h₁, fun k hk m hm => ?_, h2⟩
        obtain ⟨m, rfl⟩ : ∃ m', m = m' + 1 := ⟨m - 1, by omega⟩
        simp only [loopN, h1 k (by omega)]
      | ret =>
        refine ⟨k₁, 1, .ret, fr₁, h₁, fun k hk m hm => ?_, h2⟩
        obtain ⟨m, rfl⟩ : ∃ m', m = m' + 1 := ⟨m - 1, by omega⟩
        simp only [loopN, h1 k (by omega)]
  obtain ⟨k₀, m₀, x, fr', h', h1, h2⟩ := main n fr h start
  exact ⟨max k₀ m₀, x, fr', h', fun k hk => by simpa only [evC] using h1 k (by omega) k (by omega), h2⟩

/-- Weaker. -/
theorem LRun.mono {E : Env} {c : LCode} {fr : Fr} {h : LHeap} {K L : LEx → Fr → LHeap → Prop} (a : LRun E c fr h K) (k : ∀ x fr' h', K x fr' h' → L x fr' h') : LRun E c fr h L :=
  let ⟨n, x, fr', h', p, q⟩ := a; ⟨n, x, fr', h', p, k x fr' h' q⟩
theorem LAct.wp_mono {E : Env} {a : LAct} {fr : Fr} {h : LHeap} {K L : Value → LHeap → Prop} (w : a.wp E fr h K) (k : ∀ v h', K v h' → L v h') : a.wp E fr h L := by
  cases a with
  | op o =>
    simp only [LAct.wp, bnd_iff] at w ⊢
    obtain ⟨lv, h1, p, h2, h3⟩ := w
    exact ⟨lv, h1, p, h2, k _ _ h3⟩
  | pick c x y =>
    simp only [LAct.wp, bnd_iff] at w ⊢
    obtain ⟨v, h1, h2⟩ := w
    refine ⟨v, h1, ?_⟩
    cases v with
    | bool b => exact ⟨fun e => let ⟨u, p, q⟩ := h2.1 e; ⟨u, p, k _ _ q⟩, fun e => let ⟨u, p, q⟩ := h2.2 e; ⟨u, p, k _ _ q⟩⟩
    | _ => simp [onB] at h2
  | call f args =>
    simp only [LAct.wp, bnd_iff] at w ⊢
    obtain ⟨v, h1, vs, h2, h3⟩ := w
    refine ⟨v, h1, vs, h2, ?_⟩
    unfold onF at h3 ⊢
    split at h3
    · exact ⟨h3.1, h3.2.mono k⟩
    · exact h3.elim
theorem LOps.mono {E : Env} : ∀ (ops : List LOper) {fr : Fr} {h : LHeap} {K L : Fr → LHeap → Prop}, LOps E ops fr h K → (∀ fr' h', K fr' h' → L fr' h') → LOps E ops fr h L
  | [], fr, h, K, L, w, k => k _ _ w
  | ⟨d, a, none⟩ :: r, fr, h, K, L, w, k => LAct.wp_mono w fun v h' w => LOps.mono r w k
  | ⟨d, a, some (t, want)⟩ :: r, fr, h, K, L, w, k => by
    obtain ⟨b, hb, w⟩ := bnd_iff.1 w
    refine bnd_iff.2 ⟨b, hb, ?_⟩
    cases b with
    | bool b =>
      cases want
      · exact ⟨fun e => LOps.mono r (w.1 e) k, fun e => LAct.wp_mono (w.2 e) fun v h' w => LOps.mono r w k⟩
      · exact ⟨fun e => LAct.wp_mono (w.1 e) fun v h' w => LOps.mono r w k, fun e => LOps.mono r (w.2 e) k⟩
    | _ => cases want <;> simp [onB] at w
theorem LC.mono {E : Env} : ∀ (c : LCode) {fr : Fr} {h : LHeap} {K L : LEx → Fr → LHeap → Prop}, LC E c fr h K → (∀ x fr' h', K x fr' h' → L x fr' h') → LC E c fr h L
  | .skip, fr, h, K, L, w, k => k _ _ _ w
  | .exit id, fr, h, K, L, w, k => k _ _ _ w
  | .ret, fr, h, K, L, w, k => k _ _ _ w
  | .dregion ops ks, fr, h, K, L, w, k => LRun.mono w k
  | .loop a, fr, h, K, L, w, k => LRun.mono w k
  | .region ops ks, fr, h, K, L, w, k => LOps.mono ops w fun fr' h' => k _ _ _
  | .seq a b, fr, h, K, L, w, k => LC.mono a w fun x fr' h' w => by
    cases x
    · exact LC.mono b w k
    · exact k _ _ _ w
    · exact k _ _ _ w
  | .cond c a b, fr, h, K, L, w, k => by
    obtain ⟨v, hv, w⟩ := bnd_iff.1 w
    refine bnd_iff.2 ⟨v, hv, ?_⟩
    cases v with
    | bool v => exact ⟨fun e => LC.mono a (w.1 e) k, fun e => LC.mono b (w.2 e) k⟩
    | _ => simp [onB] at w
  | .block id a, fr, h, K, L, w, k => LC.mono a w fun x fr' h' w => by
    cases x
    · exact k _ _ _ w
    · rw [onX_exit] at w ⊢
      split
      · rename_i e; rw [if_pos e] at w; exact k _ _ _ w
      · rename_i e; rw [if_neg e] at w; exact k _ _ _ w
    · exact k _ _ _ w

/-- A function by its code. -/
theorem LCalls.code {E : Env} {f : FuncId} {lf : LFunc} {args : List Value} {h : LHeap} {Q : Value → LHeap → Prop} (hp : E.prim f = none) (hc : E.code f = some lf) (hl : args.length ≤ lf.ntmps)
    (w : LC E lf.body (params 0 args) h fun x fr h' => onX x (bnd (finish lf.results fr h') fun v => Q v h') (fun _ => False) (bnd (finish lf.results fr h') fun v => Q v h')) : LCalls E f args h Q := by
  obtain ⟨k₀, x, fr', h', h1, h2⟩ := LC.run _ w
  have key : ∀ v, finish lf.results fr' h' = some v → Q v h' → (x = .normal ∨ x = .ret) → LCalls E f args h Q := by
    intro v hv hQ hx
    refine ⟨k₀ + 1, v, h', fun k hk => ?_, hQ⟩
    obtain ⟨k, rfl⟩ : ∃ m, k = m + 1 := ⟨k - 1, by omega⟩
    simp only [evF, hp, hc, hl, if_true, h1 k (by omega)]
    rcases hx with rfl | rfl <;> simp [hv]
  cases x with
  | normal => obtain ⟨v, a, b⟩ := bnd_iff.1 h2; exact key v a b (.inl rfl)
  | exit j => exact h2.elim
  | ret => obtain ⟨v, a, b⟩ := bnd_iff.1 h2; exact key v a b (.inr rfl)

theorem LCalls.prim {E : Env} {f : FuncId} {p : List Value → LHeap → Option (Value × LHeap)} {args : List Value} {h h' : LHeap} {v : Value} {Q : Value → LHeap → Prop} (hp : E.prim f = some p) (hx : p args h = some (v, h')) (q : Q v h') : LCalls E f args h Q :=
  ⟨1, v, h', fun k hk => by obtain ⟨k, rfl⟩ : ∃ m, k = m + 1 := ⟨k - 1, by omega⟩; simp [evF, hp, hx], q⟩

/-- And so of the program. -/
theorem LCalls.sound {P : Program} {E : Env} (hE : EnvOk P E) {f : FuncId} {args : List Value} {h : LHeap} {Q : Value → LHeap → Prop} (a : LCalls E f args h Q) : ∃ v h', Sound P f args h v h' ∧ Q v h' :=
  let ⟨k, v, h', p, q⟩ := a; ⟨v, h', evF_sound hE k f args h v h' (p k (Nat.le_refl k)), q⟩

/-! ### Heaps that only grew -/

structure Ext (h h' : LHeap) : Prop where
  size : h.size ≤ h'.size
  get : ∀ b, b < h.size → h'.get b = h.get b

theorem Ext.refl (h : LHeap) : Ext h h := ⟨Nat.le_refl _, fun _ _ => rfl⟩
theorem Ext.trans {a b c : LHeap} (x : Ext a b) (y : Ext b c) : Ext a c := ⟨Nat.le_trans x.size y.size, fun i hi => by rw [y.get i (Nat.lt_of_lt_of_le hi x.size), x.get i hi]⟩
theorem Ext.push (h : LHeap) (o : LObj) : Ext h (h.push o) := ⟨Nat.le_succ _, fun b hb => by simp [Nat.ne_of_lt hb]⟩
theorem Ext.set {h h' : LHeap} (x : Ext h h') {b : Nat} (hb : h.size ≤ b) (o : LObj) : Ext h (h'.set b o) := by
  refine ⟨x.size, fun c hc => ?_⟩
  have : c ≠ b := by omega
  simp [this, x.get c hc]
theorem Ext.pushed {h h' : LHeap} (x : Ext h h') (o : LObj) : Ext h (h'.push o) := x.trans (Ext.push h' o)

end Go.E1
