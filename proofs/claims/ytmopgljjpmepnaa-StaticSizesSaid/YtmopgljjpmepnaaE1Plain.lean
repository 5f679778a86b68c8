/-
  Plain values (no addresses), calls over plain values as primitives, and environments.
-/
import Derived.Test.YtmopgljjpmepnaaE1Top
namespace Go.E1
open Go Go.RowKit

mutual
def plain : Value → Bool
  | .bool _ | .int _ _ | .string _ | .pointer none | .slice none 0 0 | .map none | .nilFunc | .nilIface => true
  | .agg ⟨a⟩ => plains a
  | .tuple ⟨a⟩ => plains a
  | .iface _ v => plain v
  | _ => false
def plains : List Value → Bool
  | [] => true
  | v :: l => plain v && plains l
end

mutual
theorem plain_eq {ν : Inj} : ∀ (v v' : Value), plain v = true → VR ν v v' → v' = v
  | .bool _, _, _, h => by cases h; rfl
  | .int _ _, _, _, h => by cases h; rfl
  | .string _, _, _, h => by cases h; rfl
  | .pointer none, _, _, h => by cases h; rfl
  | .slice none 0 0, _, _, h => by cases h; rfl
  | .map none, _, _, h => by cases h; rfl
  | .nilFunc, _, _, h => by cases h; rfl
  | .nilIface, _, _, h => by cases h; rfl
  | .agg ⟨a⟩, v', hp, h => by
    cases h with
    | @agg _ c' hs hh =>
      obtain ⟨c'⟩ := c'
      have := plains_eq a c' (by simpa [plain] using hp) ⟨by simpa using hs, fun i x y p q => hh i x y (by simpa using p) (by simpa using q)⟩
      rw [this]
  | .tuple ⟨a⟩, v', hp, h => by
    cases h with
    | @tuple _ c' hs hh =>
      obtain ⟨c'⟩ := c'
      have := plains_eq a c' (by simpa [plain] using hp) ⟨by simpa using hs, fun i x y p q => hh i x y (by simpa using p) (by simpa using q)⟩
      rw [this]
  | .iface _ v, v', hp, h => by
    cases h with
    | @iface _ _ u hh => rw [plain_eq v u (by simpa [plain] using hp) hh]
  | .pointer (some _), _, hp, _ => by simp [plain] at hp
  | .slice (some _) _ _, _, hp, _ => by simp [plain] at hp
  | .slice none (_ + 1) _, _, hp, _ => by simp [plain] at hp
  | .slice none 0 (_ + 1), _, hp, _ => by simp [plain] at hp
  | .map (some _), _, hp, _ => by simp [plain] at hp
  | .func _ _ _, _, hp, _ => by simp [plain] at hp
  | .float _ _, _, hp, _ => by simp [plain] at hp
  | .complex _ _ _, _, hp, _ => by simp [plain] at hp
  | .chan _, _, hp, _ => by simp [plain] at hp
theorem plains_eq {ν : Inj} : ∀ (l l' : List Value), plains l = true → VRs ν l l' → l' = l
  | [], l', _, h => h.nil_inv
  | v :: l, l', hp, h => by
    obtain ⟨v', m, rfl, h1, h2⟩ := h.cons_inv
    simp only [plains, Bool.and_eq_true] at hp
    rw [plain_eq v v' hp.1 h1, plains_eq l m hp.2 h2]
end

mutual
theorem plain_VR (ν : Inj) : ∀ (v : Value), plain v = true → VR ν v v
  | .bool _, _ => .bool _
  | .int _ _, _ => .int _ _
  | .string _, _ => .string _
  | .pointer none, _ => .pnil
  | .slice none 0 0, _ => .snil
  | .map none, _ => .mnil
  | .nilFunc, _ => .fnil
  | .nilIface, _ => .inil
  | .agg ⟨a⟩, hp => VRs.agg (plains_VR ν a (by simpa [plain] using hp))
  | .tuple ⟨a⟩, hp => VRs.tuple (plains_VR ν a (by simpa [plain] using hp))
  | .iface _ v, hp => .iface (plain_VR ν v (by simpa [plain] using hp))
  | .pointer (some _), hp => by simp [plain] at hp
  | .slice (some _) _ _, hp => by simp [plain] at hp
  | .slice none (_ + 1) _, hp => by simp [plain] at hp
  | .slice none 0 (_ + 1), hp => by simp [plain] at hp
  | .map (some _), hp => by simp [plain] at hp
  | .func _ _ _, hp => by simp [plain] at hp
  | .float _ _, hp => by simp [plain] at hp
  | .complex _ _ _, hp => by simp [plain] at hp
  | .chan _, hp => by simp [plain] at hp
theorem plains_VR (ν : Inj) : ∀ (l : List Value), plains l = true → VRs ν l l
  | [], _ => .nil ν
  | v :: l, hp => by
    simp only [plains, Bool.and_eq_true] at hp
    exact .cons (plain_VR ν v hp.1) (plains_VR ν l hp.2)
end

/-- A call over plain values that answers plainly does so in whatever heap, and leaves it as it was. -/
theorem Sound.lift {P : Program} {f : FuncId} {args : List Value} {v : Value} {h₁ : LHeap} (hs : Sound P f args LHeap.empty v h₁) (ha : plains args = true) (hv : plain v = true) (h : LHeap) : Sound P f args h v h := by
  refine ⟨hs.1, fun ν w args' hr hargs => ?_⟩
  have e := plains_eq _ _ ha hargs
  refine (hs.2 (fun _ => Option.none) w args' (HR.none w _) (by rw [e]; exact plains_VR _ _ ha)).mono ?_
  rintro x w' ⟨ν', v', rfl, h1, _, h3⟩
  have := plain_eq _ _ hv h1
  subst this
  have old : ∀ B, B < w.heap.size → w'.heap[B]? = w.heap[B]? := fun B hB => h3.frame B hB fun _ _ h => (nomatch h)
  refine ⟨ν, v', rfl, plain_VR ν v' hv, ⟨hr.dom, ?_, hr.sep, fun b pl hb => Nat.lt_of_lt_of_le (hr.real b pl hb) h3.size⟩, ⟨Inj.le_refl ν, h3.os, h3.tape, h3.output, h3.size, Nat.le_refl _, fun B hB _ => old B hB, fun b pl hb hw _ => ⟨b, pl, hb, rfl, hw⟩⟩⟩
  intro b pl hb
  have ho := hr.obj b pl hb
  unfold ObjR at ho ⊢
  rw [old pl.B (hr.real b pl hb)]
  exact ho

/-! ### Primitives -/

/-- What answers by its arguments alone. -/
def pureP (g : List Value → Option Value) : List Value → LHeap → Option (Value × LHeap) := fun args h => (g args).map (·, h)

def Env.add (E : Env) (f : FuncId) (g : List Value → Option Value) : Env := { E with prim := fun i => if i = f then some (pureP g) else E.prim i }

theorem EnvOk.add {P : Program} {E : Env} (hE : EnvOk P E) (f : FuncId) (g : List Value → Option Value) (hg : ∀ args v, g args = some v → plains args = true ∧ plain v = true ∧ LCalls E f args LHeap.empty fun u _ => u = v) : EnvOk P (E.add f g) where
  orders := hE.orders
  q := hE.q
  code := hE.code
  prim := by
    intro i p hp args h v h' hx
    simp only [Env.add] at hp
    split at hp
    · rename_i e
      subst e
      cases hp
      simp only [pureP, Option.map_eq_some_iff] at hx
      obtain ⟨u, h1, h2⟩ := hx
      cases h2
      obtain ⟨h3, h4, h5⟩ := hg args v h1
      obtain ⟨u, h1, h6, rfl⟩ := h5.sound hE
      exact h6.lift h3 h4 h
    · exact hE.prim i p hp args h v h' hx

theorem LCalls.pure_eq {E : Env} {f : FuncId} {g : List Value → Option Value} (hp : E.prim f = some (pureP g)) (args : List Value) (h : LHeap) (Q : Value → LHeap → Prop) : LCalls E f args h Q = bnd (g args) fun v => Q v h := by
  apply propext
  constructor
  · rintro ⟨k, v, h', hk, hQ⟩
    have := hk (k + 1) (Nat.le_succ k)
    simp only [evF, hp, pureP, Option.map_eq_some_iff, Prod.mk.injEq] at this
    obtain ⟨u, h1, rfl, rfl⟩ := this
    rw [h1]
    exact hQ
  · intro w
    obtain ⟨v, h1, h2⟩ := bnd_iff.1 w
    exact LCalls.prim hp (by simp [pureP, h1]) h2

/-- Operations that only reckon, at once. -/
def pures (q : EqF) : List LOper → Fr → Option Fr
  | [], fr => some fr
  | o :: r, fr => match o.act.cls, o.guard with
    | .pure, none => match o.act with
      | .op op => match op.sub fr.rd with
        | some lv => match lexec q lv LHeap.empty with
          | some (v, _) => pures q r (fr.put o.dst v)
          | none => none
        | none => none
      | _ => none
    | _, _ => none

theorem LOps.pures {E : Env} : ∀ (a b : List LOper) {fr fr' : Fr} {h : LHeap} {K : Fr → LHeap → Prop}, pures E.q a fr = some fr' → LOps E b fr' h K → LOps E (a ++ b) fr h K
  | [], b, fr, fr', h, K, hp, w => by cases hp; exact w
  | o :: a, b, fr, fr', h, K, hp, w => by
    obtain ⟨d, act, g⟩ := o
    simp only [E1.pures] at hp
    split at hp
    · rename_i hc
      split at hp
      · rename_i op
        split at hp
        · rename_i lv hs
          split at hp
          · rename_i v h1 hx
            simp only [List.cons_append, LOps, LAct.wp, hs, bnd_some]
            have hcl : lv.cls = .pure := by rw [sub_cls hs]; exact hc
            rw [lexec_pure hcl hx h]
            exact LOps.pures a b hp w
          · cases hp
        · cases hp
      · cases hp
    · cases hp

/-! ### Tables of code -/

def tabOf (l : List (FuncId × LFunc)) : FuncId → Option LFunc := fun f => l.lookup f

theorem tabOf_ok {P : Program} {l : List (FuncId × LFunc)} (h : ∀ p ∈ l, ∃ fn ks, P.funcs[p.1]? = some fn ∧ cFunc P fn ks = some p.2) : ∀ f lf, tabOf l f = some lf → ∃ fn ks, P.funcs[f]? = some fn ∧ cFunc P fn ks = some lf := by
  intro f lf hl
  unfold tabOf at hl
  induction l with
  | nil => simp at hl
  | cons p l ih =>
    obtain ⟨i, x⟩ := p
    simp only [List.lookup] at hl
    split at hl
    · rename_i e
      cases hl
      have : f = i := by simpa using e
      subst this
      exact h _ (List.mem_cons_self ..)
    · exact ih (fun p hp => h p (List.mem_cons_of_mem _ hp)) hl

end Go.E1
