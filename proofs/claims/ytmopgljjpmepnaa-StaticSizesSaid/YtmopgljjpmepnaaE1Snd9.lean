/-
  All operations together.
-/
import Derived.Test.YtmopgljjpmepnaaE1Snd8
namespace Go.E1
open Go

section
variable {P : Program} {q : EqF} {o : Oper} {ρ : Operand → Value} {ν : Inj} {h h' : LHeap} {w : World} {v : Value} {rd : LO → Option Value}

def mmStep (mx : Bool) (acc : Option Value) (v : Value) : Option Value :=
  match acc, v with
  | some (Value.int k x), .int k' y => if k = k' then some (Value.int k (if mx then (if y > x then y else x) else (if y < x then y else x))) else none
  | _, _ => none

theorem mm_none (mx : Bool) (l : List Value) : l.foldl (mmStep mx) none = none := by
  induction l with
  | nil => rfl
  | cons v l ih => simpa [mmStep] using ih

theorem mm_run (mx : Bool) : ∀ (l l' : List Value) (k : IntKind) (a : Int) (r : Value), VRs ν l l' → l.foldl (mmStep mx) (some (.int k a)) = some r →
    ∃ b, r = .int k b ∧ (l'.foldlM (if mx then Builtin.max2 else Builtin.min2) (.int k a)).run P w = .ok (.int k b) w
  | [], l', k, a, r, h1, h2 => by
    rw [h1.nil_inv]
    simp only [List.foldl_nil, Option.some.injEq] at h2
    exact ⟨a, h2.symm, by simp⟩
  | v :: l, l', k, a, r, h1, h2 => by
    obtain ⟨v', m, rfl, hv, hl⟩ := h1.cons_inv
    simp only [List.foldl_cons] at h2
    cases v with
    | int k' y =>
      have hv' := hv.int_inv
      subst hv'
      by_cases hk : k = k'
      · subst hk
        have hstep : mmStep mx (some (.int k a)) (.int k y) = some (Value.int k (if mx then (if y > a then y else a) else (if y < a then y else a))) := by simp [mmStep]
        rw [hstep] at h2
        obtain ⟨b, hb, hrun⟩ := mm_run mx l m k _ r hl h2
        refine ⟨b, hb, ?_⟩
        rw [List.foldlM_cons, Sem.run_bind]
        cases mx
        · simp only [Bool.false_eq_true, if_false] at hrun ⊢
          simp only [Builtin.min2, Sem.run_pure, Result.andThen_ok]
          exact hrun
        · simp only [if_true] at hrun ⊢
          simp only [Builtin.max2, Sem.run_pure, Result.andThen_ok]
          exact hrun
      · simp only [mmStep, hk, if_false] at h2
        rw [mm_none] at h2; cases h2
    | _ => simp only [mmStep] at h2; rw [mm_none] at h2; cases h2

theorem good_minmax {mx : Bool} {args : Array Operand} {ts : Array TypeId} (ho : o.op = .call { callee := .builtin (if mx then .max else .min), args, argTypes := ts }) {l : List LO} {lv : LOp Value} (hl : LOp.listM cLO args.toList = some l)
    (hs : (LOp.minmax mx l).sub rd = some lv) (hx : lexec q lv h = some (v, h')) (hr : HR ν h w) (hv : OpsR ν o.op rd ρ) : Good P o ρ ν h w v h' := by
  obtain ⟨l2, hl2, hh⟩ := map_some hs
  subst hh
  have hvr := listM_VRs (ρ := ρ) (ν := ν) hl hl2 fun x hx => hv x (by rw [ho]; simp only [Op.operands, Call.operands]; simpa using hx)
  simp only [lexec] at hx
  split at hx
  · rename_i k a r
    obtain ⟨u, hu, hx⟩ := map_some hx
    simp only [Prod.mk.injEq] at hx
    obtain ⟨rfl, rfl⟩ := hx
    obtain ⟨v', m, hm, hv0, hlm⟩ := hvr.cons_inv
    have hv' := hv0.int_inv
    subst hv'
    obtain ⟨b, hb, hrun⟩ := mm_run (P := P) (w := w) mx r m k a u hlm hu
    subst hb
    have hargs : (args.map ρ).toList = .int k a :: m := by simpa using hm
    cases mx
    · refine Good.pure hr (bi_run (b := .min) ho (s := Builtin.min_ ts o.type (args.map ρ)) (fun c => by simp [builtin]) ?_) (.int _ _)
      unfold Builtin.min_
      rw [hargs]
      exact hrun
    · refine Good.pure hr (bi_run (b := .max) ho (s := Builtin.max_ ts o.type (args.map ρ)) (fun c => by simp [builtin]) ?_) (.int _ _)
      unfold Builtin.max_
      rw [hargs]
      exact hrun
  · cases hx

theorem cOp_sound (hq : QOk P q) (hrc : ∀ v, rd (.c v) = some v) {lo : LOp LO} {lv : LOp Value} (hc : cOp P o.op = some lo) (hs : lo.sub rd = some lv) (hx : lexec q lv h = some (v, h'))
    (hr : HR ν h w) (hv : OpsR ν o.op rd ρ) : Good P o ρ ν h w v h' := by
  cases ho : o.op with
  | move x => rw [ho] at hc hv; exact good_mov (.inl ho) hc hs hx hr (hv x (by simp [Op.operands]))
  | assign x => rw [ho] at hc hv; exact good_mov (.inr ho) hc hs hx hr (hv x (by simp [Op.operands]))
  | alloc e => rw [ho] at hc; exact good_alloc ho hc hs hx hr
  | box e x => rw [ho] at hc hv; exact good_box ho hc hs hx hr (hv x (by simp [Op.operands]))
  | build t ps => rw [ho] at hc hv; exact good_build ho hc hs hx hr hv
  | buildSlice t n ps => rw [ho] at hc hv; exact good_buildSlice ho hc hs hx hr hv
  | load t a => rw [ho] at hc hv; exact good_load ho hc hs hx hr hv
  | store t a x => rw [ho] at hc hv; exact good_store ho hc hs hx hr hv
  | nilCheck x => rw [ho] at hc hv; exact good_nilCheck ho hc hs hx hr (hv x (by simp [Op.operands]))
  | binOp op t x y yt => rw [ho] at hc hv; exact good_bin hq ho hc hs hx hr hv
  | unOp op t x => rw [ho] at hc hv; exact good_un ho hc hs hx hr (hv x (by simp [Op.operands]))
  | convert s d x => rw [ho] at hc hv; exact good_convert ho hc hs hx hr hv
  | makeFunc f a b => rw [ho] at hc hv; exact good_makeFunc ho hc hs hx hr hv
  | makeMap t r =>
    rw [ho] at hc
    cases r with
    | none => exact good_makeMap ho hc hs hx hr
    | some r => simp [cOp] at hc
  | makeSlice t n c => rw [ho] at hc hv; exact good_makeSlice ho hc hs hx hr hv
  | slice t x lo hi mx => rw [ho] at hc hv; exact good_slice ho hc hs hx hr hv
  | fieldAddr t x k => rw [ho] at hc hv; exact good_fieldAddr ho hc hs hx hr hv
  | field t x k => rw [ho] at hc hv; exact good_field ho hc hs hx hr hv
  | indexAddr t x i => rw [ho] at hc hv; exact good_indexAddr ho hc hs hx hr hv
  | index t x i => rw [ho] at hc hv; exact good_index ho hc hs hx hr hv
  | extract x i => rw [ho] at hc hv; exact good_extract ho hc hs hx hr (hv x (by simp [Op.operands]))
  | call c =>
    obtain ⟨callee, args, ts⟩ := c
    cases callee with
    | value f => rw [ho] at hc; simp [cOp] at hc
    | invoke r m => rw [ho] at hc; simp [cOp] at hc
    | builtin b =>
      rw [ho] at hc
      simp only [cOp] at hc
      split at hc
      · rename_i l hl
        cases b with
        | len => exact good_len hrc ho hl hc hs hx hr hv
        | append => exact good_append ho hl hc hs hx hr hv
        | copy => exact good_copy ho hl hc hs hx hr hv
        | max =>
          simp only [cBuiltin, Option.some.injEq] at hc
          subst hc
          exact good_minmax (mx := true) ho hl hs hx hr hv
        | min =>
          simp only [cBuiltin, Option.some.injEq] at hc
          subst hc
          exact good_minmax (mx := false) ho hl hs hx hr hv
        | _ => simp [cBuiltin] at hc
      · cases hc
  | _ => rw [ho] at hc; simp [cOp] at hc

end
end Go.E1
