/-
  A region that draws its order: what its evaluation in the text's order tells of each operation.
-/
import Derived.Test.YtmopgljjpmepnaaE1Code
namespace Go.E1
open Go

mutual
theorem veq_eq : ∀ (a b : Value), veq a b = true → a = b
  | .bool a, .bool b, h => by simpa [veq] using h
  | .int k a, .int l b, h => by simpa [veq] using h
  | .string a, .string b, h => by simpa [veq] using h
  | .pointer a, .pointer b, h => by simpa [veq] using h
  | .slice a n c, .slice b m d, h => by
    simp only [veq, Bool.and_eq_true, beq_iff_eq] at h
    obtain ⟨⟨h1, h2⟩, h3⟩ := h
    rw [h1, h2, h3]
  | .map a, .map b, h => by simpa [veq] using h
  | .nilFunc, .nilFunc, _ => rfl
  | .func f ⟨a⟩ ⟨c⟩, .func g ⟨b⟩ ⟨d⟩, h => by
    simp only [veq, Bool.and_eq_true, beq_iff_eq] at h
    obtain ⟨⟨h1, h2⟩, h3⟩ := h
    rw [h1, veqs_eq a b h2, veqs_eq c d h3]
  | .nilIface, .nilIface, _ => rfl
  | .iface t a, .iface u b, h => by
    simp only [veq, Bool.and_eq_true, beq_iff_eq] at h
    rw [h.1, veq_eq a b h.2]
  | .agg ⟨a⟩, .agg ⟨b⟩, h => by
    simp only [veq] at h
    rw [veqs_eq a b h]
  | .tuple ⟨a⟩, .tuple ⟨b⟩, h => by
    simp only [veq] at h
    rw [veqs_eq a b h]
  | .float .., b, h => by cases b <;> simp [veq] at h
  | .complex .., b, h => by cases b <;> simp [veq] at h
  | .chan .., b, h => by cases b <;> simp [veq] at h
  | .bool _, .int .., h | .bool _, .float .., h | .bool _, .complex .., h | .bool _, .string .., h | .bool _, .pointer .., h | .bool _, .slice .., h | .bool _, .map .., h | .bool _, .chan .., h | .bool _, .func .., h | .bool _, .nilFunc, h | .bool _, .iface .., h | .bool _, .nilIface, h | .bool _, .agg .., h | .bool _, .tuple .., h => by simp [veq] at h
  | .int .., .bool .., h | .int .., .float .., h | .int .., .complex .., h | .int .., .string .., h | .int .., .pointer .., h | .int .., .slice .., h | .int .., .map .., h | .int .., .chan .., h | .int .., .func .., h | .int .., .nilFunc, h | .int .., .iface .., h | .int .., .nilIface, h | .int .., .agg .., h | .int .., .tuple .., h => by simp [veq] at h
  | .string .., .bool .., h | .string .., .float .., h | .string .., .complex .., h | .string .., .int .., h | .string .., .pointer .., h | .string .., .slice .., h | .string .., .map .., h | .string .., .chan .., h | .string .., .func .., h | .string .., .nilFunc, h | .string .., .iface .., h | .string .., .nilIface, h | .string .., .agg .., h | .string .., .tuple .., h => by simp [veq] at h
  | .pointer .., .bool .., h | .pointer .., .float .., h | .pointer .., .complex .., h | .pointer .., .int .., h | .pointer .., .string .., h | .pointer .., .slice .., h | .pointer .., .map .., h | .pointer .., .chan .., h | .pointer .., .func .., h | .pointer .., .nilFunc, h | .pointer .., .iface .., h | .pointer .., .nilIface, h | .pointer .., .agg .., h | .pointer .., .tuple .., h => by simp [veq] at h
  | .slice .., .bool .., h | .slice .., .float .., h | .slice .., .complex .., h | .slice .., .int .., h | .slice .., .string .., h | .slice .., .pointer .., h | .slice .., .map .., h | .slice .., .chan .., h | .slice .., .func .., h | .slice .., .nilFunc, h | .slice .., .iface .., h | .slice .., .nilIface, h | .slice .., .agg .., h | .slice .., .tuple .., h => by simp [veq] at h
  | .map .., .bool .., h | .map .., .float .., h | .map .., .complex .., h | .map .., .int .., h | .map .., .string .., h | .map .., .pointer .., h | .map .., .slice .., h | .map .., .chan .., h | .map .., .func .., h | .map .., .nilFunc, h | .map .., .iface .., h | .map .., .nilIface, h | .map .., .agg .., h | .map .., .tuple .., h => by simp [veq] at h
  | .nilFunc, .bool .., h | .nilFunc, .float .., h | .nilFunc, .complex .., h | .nilFunc, .int .., h | .nilFunc, .string .., h | .nilFunc, .pointer .., h | .nilFunc, .slice .., h | .nilFunc, .chan .., h | .nilFunc, .func .., h | .nilFunc, .map .., h | .nilFunc, .iface .., h | .nilFunc, .nilIface, h | .nilFunc, .agg .., h | .nilFunc, .tuple .., h => by simp [veq] at h
  | .func .., .bool .., h | .func .., .float .., h | .func .., .complex .., h | .func .., .int .., h | .func .., .string .., h | .func .., .pointer .., h | .func .., .slice .., h | .func .., .chan .., h | .func .., .nilFunc, h | .func .., .map .., h | .func .., .iface .., h | .func .., .nilIface, h | .func .., .agg .., h | .func .., .tuple .., h => by simp [veq] at h
  | .nilIface, .bool .., h | .nilIface, .float .., h | .nilIface, .complex .., h | .nilIface, .int .., h | .nilIface, .string .., h | .nilIface, .pointer .., h | .nilIface, .slice .., h | .nilIface, .chan .., h | .nilIface, .nilFunc, h | .nilIface, .map .., h | .nilIface, .iface .., h | .nilIface, .func .., h | .nilIface, .agg .., h | .nilIface, .tuple .., h => by simp [veq] at h
  | .iface .., .bool .., h | .iface .., .float .., h | .iface .., .complex .., h | .iface .., .int .., h | .iface .., .string .., h | .iface .., .pointer .., h | .iface .., .slice .., h | .iface .., .chan .., h | .iface .., .nilFunc, h | .iface .., .map .., h | .iface .., .nilIface, h | .iface .., .func .., h | .iface .., .agg .., h | .iface .., .tuple .., h => by simp [veq] at h
  | .agg .., .bool .., h | .agg .., .float .., h | .agg .., .complex .., h | .agg .., .int .., h | .agg .., .string .., h | .agg .., .pointer .., h | .agg .., .slice .., h | .agg .., .chan .., h | .agg .., .nilFunc, h | .agg .., .map .., h | .agg .., .nilIface, h | .agg .., .func .., h | .agg .., .iface .., h | .agg .., .tuple .., h => by simp [veq] at h
  | .tuple .., .bool .., h | .tuple .., .float .., h | .tuple .., .complex .., h | .tuple .., .int .., h | .tuple .., .string .., h | .tuple .., .pointer .., h | .tuple .., .slice .., h | .tuple .., .chan .., h | .tuple .., .nilFunc, h | .tuple .., .map .., h | .tuple .., .nilIface, h | .tuple .., .func .., h | .tuple .., .iface .., h | .tuple .., .agg .., h => by simp [veq] at h
theorem veqs_eq : ∀ (a b : List Value), veqs a b = true → a = b
  | [], [], _ => rfl
  | a :: l, b :: m, h => by
    simp only [veqs, Bool.and_eq_true] at h
    rw [veq_eq a b h.1, veqs_eq l m h.2]
  | [], _ :: _, h => by simp [veqs] at h
  | _ :: _, [], h => by simp [veqs] at h
end

section
variable {q : EqF} {call : CallF}

theorem lexec_heap {o : LOp Value} {h h' : LHeap} {v : Value} (hc : o.cls ≠ .effect) (hx : lexec q o h = some (v, h')) : h' = h := by
  cases o <;> simp [LOp.cls] at hc <;> simp only [lexec] at hx <;> (repeat' split at hx) <;> simp_all <;> (obtain ⟨_, _, _, hh⟩ := hx; exact hh.symm)

theorem lexec_pure {o : LOp Value} {h h' : LHeap} {v : Value} (hc : o.cls = .pure) (hx : lexec q o h = some (v, h')) (h2 : LHeap) : lexec q o h2 = some (v, h2) := by
  cases o <;> simp [LOp.cls] at hc <;> simp only [lexec] at hx ⊢ <;> (repeat' split at hx) <;> simp_all <;> (obtain ⟨z, h1, h2, h3⟩ := hx; first | exact ⟨z, h1, h2⟩ | (rw [← h2]; exact h1))

theorem lact_pure {a : LAct} {fr : Fr} {h h' : LHeap} {v : Value} (hc : a.cls = .pure) (hx : lact q call a fr h = some (v, h')) : h' = h ∧ ∀ h2, lact q call a fr h2 = some (v, h2) := by
  cases a with
  | op o =>
    simp only [lact] at hx ⊢
    split at hx
    · rename_i lv hs
      have hcl : lv.cls = .pure := by
        have : ∀ {α β : Type} (f : α → Option β) (o : LOp α) (l : LOp β), o.sub f = some l → l.cls = o.cls := by
          intro α β f o l hl
          cases o <;> simp only [LOp.sub] at hl <;> (repeat' split at hl) <;> simp_all [LOp.cls] <;> (first | (obtain ⟨_, _, rfl⟩ := hl; rfl) | (subst hl; rfl))
        rw [this _ _ _ hs]; exact hc
      exact ⟨lexec_heap (by rw [hcl]; simp) hx, fun h2 => lexec_pure hcl hx h2⟩
    · cases hx
  | pick c x y =>
    simp only [lact] at hx ⊢
    split at hx
    · obtain ⟨z, hz, he⟩ := map_some hx
      cases he
      exact ⟨rfl, fun h2 => by rw [hz]; rfl⟩
    · obtain ⟨z, hz, he⟩ := map_some hx
      cases he
      exact ⟨rfl, fun h2 => by rw [hz]; rfl⟩
    · cases hx
  | call f args => simp [LAct.cls] at hc

theorem sub_cls {α β : Type} {f : α → Option β} {o : LOp α} {l : LOp β} (hl : o.sub f = some l) : l.cls = o.cls := by
  cases o <;> simp only [LOp.sub] at hl <;> (repeat' split at hl) <;> simp_all [LOp.cls] <;> (first | (obtain ⟨_, _, rfl⟩ := hl; rfl) | (subst hl; rfl))

/-- What holds of one operation of a region that draws: 'F' the frame ahead of it, 'C' how many effects came, 'H' the heaps by effects, 'V' what it yields, 'M' how many effects there are. -/
def OpTr (q : EqF) (call : CallF) (H : Nat → LHeap) (M : Nat) (e : LOper × Nat × Nat) (f f' : Fr) (c c' : Nat) (v : Value) : Prop :=
  ∃ b, e.1.wanted f = some b ∧ f' = f.put e.1.dst v ∧ c' = c + (if e.1.act.cls = .effect then 1 else 0) ∧
    (b = false → v = undefL ∧ (e.1.act.cls = .effect → H (c + 1) = H c)) ∧
    (b = true → (e.1.act.cls = .pure → ∀ h, lact q call e.1.act f h = some (v, h)) ∧
      (e.1.act.cls = .reader → ∀ m, e.2.1 ≤ m → m ≤ e.2.2 → m ≤ M → lact q call e.1.act f (H m) = some (v, H m)) ∧
      (e.1.act.cls = .effect → lact q call e.1.act f (H c) = some (v, H (c + 1))))

theorem Pend.ok_spec {p : Pend} {h : LHeap} (hc : p.op.cls = .reader) (ho : p.ok q h = true) : lexec q p.op h = some (p.v, h) := by
  unfold Pend.ok at ho
  split at ho
  · rename_i v h' hx
    have := veq_eq _ _ ho
    subst this
    have := lexec_heap (by rw [hc]; simp) hx
    subst this
    exact hx
  · cases ho

theorem ldops_trace : ∀ (B : List (LOper × Nat × Nat)) (fr : Fr) (h : LHeap) (past : List LHeap) (pend : List Pend) (fr' : Fr) (h' : LHeap), ldops q call B fr h past pend = some (fr', h') → (∀ p ∈ pend, p.op.cls = .reader) → (∀ p ∈ pend, past.length ≤ p.hi → lexec q p.op h = some (p.v, h)) →
    ∃ (H : Nat → LHeap) (F : Nat → Fr) (C : Nat → Nat) (V : Nat → Value),
      (∀ m, m < past.length → past.reverse[m]? = some (H m)) ∧ H past.length = h ∧ F 0 = fr ∧ C 0 = past.length ∧ F B.length = fr' ∧ H (C B.length) = h' ∧ past.length ≤ C B.length ∧
      (∀ p ∈ pend, ∀ m, past.length < m → m ≤ C B.length → m ≤ p.hi → lexec q p.op (H m) = some (p.v, H m)) ∧
      ∀ i e, B[i]? = some e → OpTr q call H (C B.length) e (F i) (F (i + 1)) (C i) (C (i + 1)) (V i)
  | [], fr, h, past, pend, fr', h', hx, _, _ => by
    simp only [ldops, Option.some.injEq, Prod.mk.injEq] at hx
    obtain ⟨rfl, rfl⟩ := hx
    refine ⟨fun m => if m < past.length then (past.reverse[m]?).getD h else h, fun _ => fr, fun _ => past.length, fun _ => undefL, ?_, by simp, rfl, rfl, rfl, by simp, Nat.le_refl _, ?_, ?_⟩
    · intro m hm
      simp only [hm, if_true]
      rw [List.getElem?_eq_getElem (by simpa using hm)]
      rfl
    · intro p _ m h1 h2 _
      simp only at h2
      omega
    · intro i e he; simp at he
  | (l, lo, hi) :: r, fr, h, past, pend, fr', h', hx, hp, hpv => by
    have shift : ∀ (fr1 : Fr) (h1 : LHeap) (past1 : List LHeap) (pend1 : List Pend) (v : Value), (∀ p ∈ pend1, p.op.cls = .reader) → (∀ p ∈ pend1, past1.length ≤ p.hi → lexec q p.op h1 = some (p.v, h1)) → ldops q call r fr1 h1 past1 pend1 = some (fr', h') → fr1 = fr.put l.dst v →
        past1.length = past.length + (if l.act.cls = .effect then 1 else 0) → (∀ m, m < past.length → past1.reverse[m]? = past.reverse[m]?) → (∀ (H : Nat → LHeap), (∀ m, m < past1.length → past1.reverse[m]? = some (H m)) → H past1.length = h1 → H past.length = h) →
        (∀ p ∈ pend, p ∈ pend1) → (l.act.cls = .effect → ∀ p ∈ pend, past.length < p.hi → lexec q p.op h1 = some (p.v, h1)) →
        (∀ (H : Nat → LHeap) (M : Nat), (∀ m, m < past.length → past.reverse[m]? = some (H m)) → H past.length = h → H past1.length = h1 → (∀ p ∈ pend1, ∀ m, past1.length < m → m ≤ M → m ≤ p.hi → lexec q p.op (H m) = some (p.v, H m)) →
          OpTr q call H M (l, lo, hi) fr fr1 past.length past1.length v) →
        ∃ (H : Nat → LHeap) (F : Nat → Fr) (C : Nat → Nat) (V : Nat → Value),
          (∀ m, m < past.length → past.reverse[m]? = some (H m)) ∧ H past.length = h ∧ F 0 = fr ∧ C 0 = past.length ∧ F ((l, lo, hi) :: r).length = fr' ∧ H (C ((l, lo, hi) :: r).length) = h' ∧ past.length ≤ C ((l, lo, hi) :: r).length ∧
          (∀ p ∈ pend, ∀ m, past.length < m → m ≤ C ((l, lo, hi) :: r).length → m ≤ p.hi → lexec q p.op (H m) = some (p.v, H m)) ∧
          ∀ i e, ((l, lo, hi) :: r)[i]? = some e → OpTr q call H (C ((l, lo, hi) :: r).length) e (F i) (F (i + 1)) (C i) (C (i + 1)) (V i) := by
      intro fr1 h1 past1 pend1 v hp1 hpv1 hx1 hfr1 hlen hpast hhp hsub heff hop
      obtain ⟨H, F, C, V, a1, a2, a3, a4, a5, a6, a7, a8, a9⟩ := ldops_trace r fr1 h1 past1 pend1 fr' h' hx1 hp1 hpv1
      have b1 : ∀ m, m < past.length → past.reverse[m]? = some (H m) := fun m hm => by rw [← hpast m hm]; exact a1 m (by rw [hlen]; omega)
      have b2 := hhp H a1 a2
      refine ⟨H, fun i => if i = 0 then fr else F (i - 1), fun i => if i = 0 then past.length else C (i - 1), fun i => if i = 0 then v else V (i - 1), b1, b2, rfl, rfl, ?_, ?_, ?_, ?_, ?_⟩
      · simpa using a5
      · simpa using a6
      · simp only [List.length_cons, Nat.add_one_ne_zero, if_false, Nat.add_sub_cancel]
        rw [hlen] at a7; omega
      · intro p hp' m hm1 hm2 hm3
        simp only [List.length_cons, Nat.add_one_ne_zero, if_false, Nat.add_sub_cancel] at hm2
        by_cases he : l.act.cls = .effect
        · simp only [he, if_true] at hlen
          by_cases hm : m = past.length + 1
          · subst hm
            rw [← hlen, a2]
            exact heff he p hp' (by omega)
          · exact a8 p (hsub p hp') m (by omega) hm2 hm3
        · simp only [he, if_false, Nat.add_zero] at hlen
          exact a8 p (hsub p hp') m (by omega) hm2 hm3
      · intro i e he
        cases i with
        | zero =>
          simp only [List.getElem?_cons_zero, Option.some.injEq] at he
          subst he
          have := hop H (C r.length) b1 b2 a2 a8
          simpa [a3, a4] using this
        | succ i =>
          simp only [List.getElem?_cons_succ] at he
          have := a9 i e he
          simpa using this
    simp only [ldops] at hx
    split at hx
    · -- it only reckons
      rename_i hcl
      split at hx
      · rename_i fr1 h1 hstep
        simp only [loper] at hstep
        split at hstep
        · rename_i hw
          split at hstep
          · rename_i v h2 hla
            simp only [Option.some.injEq, Prod.mk.injEq] at hstep
            obtain ⟨rfl, rfl⟩ := hstep
            obtain ⟨_, hpure⟩ := lact_pure hcl hla
            refine shift _ h past pend v hp hpv hx rfl (by simp [hcl]) (fun _ _ => rfl) (fun H _ h0 => h0) (fun _ h => h) (fun he => by rw [hcl] at he; cases he) ?_
            intro H M _ _ _ _
            exact ⟨true, hw, rfl, by simp [hcl], fun h => (by cases h), fun _ => ⟨fun _ => hpure, fun he => (by rw [hcl] at he; cases he), fun he => (by rw [hcl] at he; cases he)⟩⟩
          · cases hstep
        · rename_i hw
          simp only [Option.some.injEq, Prod.mk.injEq] at hstep
          obtain ⟨rfl, rfl⟩ := hstep
          refine shift _ h past pend undefL hp hpv hx rfl (by simp [hcl]) (fun _ _ => rfl) (fun H _ h0 => h0) (fun _ h => h) (fun he => by rw [hcl] at he; cases he) ?_
          intro H M _ _ _ _
          exact ⟨false, hw, rfl, by simp [hcl], fun _ => ⟨rfl, fun he => (by rw [hcl] at he; cases he)⟩, fun h => by cases h⟩
        · cases hstep
      · cases hx
    · -- it reads
      rename_i hcl
      split at hx
      · rename_i hw
        refine shift _ h past pend undefL hp hpv hx rfl (by simp [hcl]) (fun _ _ => rfl) (fun H _ h0 => h0) (fun _ h => h) (fun he => by rw [hcl] at he; cases he) ?_
        intro H M _ _ _ _
        exact ⟨false, hw, rfl, by simp [hcl], fun _ => ⟨rfl, fun he => (by rw [hcl] at he; cases he)⟩, fun h => by cases h⟩
      · rename_i hw
        split at hx
        · rename_i op hact
          split at hx
          · rename_i lv hs
            split at hx
            · rename_i v h2 hlx
              split at hx
              · rename_i hall
                have hlc : lv.cls = .reader := by
                  rw [sub_cls hs]
                  rw [hact] at hcl
                  exact hcl
                have h2e := lexec_heap (by rw [hlc]; simp) hlx
                rw [h2e] at hlx
                refine shift _ h past (⟨lv, v, hi⟩ :: pend) v (fun p hp' => by
                  rcases List.mem_cons.1 hp' with rfl | hp'
                  · exact hlc
                  · exact hp p hp') (fun p hp' hle => by
                  rcases List.mem_cons.1 hp' with rfl | hp'
                  · exact hlx
                  · exact hpv p hp' hle) hx rfl (by simp [hcl]) (fun _ _ => rfl) (fun H _ h0 => h0) (fun p hp' => List.mem_cons_of_mem _ hp') (fun he => by rw [hcl] at he; cases he) ?_
                intro H M hH1 hH2 _ hH4
                refine ⟨true, hw, rfl, by simp [hcl], fun h => (by cases h), fun _ => ⟨fun he => (by rw [hcl] at he; cases he), fun _ m hm1 hm2 hm3 => ?_, fun he => (by rw [hcl] at he; cases he)⟩⟩
                simp only [lact, hact, hs]
                rcases Nat.lt_trichotomy m past.length with hm | hm | hm
                · have hin : H m ∈ past.take (past.length - lo) := by
                    have h3 := hH1 m hm
                    rw [List.getElem?_reverse hm] at h3
                    refine List.mem_of_getElem? (i := past.length - 1 - m) ?_
                    rw [List.getElem?_take]
                    simp only at hm1
                    rw [if_pos (by omega)]
                    exact h3
                  exact Pend.ok_spec (p := ⟨lv, v, hi⟩) hlc (List.all_eq_true.1 hall _ hin)
                · subst hm; rw [hH2]; exact hlx
                · exact hH4 ⟨lv, v, hi⟩ (by simp) m hm hm3 hm2
              · cases hx
            · cases hx
          · cases hx
        · cases hx
      · cases hx
    · -- it acts
      rename_i hcl
      split at hx
      · rename_i hw
        refine shift _ h (h :: past) pend undefL hp (fun p hp' hle => hpv p hp' (by simp at hle; omega)) hx rfl (by simp [hcl]) (fun m hm => by simp [List.getElem?_append, hm]) (fun H h1 _ => ?_) (fun _ h => h) (fun _ p hp' hlt => ?_) ?_
        · have := h1 past.length (by simp)
          simpa [List.getElem?_append] using this.symm
        · exact hpv p hp' (by omega)
        · intro H M _ hH2 hH3 _
          refine ⟨false, hw, rfl, by simp [hcl], fun _ => ⟨rfl, fun _ => ?_⟩, fun h => by cases h⟩
          simp only [List.length_cons] at hH3
          rw [hH2, hH3]
      · rename_i hw
        split at hx
        · rename_i v h1 hla
          split at hx
          · rename_i hall
            refine shift _ h1 (h :: past) pend v hp (fun p hp' hle => by
              have := List.all_eq_true.1 hall p hp'
              simp only [Bool.or_eq_true, decide_eq_true_eq] at this
              simp only [List.length_cons] at hle
              exact Pend.ok_spec (hp p hp') (this.resolve_left (by omega))) hx rfl (by simp [hcl]) (fun m hm => by simp [List.getElem?_append, hm]) (fun H h1 _ => ?_) (fun _ h => h) (fun _ p hp' hlt => ?_) ?_
            · have := h1 past.length (by simp)
              simpa [List.getElem?_append] using this.symm
            · have := List.all_eq_true.1 hall p hp'
              simp only [Bool.or_eq_true, decide_eq_true_eq] at this
              exact Pend.ok_spec (hp p hp') (this.resolve_left (by omega))
            · intro H M _ hH2 hH3 _
              refine ⟨true, hw, rfl, by simp [hcl], fun h => (by cases h), fun _ => ⟨fun he => (by rw [hcl] at he; cases he), fun he => (by rw [hcl] at he; cases he), fun _ => ?_⟩⟩
              simp only [List.length_cons] at hH3
              rw [hH2, hH3]
              exact hla
          · cases hx
        · cases hx
      · cases hx

end
end Go.E1
