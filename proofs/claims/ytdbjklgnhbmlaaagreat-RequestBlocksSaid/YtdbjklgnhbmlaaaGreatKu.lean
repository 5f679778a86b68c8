/-
  Lines: what comes in; their fields alone; may they be; is one of them none of a field's; a response's end.
-/
import Derived.Test.YtdbjklgnhbmlaaaGreatKq
namespace Go.M
open Go.E1
def fldsL (l : List Ln) : List Fld := l.map (·.f)
def ownB (x : Ln) : Bool := x.f.1.data.toList.head? == some 58
def firstN {α : Type} (w : α → Nat) : List α → Nat
  | [] => 0
  | x :: l => if w x ≠ 0 then w x else firstN w l
def wLn (x : Ln) : Nat := if !nameB x.f.1 || hopB x.f.1 x.f.2 then 30 else wrongN x.f.1 x.f.2
theorem firstN_at {α : Type} {w : α → Nat} : ∀ {l : List α} {i : Nat} {f : α}, l[i]? = some f → (∀ x ∈ l.take i, w x = 0) → w f ≠ 0 → firstN w l = w f
  | [], _, _, h, _, _ => by simp at h
  | x :: l, 0, f, h, _, hw => by
    simp only [List.getElem?_cons_zero, Option.some.injEq] at h
    subst h
    simp [firstN, hw]
  | x :: l, i + 1, f, h, hno, hw => by
    have h0 : w x = 0 := hno x (by simp)
    rw [firstN, if_neg (by simp [h0])]
    exact firstN_at (by simpa using h) (fun y hy => hno y (by simp [hy])) hw
theorem firstN_zero {α : Type} {w : α → Nat} : ∀ {l : List α}, (∀ x ∈ l, w x = 0) → firstN w l = 0
  | [], _ => rfl
  | x :: l, h => by
    rw [firstN, if_neg (by simp [h x (by simp)])]
    exact firstN_zero fun y hy => h y (by simp [hy])
theorem firstN_all {α : Type} {w : α → Nat} : ∀ {l : List α}, firstN w l = 0 → ∀ x ∈ l, w x = 0
  | [], _, x, hx => by cases hx
  | y :: l, h, x, hx => by
    rw [firstN] at h
    split at h
    · rename_i h1; exact absurd h h1
    · rename_i h1
      rcases List.mem_cons.1 hx with rfl | hx
      · omega
      · exact firstN_all h x hx
theorem fldsL_take (l : List Ln) (i : Nat) : fldsL (l.take i) = (fldsL l).take i := by simp [fldsL, List.map_take]
theorem fldsL_len (l : List Ln) : (fldsL l).length = l.length := by simp [fldsL]
end Go.M
namespace Go.E1
open Go Go.Proofs Go.M
set_option linter.unusedSimpArgs false

/-- A list somewhere in a block. -/
def SA {α : Type} (k : Nat) (c : α → List Value) (h : LHeap) (v : Value) (l : List α) : Prop := (l = [] ∧ v = .slice none 0 0) ∨ ∃ b o cs t r, v = .slice (some ⟨b, o, none⟩) l.length k ∧ b < h.size ∧ h.get b = some (.cells cs t r) ∧ (cs.drop o).take (l.length * k) = l.flatMap c ∧ o + l.length * k ≤ cs.length
theorem SA.len {α : Type} {k : Nat} {c : α → List Value} {q : EqF} {h hh : LHeap} {v : Value} {l : List α} (g : SA k c hh v l) : lexec q (.lenS v) h = some (.int .i64 l.length, h) := by
  rcases g with ⟨rfl, rfl⟩ | ⟨b, _, _, _, _, rfl, _⟩ <;> rfl
theorem SA.ext {α : Type} {k : Nat} {c : α → List Value} {h h' : LHeap} {v : Value} {l : List α} (g : SA k c h v l) (X : Ext h h') : SA k c h' v l := by
  rcases g with h1 | ⟨b, o, cs, t, r, h1, h2, h3, h4⟩
  · exact .inl h1
  · exact .inr ⟨b, o, cs, t, r, h1, Nat.lt_of_lt_of_le h2 X.size, by rw [X.get b h2]; exact h3, h4⟩
theorem SL.sa {α : Type} {k : Nat} {c : α → List Value} (C : Cel k c) {h : LHeap} {v : Value} {l : List α} (g : SL k c h v l) : SA k c h v l := by
  rcases g with h1 | ⟨b, t, r, h1, h2, h3⟩
  · exact .inl h1
  · exact .inr ⟨b, 0, _, t, r, h1, h2, h3, by rw [List.drop_zero, ← C.flat_len l, List.take_length], by rw [C.flat_len]; omega⟩
theorem SA.at {α : Type} {k : Nat} {c : α → List Value} (C : Cel k c) {h : LHeap} {v : Value} {l : List α} (g : SA k c h v l) {i : Nat} {x : α} (hx : l[i]? = some x) :
    ∃ b o cs t r, v = .slice (some ⟨b, o, none⟩) l.length k ∧ b < h.size ∧ h.get b = some (.cells cs t r) ∧ (cs.drop (o + i * k)).take k = c x ∧ o + i * k + k ≤ cs.length := by
  rcases g with ⟨rfl, _⟩ | ⟨b, o, cs, t, r, h1, h2, h3, h4, h5⟩
  · simp at hx
  · have hi : i < l.length := by
      rcases Nat.lt_or_ge i l.length with q | q
      · exact q
      · simp [List.getElem?_eq_none q] at hx
    obtain ⟨k1, k2⟩ := C.get hx
    rw [C.flat_len] at k2
    refine ⟨b, o, cs, t, r, h1, h2, h3, ?_, by omega⟩
    rw [← k1, ← h4, List.drop_take, List.drop_drop, List.take_take, Nat.min_eq_left (by omega)]
/-- What is left behind the first ones. -/
theorem SA.tail {α : Type} {k : Nat} {c : α → List Value} (C : Cel k c) {h : LHeap} {b o n : Nat} {cs : List Value} {t r : Bool} {l : List α} (hn : n ≤ l.length) (h2 : b < h.size) (h3 : h.get b = some (.cells cs t r)) (h4 : (cs.drop o).take (l.length * k) = l.flatMap c) (h5 : o + l.length * k ≤ cs.length) :
    SA k c h (.slice (some ⟨b, o + n * k, none⟩) (l.length - n) k) (l.drop n) := by
  have e1 : n * k ≤ l.length * k := Nat.mul_le_mul_right _ hn
  have e2 : (l.length - n) * k = l.length * k - n * k := Nat.sub_mul ..
  refine .inr ⟨b, o + n * k, cs, t, r, by rw [List.length_drop], h2, h3, ?_, by rw [List.length_drop]; omega⟩
  have e3 : l.flatMap c = (l.take n).flatMap c ++ (l.drop n).flatMap c := by rw [← List.flatMap_append, List.take_append_drop]
  have e4 : ((l.take n).flatMap c).length = n * k := by rw [C.flat_len, List.length_take, Nat.min_eq_left hn]
  rw [List.length_drop, e2, ← List.drop_drop, ← List.drop_take, h4, e3, ← e4, List.drop_left]

theorem gl_append' {α : Type} {k by' : Nat} {c : α → List Value} (C : Cel k c) {q : EqF} {hh : LHeap} {v : Value} {l : List α} (g : GL k c hh v l) (x : α) (hr : roomOk (l.length + 1) by' = true) :
    ∃ v' hh', lexec q (.append k by' v (.slice (some ⟨hh.size, 0, none⟩) 1 k)) (hh.push (.cells (c x) true true)) = some (v', hh') ∧ GL k c hh' v' (l ++ [x]) ∧ hh.size ≤ hh'.size ∧
      (∀ b, b < hh.size → blkOf v ≠ some b → hh'.get b = hh.get b) ∧ (∀ b, blkOf v' = some b → hh.size ≤ b) := by
  have hf : (hh.push (.cells (c x) true true)).firstCells k (.slice (some ⟨hh.size, 0, none⟩) 1 k) = some (1, c x) := by
    rw [first_some (cs := c x) (t := true) (r := true) (by simp) (by rw [C.len]; omega) (by simp), List.drop_zero, Nat.one_mul]
    rw [← C.len x, List.take_length]
  rcases g with ⟨rfl, rfl⟩ | ⟨b, rfl, h3, h4⟩
  · refine ⟨_, _, x_append_none hf (by simp) (C.one x) (by simpa using hr), .inr ⟨hh.size + 1, by simp, by simp, by simp⟩, by simp; omega, ?_, ?_⟩
    · intro i hi _
      simp [show i ≠ hh.size + 1 by omega, show i ≠ hh.size by omega]
    · intro b he
      simp only [LHeap.size_push, blkOf_some, Option.some.injEq] at he
      omega
  · have hbn : b ≠ hh.size := by omega
    refine ⟨_, _, x_append_some (cs := l.flatMap c) (r := true) hf (by simp) (by simp [hbn, h4]) (by rw [C.flat_len]; omega) (C.one x) hr, .inr ⟨hh.size + 1, by simp, by simp, by simp⟩, by simp; omega, ?_, ?_⟩
    · intro i hi hno
      have : i ≠ b := fun h => hno (by rw [h]; rfl)
      simp [show i ≠ hh.size + 1 by omega, show i ≠ hh.size by omega, this]
    · intro b he
      simp only [LHeap.size_push, LHeap.size_set, blkOf_some, Option.some.injEq] at he
      omega

/-! ### What comes in -/
theorem cells_line : Tryz.prog.cellsOf 35 = 3 := by kernel_rfl
theorem bytes_line : Tryz.prog.bytesOf 35 = 40 := by kernel_rfl
def RchL (l : List Ln) : Prop := l.length * 40 ≤ reachBytes ∧ ∀ x ∈ l, x.f.1.size ≤ reachBytes ∧ x.f.2.size ≤ reachBytes
theorem LRd_line {h : LHeap} {n : Nat} {cs : List Value} (hl : LRd Tryz.prog h n 35 cs) : ∃ x : Ln, cs = lc x ∧ x.f.1.size ≤ reachBytes ∧ x.f.2.size ≤ reachBytes := by
  obtain ⟨m, parts, _, h1, h2, h3⟩ := LRd_struct Tryz.underlying35 hl
  match parts, h2 with
  | [p, q], _ =>
    obtain ⟨f, rfl, ha, hb⟩ := LRd_fld (h3 0 _ p rfl rfl).2
    obtain ⟨b, rfl⟩ := LRd_bool Tryz.underlying4 (h3 1 _ q rfl rfl).2
    exact ⟨⟨f, b⟩, h1, ha, hb⟩
theorem larg_lines {h : LHeap} {n : Nat} {lv : Value} (hl : LArg Tryz.prog h n 28 lv) : ∃ l, SL 3 lc h lv l ∧ RchL l := by
  rcases hl with ⟨g1, _⟩ | ⟨_, hl⟩
  · simp [isAggP, Tryz.underlying28] at g1
  · rcases LRd_slice' Tryz.underlying28 hl with h1 | ⟨b, len, css, m, rfl, h0, h1, h2, h3, h4, h5⟩
    · simp only [List.cons.injEq, and_true] at h1
      subst h1
      exact ⟨[], .inl ⟨rfl, rfl⟩, by simp, by simp⟩
    · simp only [List.cons.injEq, and_true] at h0
      subst h0
      rw [cells_line] at h5 ⊢
      rw [bytes_line] at h4
      have key : ∀ (css : List (List Value)), (∀ c ∈ css, c.length = 3 ∧ LRd Tryz.prog h m 35 c) → ∃ l : List Ln, css.flatten = l.flatMap lc ∧ l.length = css.length ∧ ∀ x ∈ l, x.f.1.size ≤ reachBytes ∧ x.f.2.size ≤ reachBytes := by
        intro css
        induction css with
        | nil => intro _; exact ⟨[], rfl, rfl, by simp⟩
        | cons c css ih =>
          intro hc
          obtain ⟨l, h6, h7, h8⟩ := ih fun x hx => hc x (List.mem_cons_of_mem _ hx)
          obtain ⟨x, rfl, hx⟩ := LRd_line (hc c (List.mem_cons_self ..)).2
          exact ⟨x :: l, by rw [List.flatten_cons, h6]; rfl, by simp [h7], fun y hy => (List.mem_cons.1 hy).elim (fun e => e ▸ hx) (h8 y)⟩
      obtain ⟨l, h6, h7, h8⟩ := key css h5
      exact ⟨l, .inr ⟨b, _, _, by rw [h7, h3], h1, by rw [h2, h6]⟩, by rw [h7, h3]; exact h4.2, h8⟩

/-! ### Fields alone -/
theorem room_fld {n : Nat} {l : List Ln} (hl : l.length * 40 ≤ reachBytes) (hn : n ≤ l.length) : roomOk n 32 = true := by
  have : reachBytes ≤ 140737488355328 := by decide
  simp only [roomOk, Bool.and_eq_true, decide_eq_true_eq]
  omega
theorem sDecFields {h : LHeap} {v : Value} {l : List Ln} (F : SA 3 lc h v l) (hl : l.length * 40 ≤ reachBytes) : LCalls EC 22 [v] h fun u h' => GL 2 fc h' u (fldsL l) ∧ (∀ b, blkOf u = some b → h.size ≤ b) ∧ Ext h h' := by
  refine LCalls.enter (lf := lf22) rfl rfl (by simp [lf22]) ?_
  have hrb : reachBytes ≤ 140737488355328 := by decide
  have eL := fun hh => F.len (q := EC.q) (h := hh)
  simp only [go_sem, lf22, ↓reduceIte, eL]
  refine MC.cutb (fun fr hh => ∃ ov tl, fr = (3, ov) :: tl ∧ GL 2 fc hh ov (fldsL l) ∧ (∀ b, blkOf ov = some b → h.size ≤ b) ∧ Ext h hh) ?_ ?_
  · refine MC.loop (fun m fr hh => ∃ i ov tl, m = l.length - i ∧ fr = (3, ov) :: (6, v) :: (7, .int .i64 l.length) :: (8, .int .i64 (i : Nat)) :: tl ∧ i ≤ l.length ∧ GL 2 fc hh ov (fldsL (l.take i)) ∧ (∀ b, blkOf ov = some b → h.size ≤ b) ∧ Ext h hh) l.length
      ⟨0, _, [], rfl, rfl, Nat.zero_le _, GL.nil, by simp, Ext.refl _⟩ ?_
    rintro m fr hh J ⟨i, ov, tl, rfl, rfl, hi, G, hfr, X⟩ hJ
    by_cases hlt : i < l.length
    · have d1 : (i : Int) < (l.length : Int) := by omega
      have d0 : (0 : Int) ≤ (i : Int) := by omega
      obtain ⟨x, hx⟩ : ∃ x, l[i]? = some x := ⟨l[i], by simp [hlt]⟩
      obtain ⟨b, o, cs, t, r, rfl, hb, hg, k1, k2⟩ := F.at lc_cel hx
      have hg' : hh.get b = some (.cells cs t r) := by rw [X.get b hb, hg]
      have w1 : IntKind.i64.wrap ((i : Int) + 1) = ((i + 1 : Nat) : Int) := by rw [IntWalk.i64_in _ (by omega)]; omega
      simp only [lc] at k1
      have tk : fldsL (l.take (i + 1)) = fldsL (l.take i) ++ [x.f] := by rw [List.take_add_one, hx]; simp [fldsL]
      have hX : ∀ {c c'}, Ext hh ((hh.push c).set hh.size c') := (Ext.push _ _).set (Nat.le_refl _) _
      obtain ⟨ov', h2, ha, G2, sz, g2, n2⟩ := gl_append' fc_cel (q := EC.q) (by' := 32) (G.ext (hX (c := LObj.cells [Value.string ⟨#[]⟩, Value.string ⟨#[]⟩, Value.bool false] true true) (c' := LObj.cells [Value.string x.f.1, Value.string x.f.2, Value.bool x.never] true true))) x.f
        (room_fld hl (by rw [fldsL_len, List.length_take]; omega))
      simp only [fc, LHeap.size_push, LHeap.size_set] at ha
      simp only [LHeap.size_push, LHeap.size_set] at sz g2 n2
      simp only [go_sem, ↓reduceIte, d1, d0, Int.toNat_natCast, hg', k1, k2, ha, w1]
      have X2 : Ext h h2 := by
        refine ⟨by have := X.size; omega, fun b hb => ?_⟩
        have := X.size
        rw [g2 b (by omega) (fun he => by have := hfr b he; omega), hX.get b (by omega), X.get b hb]
      refine hJ _ _ _ (by omega) ⟨i + 1, ov', _, rfl, rfl, by omega, by rw [tk]; exact G2, fun b hb => by have := n2 b hb; have := X.size; omega, X2⟩
    · have d1 : ¬ (i : Int) < (l.length : Int) := by omega
      rw [List.take_of_length_le (by omega)] at G
      simp only [go_sem, ↓reduceIte, d1]
      exact ⟨_, _, rfl, G, hfr, X⟩
  · rintro fr hh ⟨ov, tl, rfl, G, hfr, X⟩
    simp only [go_sem, ↓reduceIte]
    exact ⟨G, hfr, X⟩

/-! ### May they be? -/
theorem sCheck {h : LHeap} {v : Value} {l : List Ln} (F : SA 3 lc h v l) (hl : l.length < 1000000000000000) (hs : ∀ x ∈ l, x.f.1.size < 4611686018427387904) : LCalls EC 26 [v] h fun u h' => u = .int .i64 (firstN wLn l : Nat) ∧ Ext h h' := by
  refine LCalls.enter (lf := lf26) rfl rfl (by simp [lf26]) ?_
  have eL := fun hh => F.len (q := EC.q) (h := hh)
  simp only [go_sem, lf26, ↓reduceIte, eL]
  refine MC.cutb (fun fr hh => (∀ x ∈ l, wLn x = 0) ∧ Ext h hh) ?_ ?_
  · refine MC.loop (fun m fr hh => ∃ i tl, m = l.length - i ∧ fr = (6, v) :: (7, .int .i64 l.length) :: (8, .int .i64 (i : Nat)) :: tl ∧ i ≤ l.length ∧ (∀ x ∈ l.take i, wLn x = 0) ∧ Ext h hh) l.length
      ⟨0, [], rfl, rfl, Nat.zero_le _, by simp, Ext.refl _⟩ ?_
    rintro m fr hh J ⟨i, tl, rfl, rfl, hi, hno, X⟩ hJ
    by_cases hlt : i < l.length
    · have d1 : (i : Int) < (l.length : Int) := by omega
      have d0 : (0 : Int) ≤ (i : Int) := by omega
      obtain ⟨x, hx⟩ : ∃ x, l[i]? = some x := ⟨l[i], by simp [hlt]⟩
      obtain ⟨b, o, cs, t, r, rfl, hb, hg, k1, k2⟩ := F.at lc_cel hx
      have hg' : hh.get b = some (.cells cs t r) := by rw [X.get b hb, hg]
      have w1 : IntKind.i64.wrap ((i : Int) + 1) = ((i + 1 : Nat) : Int) := by rw [IntWalk.i64_in _ (by omega)]; omega
      have hsz := hs x (List.mem_of_getElem? hx)
      simp only [lc] at k1
      have hX : ∀ {c c'}, Ext hh ((hh.push c).set hh.size c') := (Ext.push _ _).set (Nat.le_refl _) _
      simp only [go_sem, ↓reduceIte, d1, d0, Int.toNat_natCast, hg', k1, k2, hsz]
      cases hn : nameB x.f.1 with
      | false =>
        have hw : wLn x = 30 := by simp [wLn, hn]
        have := firstN_at hx hno (by rw [hw]; decide)
        rw [hw] at this
        simp only [go_sem, ↓reduceIte, hn, this]
        exact X.trans hX
      | true =>
        cases hh2 : hopB x.f.1 x.f.2 with
        | true =>
          have hw : wLn x = 30 := by simp [wLn, hh2]
          have := firstN_at hx hno (by rw [hw]; decide)
          rw [hw] at this
          simp only [go_sem, ↓reduceIte, hn, hh2, this]
          exact X.trans hX
        | false =>
          have hw : wLn x = wrongN x.f.1 x.f.2 := by simp [wLn, hn, hh2]
          by_cases h0 : wrongN x.f.1 x.f.2 = 0
          · have q0 : (((0 : Nat) : Int) != 0) = false := rfl
            simp only [go_sem, ↓reduceIte, hn, hh2, hsz, h0, q0, w1]
            refine hJ _ _ _ (by omega) ⟨i + 1, _, rfl, rfl, by omega, ?_, X.trans hX⟩
            intro y hy
            rw [List.take_add_one, hx, List.mem_append] at hy
            rcases hy with hy | hy
            · exact hno y hy
            · simp only [Option.toList_some, List.mem_singleton] at hy
              rw [hy, hw, h0]
          · have q1 : ((wrongN x.f.1 x.f.2 : Int) != 0) = true := by simp; omega
            have := firstN_at hx hno (by rw [hw]; exact h0)
            rw [hw] at this
            simp only [go_sem, ↓reduceIte, hn, hh2, hsz, q1, this]
            exact X.trans hX
    · have d1 : ¬ (i : Int) < (l.length : Int) := by omega
      rw [List.take_of_length_le (by omega)] at hno
      simp only [go_sem, ↓reduceIte, d1]
      exact ⟨hno, X⟩
  · rintro fr hh ⟨hno, X⟩
    rw [firstN_zero hno]
    simp only [go_sem, ↓reduceIte]
    exact X

/-! ### Is it none of a field's? -/
theorem sOwnR (x : Ln) (h : LHeap) : LCalls EC 54 [.agg #[.string x.f.1, .string x.f.2, .bool x.never]] h fun v h' => v = .bool (ownB x) ∧ Ext h h' := by
  refine LCalls.enter (lf := lf54) rfl rfl (by simp [lf54]) ?_
  have hsz : x.f.1.data.toList.length = x.f.1.size := Array.length_toList
  unfold ownB
  cases hL : x.f.1.data.toList with
  | nil =>
    have hb : (x.f.1.data.toList == []) = true := by rw [hL]; rfl
    have e : (([] : List UInt8).head? == some 58) = false := rfl
    simp only [go_sem, lf54, ↓reduceIte, hb, e]
    exact Ext.push _ _
  | cons c l =>
    have hb : (x.f.1.data.toList == []) = false := by rw [hL]; rfl
    have hc : x.f.1.data.toList[0]? = some c := by rw [hL]; rfl
    have hc' : x.f.1.data.toList[(0 : Int).toNat]? = some c := hc
    have d0 : (0 : Int) ≤ 0 := Int.le_refl _
    have hk : ((c.toNat : Int) == 58) = ((c :: l).head? == some (58 : UInt8)) := by
      simp only [List.head?_cons, Option.some_beq_some]
      by_cases h58 : c = 58
      · subst h58; rfl
      · have : ¬ c.toNat = 58 := fun e => h58 (UInt8.toNat_inj.1 e)
        rw [beq_eq_false_iff_ne.2 h58]
        simp; omega
    simp only [go_sem, lf54, ↓reduceIte, hb, d0, hc, hc', hk]
    exact Ext.push _ _
theorem sOwnL (x : Ln) (h : LHeap) : LCalls EC 25 [.agg #[.string x.f.1, .string x.f.2, .bool x.never]] h fun v h' => v = .bool (ownB x) ∧ Ext h h' := by
  refine LCalls.enter (lf := lf25) rfl rfl (by simp [lf25]) ?_
  have hsz : x.f.1.data.toList.length = x.f.1.size := Array.length_toList
  unfold ownB
  cases hL : x.f.1.data.toList with
  | nil =>
    rw [hL] at hsz
    have d1 : ¬ (x.f.1.size : Int) > 0 := by rw [← hsz]; decide
    have d1' : ¬ (0 : Int) < (x.f.1.size : Int) := by rw [← hsz]; decide
    have e : (([] : List UInt8).head? == some 58) = false := rfl
    simp only [go_sem, lf25, ↓reduceIte, d1, d1', e]
    exact Ext.push _ _
  | cons c l =>
    rw [hL] at hsz
    have hs1 : x.f.1.size = l.length + 1 := hsz.symm
    have d1 : (x.f.1.size : Int) > 0 := by omega
    have d1' : (0 : Int) < (x.f.1.size : Int) := by omega
    have hc : x.f.1.data.toList[0]? = some c := by rw [hL]; rfl
    have hc' : x.f.1.data.toList[(0 : Int).toNat]? = some c := hc
    have d0 : (0 : Int) ≤ 0 := Int.le_refl _
    have hk : ((c.toNat : Int) == 58) = ((c :: l).head? == some (58 : UInt8)) := by
      simp only [List.head?_cons, Option.some_beq_some]
      by_cases h58 : c = 58
      · subst h58; rfl
      · have : ¬ c.toNat = 58 := fun e => h58 (UInt8.toNat_inj.1 e)
        rw [beq_eq_false_iff_ne.2 h58]
        simp; omega
    simp only [go_sem, lf25, ↓reduceIte, d1, d1', d0, hc, hc', hk]
    exact Ext.push _ _

theorem sIdxLines {v : Value} {l : List Ln} {h : LHeap} (F : SA 3 lc h v l) (hl : l.length < 1000000000000000) :
    LCalls EC 85 [v, .func (.func 54) #[] #[]] h fun v h' => (∃ k : Int, v = .int .i64 k ∧ decide (k ≥ 0) = l.any ownB) ∧ Ext h h' := by
  refine LCalls.enter (lf := lf85) rfl rfl (by simp [lf85]) ?_
  have eL := fun hh => F.len (q := EC.q) (h := hh)
  simp only [go_sem, lf85, ↓reduceIte, eL]
  refine MC.cutb (fun fr hh => l.any ownB = false ∧ Ext h hh) ?_ ?_
  · refine MC.loop (fun m fr hh => ∃ i tl, m = l.length - i ∧ fr = (0, v) :: (1, .func (.func 54) #[] #[]) :: (7, .int .i64 l.length) :: (8, .int .i64 (i : Nat)) :: tl ∧ i ≤ l.length ∧ (∀ e ∈ l.take i, ownB e = false) ∧ Ext h hh) l.length
      ⟨0, [], rfl, rfl, Nat.zero_le _, by simp, Ext.refl _⟩ ?_
    rintro m fr hh J ⟨i, tl, rfl, rfl, hi, hno, X⟩ hJ
    by_cases hlt : i < l.length
    · have d1 : (i : Int) < (l.length : Int) := by omega
      have d0 : (0 : Int) ≤ (i : Int) := by omega
      obtain ⟨x, hx⟩ : ∃ x, l[i]? = some x := ⟨l[i], by simp [hlt]⟩
      obtain ⟨b, o, cs, t, r, rfl, hb, hg, k1, k2⟩ := F.at lc_cel hx
      have hg' : hh.get b = some (.cells cs t r) := by rw [X.get b hb, hg]
      have w1 : IntKind.i64.wrap ((i : Int) + 1) = ((i + 1 : Nat) : Int) := by rw [IntWalk.i64_in _ (by omega)]; omega
      simp only [lc] at k1
      simp only [go_sem, ↓reduceIte, d1, d0, Int.toNat_natCast, hg', k1, k2]
      refine MCall.by (sOwnR x hh) ?_
      rintro v h' ⟨rfl, X'⟩
      cases hpe : ownB x with
      | false =>
        simp only [go_sem, ↓reduceIte, w1]
        refine hJ _ _ _ (by omega) ⟨i + 1, _, rfl, rfl, by omega, ?_, X.trans X'⟩
        intro y hy
        rw [List.take_add_one, hx, List.mem_append] at hy
        rcases hy with hy | hy
        · exact hno y hy
        · simp only [Option.toList_some, List.mem_singleton] at hy
          rw [hy]; exact hpe
      | true =>
        simp only [go_sem, ↓reduceIte]
        refine ⟨⟨_, rfl, ?_⟩, X.trans X'⟩
        rw [List.any_eq_true.2 ⟨x, List.mem_of_getElem? hx, hpe⟩]
        exact decide_eq_true (by omega)
    · have d1 : ¬ (i : Int) < (l.length : Int) := by omega
      rw [List.take_of_length_le (by omega)] at hno
      simp only [go_sem, ↓reduceIte, d1]
      exact ⟨List.any_eq_false.2 fun x hx => by rw [hno x hx]; decide, X⟩
  · rintro fr hh ⟨hno, X⟩
    rw [hno]
    simp only [go_sem, ↓reduceIte]
    exact ⟨⟨_, rfl, rfl⟩, X⟩
theorem sAnyOwn {v : Value} {l : List Ln} {h : LHeap} (F : SA 3 lc h v l) (hl : l.length < 1000000000000000) :
    LCalls EC 53 [v, .func (.func 54) #[] #[]] h fun v h' => v = .bool (l.any ownB) ∧ Ext h h' := by
  refine LCalls.enter (lf := lf53) rfl rfl (by simp [lf53]) ?_
  simp only [go_sem, lf53, ↓reduceIte]
  refine MCall.by (sIdxLines F hl) ?_
  rintro v h3 ⟨⟨k, rfl, hk⟩, X3⟩
  simp only [go_sem, ↓reduceIte, hk]
  exact X3

/-! ### How it ends -/
def trlN (l : List Ln) : Nat := if l.any ownB then 32 else firstN wLn l
theorem sTrailers {v : Value} {l : List Ln} {h : LHeap} (F : SA 3 lc h v l) (hl : l.length * 40 ≤ reachBytes) (hs : ∀ x ∈ l, x.f.1.size < 4611686018427387904) :
    LCalls EC 24 [v] h fun u h' => ∃ ov, u = .tuple #[ov, .int .i64 (trlN l : Nat)] ∧ (if trlN l = 0 then GL 2 fc h' ov (fldsL l) else ov = .slice none 0 0) ∧ Ext h h' := by
  have hrb : reachBytes ≤ 140737488355328 := by decide
  refine LCalls.enter (lf := lf24) rfl rfl (by simp [lf24]) ?_
  simp only [go_sem, lf24, ↓reduceIte]
  refine MCall.by (sAnyOwn F (by omega)) ?_
  rintro v1 h1 ⟨rfl, X1⟩
  unfold trlN
  cases ha : l.any ownB with
  | true =>
    simp only [go_sem, ↓reduceIte]
    exact ⟨_, rfl, by simp, X1⟩
  | false =>
    simp only [go_sem, ↓reduceIte]
    refine MCall.by (sCheck (F.ext X1) (by omega) hs) ?_
    rintro v1 h2 ⟨rfl, X2⟩
    by_cases h0 : firstN wLn l = 0
    · have q0 : (((0 : Nat) : Int) != 0) = false := rfl
      simp only [go_sem, ↓reduceIte, h0, q0]
      refine MCall.by (sDecFields (F.ext (X1.trans X2)) hl) ?_
      rintro v1 h3 ⟨G, hf, X3⟩
      simp only [go_sem, ↓reduceIte]
      exact ⟨_, rfl, by simpa using G, (X1.trans X2).trans X3⟩
    · have q1 : ((firstN wLn l : Int) != 0) = true := by simp; omega
      simp only [go_sem, ↓reduceIte, q1]
      exact ⟨_, rfl, by simp [h0], X1.trans X2⟩

theorem q_fld (a b : ByteArray) : EC.q 33 (.agg #[.string a, .string b]) (.agg #[.string a, .string b]) = some true := by
  have e : qAll.lookup 33 = some [.str, .str] := rfl
  rw [EC_q]
  simp only [qOf, e, cellsEq, leafEq, decide_true, beq_self_eq_true, Bool.and_self]

theorem sReqTrailers {v : Value} {l : List Ln} {h : LHeap} (F : SL 3 lc h v l) (hl : RchL l) : LCalls EC 5 [v] h fun u _ => u = .bool true := by
  have hrb : reachBytes ≤ 140737488355328 := by decide
  have hl1 := hl.1
  refine LCalls.enter (lf := lf5) rfl rfl (by simp [lf5]) ?_
  have eL := fun hh => F.len (q := EC.q) (h := hh)
  simp only [go_sem, lf5, ↓reduceIte]
  refine MCall.by (sDecFields (F.sa lc_cel) hl.1) ?_
  rintro fv h1 ⟨G, _, X1⟩
  have eG := fun hh => G.len (q := EC.q) (h := hh)
  have q0 : (((fldsL l).length : Int) != (l.length : Int)) = false := by rw [fldsL_len]; simp
  simp only [go_sem, ↓reduceIte, eG, eL, q0]
  refine MCall.by (sSmallF G.sl ⟨by rw [fldsL_len]; omega, fun x hx => ?_⟩) ?_
  · obtain ⟨y, hy, rfl⟩ := List.mem_map.1 hx
    exact hl.2 y hy
  rintro u h2 ⟨rfl, X2⟩
  cases hsm : smallF (fldsL l) with
  | false => simp only [go_sem, ↓reduceIte]
  | true =>
    have h5 : s5 (fldsL l) ≤ 1000 := of_decide_eq_true hsm
    have hn := s5_len (fldsL l)
    rw [fldsL_len] at hn
    have hs : ∀ x ∈ l, x.f.1.size < 4611686018427387904 := fun x hx => by have := (hl.2 x hx).1; omega
    have X12 := X1.trans X2
    simp only [go_sem, ↓reduceIte]
    refine MCall.by (sTrailers ((F.ext X12).sa lc_cel) hl.1 hs) ?_
    rintro u h3 ⟨ov, rfl, ho, X3⟩
    have X13 := X12.trans X3
    simp only [go_sem, ↓reduceIte, eL]
    refine MC.cutb (fun fr hh => ∃ tl, fr = (0, v) :: (3, fv) :: (4, ov) :: (5, .int .i64 (trlN l : Nat)) :: tl ∧ l.any ownB = false ∧ Ext h3 hh) ?_ ?_
    · refine MC.loop (fun m fr hh => ∃ i tl, m = l.length - i ∧ fr = (0, v) :: (3, fv) :: (4, ov) :: (5, .int .i64 (trlN l : Nat)) :: (26, v) :: (27, .int .i64 l.length) :: (28, .int .i64 (i : Nat)) :: tl ∧ i ≤ l.length ∧ (∀ e ∈ l.take i, ownB e = false) ∧ Ext h3 hh) l.length
        ⟨0, [], rfl, rfl, Nat.zero_le _, by simp, Ext.refl _⟩ ?_
      rintro m fr hh J ⟨i, tl, rfl, rfl, hi, hno, X⟩ hJ
      by_cases hlt : i < l.length
      · have d1 : (i : Int) < (l.length : Int) := by omega
        have d0 : (0 : Int) ≤ (i : Int) := by omega
        obtain ⟨x, hx⟩ : ∃ x, l[i]? = some x := ⟨l[i], by simp [hlt]⟩
        obtain ⟨b, t, r, rfl, hb, hg⟩ := F.at hx
        obtain ⟨k1, k2⟩ := lc_cel.get hx
        have hg' : hh.get b = some (.cells (l.flatMap lc) t r) := by rw [(X13.trans X).get b hb, hg]
        have w1 : IntKind.i64.wrap ((i : Int) + 1) = ((i + 1 : Nat) : Int) := by rw [IntWalk.i64_in _ (by omega)]; omega
        simp only [lc] at k1
        have hX : ∀ {c c'}, Ext hh ((hh.push c).set hh.size c') := (Ext.push _ _).set (Nat.le_refl _) _
        simp only [go_sem, ↓reduceIte, d1, d0, Int.toNat_natCast, hg', k1, k2]
        refine MCall.by (sOwnL x _) ?_
        rintro u h' ⟨rfl, X'⟩
        cases hpe : ownB x with
        | false =>
          simp only [go_sem, ↓reduceIte, w1]
          refine hJ _ _ _ (by omega) ⟨i + 1, _, rfl, rfl, by omega, ?_, X.trans (hX.trans X')⟩
          intro y hy
          rw [List.take_add_one, hx, List.mem_append] at hy
          rcases hy with hy | hy
          · exact hno y hy
          · simp only [Option.toList_some, List.mem_singleton] at hy
            rw [hy]; exact hpe
        | true =>
          have he : trlN l = 32 := by
            unfold trlN
            rw [List.any_eq_true.2 ⟨x, List.mem_of_getElem? hx, hpe⟩]; rfl
          rw [he, if_neg (by decide)] at ho
          subst ho
          simp only [go_sem, ↓reduceIte, he]
          try rfl
      · have d1 : ¬ (i : Int) < (l.length : Int) := by omega
        rw [List.take_of_length_le (by omega)] at hno
        simp only [go_sem, ↓reduceIte, d1]
        exact ⟨_, rfl, List.any_eq_false.2 fun x hx => by rw [hno x hx]; decide, X⟩
    · rintro fr h4 ⟨tl, rfl, hno, X4⟩
      have he : trlN l = firstN wLn l := by unfold trlN; rw [hno]; rfl
      rw [he] at ho ⊢
      simp only [go_sem, ↓reduceIte]
      refine MCall.by (sCheck ((F.ext (X13.trans X4)).sa lc_cel) (by omega) hs) ?_
      rintro u hc5 ⟨rfl, X5⟩
      by_cases h0 : firstN wLn l = 0
      · rw [if_pos h0] at ho
        have q0 : (((0 : Nat) : Int) != 0) = false := rfl
        have q1 : (((fldsL l).length : Int) != (l.length : Int)) = false := by rw [fldsL_len]; simp
        have eO := fun hh => ho.len (q := EC.q) (h := hh)
        simp only [go_sem, ↓reduceIte, h0, q0, eO, eL, q1]
        have A := (ho.ext (X4.trans X5)).sl
        have B := (G.ext (X2.trans (X3.trans (X4.trans X5)))).sl
        have hfl := fldsL_len l
        generalize fldsL l = fl at *
        refine MC.cutb (fun fr hh => True) ?_ ?_
        · refine MC.loop (fun m fr hh => ∃ i tl, m = fl.length - i ∧ fr = (3, fv) :: (4, ov) :: (70, .int .i64 fl.length) :: (71, .int .i64 (i : Nat)) :: tl ∧ i ≤ fl.length ∧ Ext hc5 hh) fl.length
            ⟨0, [], rfl, rfl, Nat.zero_le _, Ext.refl _⟩ ?_
          rintro m fr hh J ⟨i, tl, rfl, rfl, hi, X⟩ hJ
          by_cases hlt : i < fl.length
          · have d1 : (i : Int) < (fl.length : Int) := by omega
            have d0 : (0 : Int) ≤ (i : Int) := by omega
            obtain ⟨x, hx⟩ : ∃ x, fl[i]? = some x := ⟨fl[i], by simp [hlt]⟩
            obtain ⟨b1, t1, r1, rfl, hb1, hg1⟩ := A.at hx
            obtain ⟨b2, t2, r2, rfl, hb2, hg2⟩ := B.at hx
            obtain ⟨k1, k2⟩ := fc_cel.get hx
            have hg1' : hh.get b1 = some (.cells (fl.flatMap fc) t1 r1) := by rw [X.get b1 hb1, hg1]
            have hg2' : hh.get b2 = some (.cells (fl.flatMap fc) t2 r2) := by rw [X.get b2 hb2, hg2]
            have w1 : IntKind.i64.wrap ((i : Int) + 1) = ((i + 1 : Nat) : Int) := by rw [IntWalk.i64_in _ (by omega)]; omega
            simp only [fc] at k1
            have hq := q_fld x.1 x.2
            simp only [go_sem, ↓reduceIte, d1]
            refine MC.dregion ?_
            simp only [go_sem, ↓reduceIte, d1, d0, Int.toNat_natCast, hg1', hg2', k1, k2, hq, w1]
            exact hJ _ _ _ (by omega) ⟨i + 1, _, rfl, rfl, by omega, X⟩
          · have d1 : ¬ (i : Int) < (fl.length : Int) := by omega
            simp only [go_sem, ↓reduceIte, d1]
        · rintro fr hh _
          simp only [go_sem, ↓reduceIte]
      · rw [if_neg h0] at ho
        subst ho
        have q1 : ((firstN wLn l : Int) != 0) = true := by simp; omega
        have q2 : ((firstN wLn l : Int) == (firstN wLn l : Int)) = true := by simp
        simp only [go_sem, ↓reduceIte, q1, q2]
        try rfl

theorem lawTrailers (h : LHeap) (lvs : List Value) (hl : LArgs Tryz.prog h 6 [28] lvs) : LCalls EC 5 lvs h fun v _ => v = .bool true := by
  obtain ⟨v0, r0, rfl, h0, hr0⟩ := LArgs_cons hl
  obtain rfl := LArgs_nil hr0
  obtain ⟨l, F, R⟩ := larg_lines h0
  exact sReqTrailers F R
end Go.E1
