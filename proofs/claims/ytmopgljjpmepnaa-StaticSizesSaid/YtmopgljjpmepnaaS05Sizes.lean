/-
  StaticSizes, over the engine's answer.
-/
import Derived.Test.YtmopgljjpmepnaaS05Fn
import Derived.Test.YtmopgljjpmepnaaE1Args
namespace Go.E1
open Go Go.Proofs
set_option linter.unusedSimpArgs false

def sumW : Int → List (ByteArray × ByteArray) → Int
  | n, [] => n
  | n, e :: l => sumW (IntKind.i64.wrap (n + szW e.1 e.2)) l
theorem sumW_append : ∀ (n : Int) (a b : List (ByteArray × ByteArray)), sumW n (a ++ b) = sumW (sumW n a) b
  | n, [], b => rfl
  | n, e :: a, b => by simp only [List.cons_append, sumW]; exact sumW_append _ a b
theorem sum_take {l : List (ByteArray × ByteArray)} {i : Nat} {e : ByteArray × ByteArray} (he : l[i]? = some e) : sumW 0 (l.take (i + 1)) = IntKind.i64.wrap (sumW 0 (l.take i) + szW e.1 e.2) := by
  rw [List.take_add_one, he, sumW_append]
  simp [sumW]

theorem c17 {b : Nat} (L : List (ByteArray × ByteArray)) {h : LHeap} {t r : Bool} (hg : h.get b = some (.cells (cellsOf L) t r)) (hb : b < h.size) (hL : L.length ≤ 100) :
    LCalls E05b 17 [.slice (some ⟨b, 0, none⟩) L.length 2] h fun v h' => v = .int .i64 (sumW 0 L) ∧ Ext h h' := by
  refine LCalls.enter (lf := lf17) rfl rfl (by simp [lf17]) ?_
  simp only [go_sem, lf17, ↓reduceIte]
  refine MC.loop (fun m fr hh => ∃ i : Nat, fr = [(3, .int .i64 (sumW 0 (L.take i))), (6, .slice (some ⟨b, 0, none⟩) L.length 2), (7, .int .i64 L.length), (8, .int .i64 i)] ∧ i ≤ L.length ∧ m = L.length - i ∧ Ext h hh) L.length
    ⟨0, rfl, Nat.zero_le _, rfl, Ext.refl h⟩ ?_
  rintro m fr hh J ⟨i, rfl, hi, hm, hx⟩ hJ
  simp only [go_sem, ↓reduceIte]
  by_cases hlt : i < L.length
  · have hlt' : (i : Int) < (L.length : Int) := by omega
    have hg' : hh.get b = some (.cells (cellsOf L) t r) := by rw [hx.get b hb, hg]
    obtain ⟨e, he⟩ : ∃ e, L[i]? = some e := ⟨L[i], by simp [hlt]⟩
    have hz : (0 : Int) ≤ (i : Int) := by omega
    have hlen2 : i * 2 + 2 ≤ (cellsOf L).length := by rw [cellsOf_len]; omega
    simp only [go_sem, hlt', ↓reduceIte, hz, hg', hlen2, cellsOf_at L i e he]
    refine hJ (L.length - (i + 1)) _ _ (by omega) ⟨i + 1, ?_, by omega, rfl, ?_⟩
    · rw [sum_take he, IntWalk.i64_in ((i : Int) + 1) (by omega)]
      rfl
    · exact hx.trans ((Ext.push hh _).set (Nat.le_refl _) _)
  · have hlt' : ¬ (i : Int) < (L.length : Int) := by omega
    simp only [go_sem, hlt', ↓reduceIte]
    rw [List.take_of_length_le (by omega)]
    exact ⟨rfl, hx⟩

theorem c17nil (h : LHeap) (c : Nat) : LCalls E05b 17 [.slice none 0 c] h fun v h' => v = .int .i64 0 ∧ Ext h h' := by
  refine LCalls.enter (lf := lf17) rfl rfl (by simp [lf17]) ?_
  simp only [go_sem, lf17, ↓reduceIte]
  refine MC.loop (fun m fr hh => fr = [(3, .int .i64 0), (6, .slice none 0 c), (7, .int .i64 0), (8, .int .i64 0)] ∧ hh = h) 0 ⟨rfl, rfl⟩ ?_
  rintro m fr hh J ⟨rfl, rfl⟩ hJ
  simp only [go_sem, ↓reduceIte]
  exact Ext.refl _

theorem staticSizes_nil (h : LHeap) (c : Nat) : LCalls E05b 6 [.slice none 0 c] h fun v _ => v = .bool true := by
  refine LCalls.enter (lf := lf6) rfl rfl (by simp [lf6]) ?_
  simp only [go_sem, lf6, ↓reduceIte]
  refine MC.loop (fun m fr hh => fr = [(0, .slice none 0 c), (3, .int .i64 0), (10, .slice none 0 c), (11, .int .i64 0), (12, .int .i64 0)] ∧ hh = h) 0 ⟨rfl, rfl⟩ ?_
  rintro m fr hh J ⟨rfl, rfl⟩ hJ
  simp only [go_sem, ↓reduceIte]
  refine MCall.by (c17nil _ c) ?_
  rintro v h' ⟨rfl, _⟩
  simp only [go_sem, ↓reduceIte]

theorem staticSizes_some {b : Nat} (L : List (ByteArray × ByteArray)) {h : LHeap} {t r : Bool} (hg : h.get b = some (.cells (cellsOf L) t r)) (hb : b < h.size) :
    LCalls E05b 6 [.slice (some ⟨b, 0, none⟩) L.length 2] h fun v _ => v = .bool true := by
  refine LCalls.enter (lf := lf6) rfl rfl (by simp [lf6]) ?_
  by_cases hL : L.length ≤ 100
  · have hL' : ¬ (100 : Int) < (L.length : Int) := by omega
    simp only [go_sem, lf6, ↓reduceIte, hL']
    refine MC.loop (fun m fr hh => ∃ i : Nat, fr = [(0, .slice (some ⟨b, 0, none⟩) L.length 2), (3, .int .i64 (sumW 0 (L.take i))), (10, .slice (some ⟨b, 0, none⟩) L.length 2), (11, .int .i64 L.length), (12, .int .i64 i)] ∧ i ≤ L.length ∧ m = L.length - i ∧ Ext h hh) L.length
      ⟨0, rfl, Nat.zero_le _, rfl, Ext.refl h⟩ ?_
    rintro m fr hh J ⟨i, rfl, hi, hm, hx⟩ hJ
    simp only [go_sem, ↓reduceIte]
    by_cases hlt : i < L.length
    · have hlt' : (i : Int) < (L.length : Int) := by omega
      have hg' : hh.get b = some (.cells (cellsOf L) t r) := by rw [hx.get b hb, hg]
      obtain ⟨e, he⟩ : ∃ e, L[i]? = some e := ⟨L[i], by simp [hlt]⟩
      have hz : (0 : Int) ≤ (i : Int) := by omega
      have hlen2 : i * 2 + 2 ≤ (cellsOf L).length := by rw [cellsOf_len]; omega
      simp only [go_sem, hlt', ↓reduceIte, hz, hg', hlen2, cellsOf_at L i e he]
      refine MC.dregion ?_
      simp only [go_sem, ↓reduceIte, szW, bne_self_eq_false]
      refine hJ (L.length - (i + 1)) _ _ (by omega) ⟨i + 1, ?_, by omega, rfl, ?_⟩
      · rw [sum_take he, IntWalk.i64_in ((i : Int) + 1) (by omega)]
        rfl
      · exact hx.trans ((Ext.push hh _).set (Nat.le_refl _) _)
    · have hlt' : ¬ (i : Int) < (L.length : Int) := by omega
      simp only [go_sem, hlt', ↓reduceIte]
      rw [List.take_of_length_le (by omega)]
      refine MCall.by (c17 L (by rw [hx.get b hb, hg]) (Nat.lt_of_lt_of_le hb hx.size) hL) ?_
      rintro v h' ⟨rfl, _⟩
      simp only [go_sem, ↓reduceIte]
  · have hL' : (100 : Int) < (L.length : Int) := by omega
    simp only [go_sem, lf6, ↓reduceIte, hL']

theorem larg_fields {P : Program} {t e s : TypeId} {f0 f1 : Field} (h1 : P.underlying t = some (.slice e)) (h2 : P.underlying e = some (.struct #[f0, f1])) (h3 : f0.type = s) (h4 : f1.type = s) (h5 : P.underlying s = some .string) (h6 : P.cellsOf e = 2)
    {n : Nat} {h : LHeap} {lv : Value} (hl : LArg P h n t lv) : lv = .slice none 0 0 ∨ ∃ (b : Nat) (L : List (ByteArray × ByteArray)), lv = .slice (some ⟨b, 0, none⟩) L.length 2 ∧ h.get b = some (.cells (cellsOf L) false false) ∧ b < h.size := by
  have cells : ∀ n c, LRd P h n e c → ∃ e : ByteArray × ByteArray, c = [.string e.1, .string e.2] := by
    intro n c hc
    obtain ⟨m, parts, _, rfl, hlen, hp⟩ := LRd_struct h2 hc
    match parts, hlen with
    | [p, q], _ =>
      obtain ⟨s1, rfl, _⟩ := LRd_string (by rw [h3]; exact h5) (hp 0 f0 p rfl rfl).2
      obtain ⟨s2, rfl, _⟩ := LRd_string (by rw [h4]; exact h5) (hp 1 f1 q rfl rfl).2
      exact ⟨(s1, s2), rfl⟩
  have many : ∀ n (css : List (List Value)), (∀ c ∈ css, LRd P h n e c) → ∃ L : List (ByteArray × ByteArray), css.flatten = cellsOf L ∧ L.length = css.length := by
    intro n css
    induction css with
    | nil => intro _; exact ⟨[], rfl, rfl⟩
    | cons c css ih =>
      intro hc
      obtain ⟨e, rfl⟩ := cells n c (hc c (List.mem_cons_self ..))
      obtain ⟨L, h1, h2⟩ := ih fun x hx => hc x (List.mem_cons_of_mem _ hx)
      exact ⟨e :: L, by rw [List.flatten_cons, h1]; rfl, by simp [h2]⟩
  rcases hl with ⟨g1, _⟩ | ⟨_, hl⟩
  · simp [isAggP, h1] at g1
  · rcases LRd_slice h1 hl with hl | ⟨b, len, css, m, _, hl, g1, g2, g3, _, g4⟩
    · simp only [List.cons.injEq, and_true] at hl
      exact .inl hl
    · simp only [List.cons.injEq, and_true] at hl
      obtain ⟨L, k1, k2⟩ := many m css fun c hc => (g4 c hc).2
      refine .inr ⟨b, L, ?_, by rw [g2, k1], g1⟩
      rw [hl, h6, k2, g3]

theorem staticSizes (h : LHeap) (lvs : List Value) (hl : LArgs Try.prog h 6 [38] lvs) : LCalls E05b 6 lvs h fun v _ => v = .bool true := by
  obtain ⟨lv, r, rfl, hl1, hr⟩ := LArgs_cons hl
  obtain rfl := LArgs_nil hr
  rcases larg_fields Try.underlying38 Try.underlying23 rfl rfl Try.underlying9 (by kernel_rfl) hl1 with rfl | ⟨b, L, rfl, hg, hb⟩
  · exact staticSizes_nil h 0
  · exact staticSizes_some L hg hb

end Go.E1
