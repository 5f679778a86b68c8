/-
  RequestSecret: the walk.
-/
import Derived.Test.YtdbjklgnhbmlaaaGreatKj
namespace Go.M
open Go.E1
def auth : List UInt8 := [58, 97, 117, 116, 104, 111, 114, 105, 116, 121]
/-- As each line of a request is. -/
def secLn (x : Ln) : Prop := x.never = sensB x.f.1 ∧ hopB x.f.1 x.f.2 = false ∧ ((x.f.1.data.toList == auth) = true → (x.f.2.data.toList == []) = false)
theorem name_58 {a : ByteArray} (h : nameB a = true) : (a.data.toList == auth) = false := by
  cases he : a.data.toList == auth with
  | false => rfl
  | true =>
    have e := eq_of_beq he
    unfold nameB at h
    rw [e] at h
    simp only [Bool.and_eq_true] at h
    have : (auth.all fun c => List.contains Go.E1.nameBytes c) = false := by decide
    rw [this] at h
    exact absurd h.1 (by decide)
theorem wrong_name {a b : ByteArray} (h : wrongN a b = 0) : nameB a = true := by
  unfold wrongN at h
  cases hn : nameB a with
  | true => rfl
  | false => rw [hn] at h; simp at h
theorem errF_all : ∀ {l : List Fld}, errF l = 0 → ∀ x ∈ l, wrongN x.1 x.2 = 0
  | [], _, x, hx => by cases hx
  | y :: l, h, x, hx => by
    rw [errF] at h
    split at h
    · rename_i h1; exact absurd h h1
    · rename_i h1
      rcases List.mem_cons.1 hx with rfl | hx
      · omega
      · exact errF_all h x hx
theorem sec_lines {l : List Fld} (h : errF l = 0) : ∀ x ∈ linesF l, secLn x := by
  intro x hx
  obtain ⟨f, hf, hfx⟩ := List.mem_filterMap.1 hx
  unfold lnOf at hfx
  split at hfx
  · cases hfx
  · rename_i hh
    cases hfx
    exact ⟨rfl, by simpa using hh, fun e => by rw [name_58 (wrong_name (errF_all h f hf))] at e; cases e⟩
theorem sec_heads {m s p a : ByteArray} : ∀ x ∈ headsL m s p a, secLn x := by
  intro x hx
  unfold headsL at hx
  simp only [List.mem_append, List.mem_cons, List.not_mem_nil, or_false] at hx
  rcases hx with (rfl | rfl | rfl) | hx
  · exact ⟨rfl, rfl, fun e => absurd (show false = true from e) (by decide)⟩
  · exact ⟨rfl, rfl, fun e => absurd (show false = true from e) (by decide)⟩
  · exact ⟨rfl, rfl, fun e => absurd (show false = true from e) (by decide)⟩
  · split at hx
    · cases hx
    · rename_i ha
      rw [List.mem_singleton.1 hx]
      exact ⟨rfl, rfl, fun _ => by simpa using ha⟩
end Go.M
namespace Go.E1
open Go Go.Proofs Go.M
set_option linter.unusedSimpArgs false

theorem sSecret (m s p a : ByteArray) {fv bv : Value} {l : List Fld} {k : Nat} {h : LHeap} (F : SL 2 fc h fv l) (hl : RchF l) (hb : ∀ q h', lexec q (.lenS bv) h' = some (.int .i64 (k : Nat), h')) :
    LCalls EC 3 [reqV m s p a fv bv] h fun u _ => u = .bool true := by
  refine LCalls.enter (lf := lf3) rfl rfl (by simp [lf3]) ?_
  simp only [reqV, go_sem, lf3, ↓reduceIte]
  generalize hq : h.push (LObj.cells [Value.string m, Value.string s, Value.string p, Value.string a, fv, bv] true true) = h1
  have X1 : Ext h h1 := by rw [← hq]; exact Ext.push _ _
  have g1 : h1.get h.size = some (.cells [.string m, .string s, .string p, .string a, fv, bv] true true) := by rw [← hq]; simp
  have s1 : h1.size = h.size + 1 := by rw [← hq]; simp
  refine MCall.by (sWords m s p a (F.ext X1) hl hb) ?_
  rintro u h2 ⟨rfl, X2⟩
  have g2 := (X2.get h.size (by omega)).trans g1
  have s2 := X2.size
  cases hw : wordsB m s p a l k with
  | false => simp only [go_sem, ↓reduceIte]
  | true =>
    obtain ⟨_, _, _, _, h5, _⟩ := words_in hw
    have hlen := s5_len l
    simp only [go_sem, ↓reduceIte, g2]
    refine MCall.by (sLines m s p a bv (F.ext (X1.trans X2)) (by omega) (fun f hf => by have := s5_mem hf; omega)) ?_
    rintro u h3 ⟨ov, rfl, ho, X3⟩
    have g3 := (X3.get h.size (by omega)).trans g2
    have s3 := X3.size
    by_cases he : reqErr m s p a l = 0
    · rw [if_pos he] at ho
      obtain ⟨G, hfr⟩ := ho
      have hsec : ∀ x ∈ headsL m s p a ++ linesF l, secLn x := by
        intro x hx
        rcases List.mem_append.1 hx with hx | hx
        · exact sec_heads x hx
        · refine sec_lines ?_ x hx
          unfold reqErr at he
          split at he
          · exact he
          · cases he
      have hL : (headsL m s p a ++ linesF l).length ≤ 4 + l.length ∧ 3 ≤ (headsL m s p a ++ linesF l).length := by
        have := headsL_len m s p a
        have := linesF_len l
        rw [List.length_append]; omega
      generalize headsL m s p a ++ linesF l = ls at *
      have q0 : (((0 : Nat) : Int) != 0) = false := rfl
      have eG := fun hh => G.len (q := EC.q) (h := hh)
      simp only [go_sem, ↓reduceIte, he, q0, eG]
      refine MC.cutb (fun fr hh => ∃ tl, fr = (1, .pointer (some ⟨h.size, 0, none⟩)) :: (3, ov) :: tl ∧ Ext h3 hh) ?_ ?_
      · refine MC.loop (fun n fr hh => ∃ i tl, n = ls.length - i ∧ i ≤ ls.length ∧ fr = (1, .pointer (some ⟨h.size, 0, none⟩)) :: (3, ov) :: (24, ov) :: (25, .int .i64 ls.length) :: (26, .int .i64 (i : Nat)) :: tl ∧ Ext h3 hh) ls.length ⟨0, [], rfl, Nat.zero_le _, rfl, Ext.refl _⟩ ?_
        rintro n fr hh J ⟨i, tl, rfl, hi, rfl, X⟩ hJ
        by_cases hlt : i < ls.length
        · have d1 : (i : Int) < (ls.length : Int) := by omega
          have d0 : (0 : Int) ≤ (i : Int) := by omega
          obtain ⟨x, hx⟩ : ∃ x, ls[i]? = some x := ⟨ls[i], by simp [hlt]⟩
          obtain ⟨b, rfl, hbl, hg⟩ := G.at hx
          obtain ⟨k1, k2⟩ := lc_cel.get hx
          have hg' : hh.get b = some (.cells (ls.flatMap lc) true true) := by rw [X.get b hbl, hg]
          have w1 : IntKind.i64.wrap ((i : Int) + 1) = ((i + 1 : Nat) : Int) := by rw [IntWalk.i64_in _ (by omega)]; omega
          have hX : ∀ {c c'}, Ext hh ((hh.push c).set hh.size c') := (Ext.push _ _).set (Nat.le_refl _) _
          obtain ⟨e1, e2, e3⟩ := hsec x (List.mem_of_getElem? hx)
          simp only [lc, e1] at k1
          simp only [go_sem, ↓reduceIte, d1, d0, Int.toNat_natCast, hg', k1, k2]
          refine MC.dregion ?_
          cases ha : (x.f.1.data.toList == auth) with
          | true =>
            have hv := e3 ha
            unfold auth at ha
            simp only [go_sem, ↓reduceIte, e2, ha, hv, w1]
            exact hJ _ _ _ (by omega) ⟨i + 1, _, rfl, by omega, rfl, X.trans hX⟩
          | false =>
            unfold auth at ha
            simp only [go_sem, ↓reduceIte, e2, ha, w1]
            exact hJ _ _ _ (by omega) ⟨i + 1, _, rfl, by omega, rfl, X.trans hX⟩
        · have d1 : ¬ (i : Int) < (ls.length : Int) := by omega
          simp only [go_sem, ↓reduceIte, d1]
          exact ⟨_, rfl, X⟩
      · rintro fr hh ⟨tl, rfl, X⟩
        have gh := (X.get h.size (by omega)).trans g3
        have eF := fun h' => F.len (q := EC.q) (h := h')
        have d1 : (3 : Int) ≤ (ls.length : Int) := by omega
        have w1 : IntKind.i64.wrap (4 + (l.length : Int)) = ((4 + l.length : Nat) : Int) := by rw [IntWalk.i64_in _ (by omega)]; omega
        have d2 : (ls.length : Int) ≤ ((4 + l.length : Nat) : Int) := by omega
        simp only [go_sem, ↓reduceIte, eG, gh, eF, w1, d1, d2]
    · rw [if_neg he] at ho
      subst ho
      have q1 : ((reqErr m s p a l : Int) != 0) = true := by simp; omega
      simp only [go_sem, ↓reduceIte, q1]
      try rfl

theorem lawSecret (h : LHeap) (lvs : List Value) (hl : LArgs Tryz.prog h 6 [25] lvs) : LCalls EC 3 lvs h fun v _ => v = .bool true := by
  obtain ⟨v0, r0, rfl, h0, hr0⟩ := LArgs_cons hl
  obtain rfl := LArgs_nil hr0
  obtain ⟨m, s, p, a, fv, bv, l, k, rfl, F, R, B, _⟩ := larg_req h0
  exact sSecret m s p a F R B
end Go.E1
