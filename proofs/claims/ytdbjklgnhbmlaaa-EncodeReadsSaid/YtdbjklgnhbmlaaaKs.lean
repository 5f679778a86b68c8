/-
  Texts joined: LwArg, Lw8D.
-/
import Derived.Test.YtdbjklgnhbmlaaaKl
import Derived.Test.YtdbjklgnhbmlaaaKr
/-
  A law's arguments: numbers, bytes, blocks; a line is itself.
-/
namespace Go.E1
open Go Go.Proofs Go.M
set_option linter.unusedSimpArgs false

theorem larg_int {h : LHeap} {n : Nat} {lv : Value} (hl : LArg Try.prog h n 3 lv) : ∃ i, lv = .int .i64 i ∧ (Lit.int .i64 i).wf = true := by
  rcases hl with ⟨g1, _⟩ | ⟨_, hl⟩
  · simp [isAggP, Try.underlying3] at g1
  · obtain ⟨i, h1, h2⟩ := LRd_int Try.underlying3 hl
    exact ⟨i, by simpa using h1, h2⟩
theorem larg_bytes {h : LHeap} {n : Nat} {lv : Value} (hl : LArg Try.prog h n 32 lv) : ∃ l, BA h lv l ∧ l.length ≤ reachBytes := by
  rcases hl with ⟨g1, _⟩ | ⟨_, hl⟩
  · simp [isAggP, Try.underlying32] at g1
  · obtain ⟨v, l, h1, h2, h3⟩ := LRd_bytes hl
    simp only [List.cons.injEq, and_true] at h1
    subst h1
    exact ⟨l, h2, h3⟩
theorem larg_blocks {h : LHeap} {n : Nat} {lv : Value} (hl : LArg Try.prog h n 31 lv) : ∃ ls, BL h lv ls ∧ ∀ l ∈ ls, l.length ≤ reachBytes := by
  rcases hl with ⟨g1, _⟩ | ⟨_, hl⟩
  · simp [isAggP, Try.underlying31] at g1
  · obtain ⟨v, l, h1, h2, h3⟩ := LRd_blocks hl
    simp only [List.cons.injEq, and_true] at h1
    subst h1
    exact ⟨l, h2, h3⟩

theorem EC_q : EC.q = qOf qAll := by kernel_rfl
theorem q_line (a b : ByteArray) (n : Bool) : EC.q 47 (.agg #[.string a, .string b, .bool n]) (.agg #[.string a, .string b, .bool n]) = some true := by
  have e : qAll.lookup 47 = some [.str, .str, .bool] := rfl
  rw [EC_q]
  simp only [qOf, e, cellsEq, leafEq, decide_true, beq_self_eq_true, Bool.and_self]

end Go.E1

/-
  EncodeReads.
-/
namespace Go.M
open Go.E1
theorem lsz_s10 (l : List Ln) (h : s10 l ≤ 600) : lsz l ≤ 4000 := by
  have h1 := s10_len l
  have : lsz l ≤ s10 l + 22 * l.length := by
    clear h h1
    induction l with
    | nil => simp [lsz]
    | cons x l ih =>
      have e1 : lsz (x :: l) = fsz x.f + lsz l := by simp [lsz]
      have e2 : s10 (x :: l) = 10 + x.f.1.size + x.f.2.size + s10 l := by simp [s10]
      have e3 : fsz x.f = x.f.1.size + x.f.2.size + 32 := rfl
      rw [List.length_cons]; omega
  omega
theorem decode_lines {most : Nat} {st : St} {l : List Ln} (h : s10 l ≤ 600) : M.decode most 16384 ⟨st, false⟩ (blockEnc l) = (⟨st, false⟩, .ok l) := by
  have hl := lsz_s10 l h
  rw [decode_eq]
  simp only [Bool.false_eq_true, ↓reduceIte]
  rw [dec_lines l [] 0 (s10_ok h) (by omega)]
  rfl
end Go.M
namespace Go.E1
open Go Go.Proofs Go.M
set_option linter.unusedSimpArgs false

theorem OutAt.blks {h : LHeap} {lo : Nat} {v : Value} {l : Bytes} (O : OutAt h lo v l) {S : Nat → Prop} (hS : ∀ b, S b → b < lo) : Blks h v l S := by
  rcases O with ⟨rfl, rfl⟩ | ⟨b, rfl, h1, h2, h3⟩
  · exact ⟨.inl ⟨rfl, rfl⟩⟩
  · exact ⟨.inr ⟨b, 0, rfl, ⟨h2, _, _, _, h3, by rw [bv_len]; omega, by rw [List.drop_zero, ← bv_len, List.take_length]⟩, fun q => absurd (hS b q) (Nat.not_lt.2 h1)⟩⟩

theorem sReads {h : LHeap} {v w : Value} {l : List Ln} {most : Int} {ahead : Bytes} (S : LS0 h v l) (hl : Rch l) (A : BA h w ahead) :
    LCalls EC 13 [v, .int .i64 most, w] h fun u _ => u = .bool true := by
  refine LCalls.enter (lf := lf13) rfl rfl (by simp [lf13]) ?_
  have eA := fun h => A.len (q := EC.q) (h := h)
  have el := fun h => S.len (q := EC.q) (h := h)
  simp only [go_sem, lf13, ↓reduceIte]
  refine MCall.by (sSmall S hl) ?_
  rintro u h2 ⟨rfl, X2⟩
  cases hs : smallB l with
  | false => simp only [go_sem, ↓reduceIte]
  | true =>
    have h600 : s10 l ≤ 600 := of_decide_eq_true hs
    have hok := s10_ok h600
    have hlen := s10_len l
    have henc := s10_enc l
    by_cases a1 : most < 0
    · simp only [go_sem, ↓reduceIte, a1]
    · by_cases a2 : 65536 < most
      · simp only [go_sem, ↓reduceIte, a1, a2]
      · by_cases a3 : 200 < ahead.length
        · have c3 : (200 : Int) < (ahead.length : Int) := by omega
          simp only [go_sem, ↓reduceIte, a1, a2, eA, c3]
        · have c3 : ¬ (200 : Int) < (ahead.length : Int) := by omega
          obtain ⟨m, rfl⟩ : ∃ m : Nat, most = m := ⟨most.toNat, by omega⟩
          have hm : m ≤ 65536 := by omega
          simp only [go_sem, ↓reduceIte, a1, a2, eA, c3]
          refine MCall.by (wNew (most := m) (bound := 16384) hm (by omega)) ?_
          rintro u h3 ⟨d, F, rfl, D, X3, hF⟩
          have hF2 : ∀ c, F c → h.size ≤ c := fun c hc => Nat.le_trans X2.size (hF c hc)
          have X23 := X2.trans X3
          simp only [go_sem, ↓reduceIte]
          refine MCall.by (wDecode D (A.blks X23 hF2) (by omega) (by omega)) ?_
          rintro u h4 ⟨F4, D4, hF4, K4, O4⟩
          have X4 : Ext h h4 := Ext.of_keep X23 K4 hF2
          have hF4' : ∀ c, F4 c → h.size ≤ c := fun c hc => (hF4 c hc).elim (hF2 c) fun q => Nat.le_trans X23.size q
          generalize (M.decode m 16384 ⟨⟨[], m⟩, false⟩ ahead).1 = s4 at *
          simp only [go_sem, ↓reduceIte]
          refine MCall.by (wDead D4) ?_
          rintro u h5 ⟨rfl, rfl⟩
          obtain ⟨st, dead⟩ := s4
          cases dead with
          | true => simp only [go_sem, ↓reduceIte]
          | false =>
            have hsz : tsz st.L ≤ st.limit ∧ st.limit ≤ m ∧ m ≤ 65536 := D4.sz
            have hlt := len_tsz st.L
            simp only [go_sem, ↓reduceIte]
            refine MCall.by (wTable D4) ?_
            rintro u h6 ⟨t6, lv6, rfl, T6, X6⟩
            simp only [go_sem, ↓reduceIte]
            refine MCall.by (sLen T6 (by simp; omega)) ?_
            rintro u h7 ⟨rfl, rfl⟩
            simp only [go_sem, ↓reduceIte]
            refine MCall.by (wTable (D4.ext X6)) ?_
            rintro u h8 ⟨t8, lv8, rfl, T8, X8⟩
            simp only [go_sem, ↓reduceIte]
            refine MCall.by (sSizeT T8) ?_
            rintro u h9 ⟨rfl, rfl⟩
            have D9 := (D4.ext X6).ext X8
            have X9 := (X4.trans X6).trans X8
            simp only [go_sem, ↓reduceIte]
            refine MCall.by (sEncode (S.ext X9) (by omega) (by omega)) ?_
            rintro u h10 ⟨X10, ⟨_, wb, rfl, Ob⟩ | ⟨⟨x, hx, hnx⟩, _⟩⟩
            rotate_left
            · exact absurd (hok x hx) hnx
            have D10 := D9.ext X10
            simp only [go_sem, ↓reduceIte]
            refine MCall.by (wDecode D10 (Ob.blks fun c hc => D9.lt hc) (by omega) (by omega)) ?_
            rintro u h11 ⟨F11, D11, hF11, K11, O11⟩
            rw [decode_lines h600] at D11 O11
            obtain ⟨ov, e, ls, rfl, S11, _, hres⟩ := O11
            have X11 : Ext h h11 := Ext.of_keep (X9.trans X10) K11 hF4'
            rcases hres with ⟨rfl, hok2⟩ | ⟨_, _, hbad⟩
            rotate_left
            · cases hbad
            simp only [Except.ok.injEq] at hok2
            subst hok2
            have e1 := fun h => ls_len (q := EC.q) (h := h) S11
            have n0 : ((((0 : Nat)) : Int) != 0) = false := rfl
            have n1 : ((l.length : Int) != (l.length : Int)) = false := by simp
            have n2 : ((st.L.length : Int) != (st.L.length : Int)) = false := by simp
            have n3 : ((tsz st.L : Int) != (tsz st.L : Int)) = false := by simp
            have n00 : (((0 : Int)) != 0) = false := rfl
            simp only [go_sem, ↓reduceIte, n0, n00, el, e1, n1]
            refine MCall.by (wTable D11) ?_
            rintro u h12 ⟨t12, lv12, rfl, T12, X12⟩
            simp only [go_sem, ↓reduceIte]
            refine MCall.by (sLen T12 (by simp; omega)) ?_
            rintro u h13 ⟨rfl, rfl⟩
            simp only [go_sem, ↓reduceIte, n2]
            refine MCall.by (wTable (D11.ext X12)) ?_
            rintro u h14 ⟨t14, lv14, rfl, T14, X14⟩
            simp only [go_sem, ↓reduceIte]
            refine MCall.by (sSizeT T14) ?_
            rintro u h15 ⟨rfl, rfl⟩
            have Xe := X12.trans X14
            have Sa := (S11.keep (S := fun _ => False) (Keep.of_ext Xe) fun _ _ _ _ h => h).zero
            have Sb := S.ext (X11.trans Xe)
            have hbf : ∀ c, blkOf wb = some c → ¬ F4 c := fun c hc q => by have := (Ob.ge hc).1; have := D9.lt q; omega
            have Ob2 : OutAt h15 h9.size wb (blockEnc l) := by
              refine OutAt.ext ?_ Xe
              rcases Ob with h1 | ⟨c, rfl, q1, q2, q3⟩
              · exact .inl h1
              · exact .inr ⟨c, rfl, q1, Nat.lt_of_lt_of_le q2 K11.size, by rw [K11.get c q2 (hbf c rfl)]; exact q3⟩
            simp only [go_sem, ↓reduceIte, n3, e1]
            refine MC.cutb (fun fr hh => ∃ hd tl, (hd = [] ∨ hd = [(0, v)]) ∧ fr = hd ++ (11, wb) :: tl ∧ hh = h15) ?_ ?_
            · refine MC.loop (fun k fr hh => ∃ i, k = l.length - i ∧ i ≤ l.length ∧ fr = [(0, v), (11, wb), (13, ov), (95, .int .i64 (l.length : Int)), (96, .int .i64 (i : Int))] ∧ hh = h15) l.length ⟨0, rfl, Nat.zero_le _, rfl, rfl⟩ ?_
              rintro k fr hh J ⟨i, rfl, hi, rfl, rfl⟩ hJ
              by_cases hlt : i < l.length
              · obtain ⟨b1, x, t1, r1, rfl, p1, p2, p3, p4⟩ := Sa.at hlt
                obtain ⟨b2, y, t2, r2, rfl, q1, q2, q3, q4⟩ := Sb.at hlt
                rw [p3] at q3
                cases q3
                have d0 : (0 : Int) ≤ (i : Int) := by omega
                have d1 : (i : Int) < (l.length : Int) := by omega
                have hle : i * 3 + 3 ≤ (lcells l).length := by rw [lcells_len]; omega
                have w3 : IntKind.i64.wrap ((i : Int) + 1) = ((i + 1 : Nat) : Int) := by rw [IntWalk.i64_in _ (by omega)]; omega
                simp only [go_sem, ↓reduceIte, d0, d1]
                refine MC.dregion ?_
                simp only [go_sem, ↓reduceIte, d0, d1, p2, p4, q2, hle, w3, q_line]
                exact hJ (l.length - (i + 1)) _ _ (by omega) ⟨i + 1, rfl, by omega, rfl, rfl⟩
              · have d1 : ¬ (i : Int) < (l.length : Int) := by omega
                simp only [go_sem, ↓reduceIte, d1]
                exact ⟨[(0, _)], _, .inr rfl, rfl⟩
            · rintro fr hh ⟨hd, tl, hhd, rfl, rfl⟩
              rcases hhd with rfl | rfl
              all_goals
                simp only [go_sem, ↓reduceIte, List.nil_append, List.cons_append]
                refine MCall.by (sPlain Ob2.bytes (by omega)) ?_
                rintro u h16 ⟨rfl, X16⟩
                rw [plain_block hok]
                simp only [go_sem, ↓reduceIte]

theorem lawReads (h : LHeap) (lvs : List Value) (hl : LArgs Try.prog h 6 [40, 3, 32] lvs) : LCalls EC 13 lvs h fun v _ => v = .bool true := by
  obtain ⟨v0, r0, rfl, h0, hr0⟩ := LArgs_cons hl
  obtain ⟨v1, r1, rfl, h1, hr1⟩ := LArgs_cons hr0
  obtain ⟨v2, r2, rfl, h2, hr2⟩ := LArgs_cons hr1
  obtain rfl := LArgs_nil hr2
  obtain ⟨l, S, hr⟩ := larg_lines h0
  obtain ⟨i, rfl, _⟩ := larg_int h1
  obtain ⟨a, A, _⟩ := larg_bytes h2
  exact sReads S hr A
end Go.E1
