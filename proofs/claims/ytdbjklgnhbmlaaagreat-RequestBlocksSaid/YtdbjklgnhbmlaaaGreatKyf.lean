/-
  Texts joined: RqG, RqH.
-/
import Derived.Test.YtdbjklgnhbmlaaaGreatKz
import Derived.Test.YtdbjklgnhbmlaaaGreatKye
import Derived.Test.YtdbjklgnhbmlaaaGreatKyb
/-
  Layer 22: a request's block.
-/
namespace Go.M
open Go.E1
theorem dec_big {most bound : Nat} {s : St} : ∀ (l out : List Ln) (size : Nat), (∀ x ∈ l, x.f.1.size ≤ 4096 ∧ x.f.2.size ≤ 4096) → size ≤ bound → bound < size + lsz l → ∃ s', decAll most bound s (blockEnc l) out size = (s', .error 22)
  | [], out, size, _, h1, h2 => by simp [lsz] at h2; omega
  | x :: l, out, size, h, h1, h2 => by
    have e : blockEnc (x :: l) = lineEnc x ++ blockEnc l := by simp [blockEnc]
    obtain ⟨c, r, hc, hcc, hf⟩ := form_line (most := most) (s := s) out.isEmpty (h x (List.mem_cons_self ..)) (blockEnc l)
    have e2 : lineEnc x ++ blockEnc l = c :: (r ++ blockEnc l) := by rw [hc]; rfl
    have e3 : lsz (x :: l) = fsz x.f + lsz l := by simp [lsz]
    rw [e, e2, decAll_cons]
    rw [e2] at hf
    rw [hf]
    simp only
    by_cases hb : bound < size + fsz x.f
    · rw [if_pos hb]; exact ⟨_, rfl⟩
    · rw [if_neg hb]
      exact dec_big l (out ++ [x]) (size + fsz x.f) (fun y hy => h y (List.mem_cons_of_mem _ hy)) (by omega) (by omega)
theorem decode_blk {l : List Ln} (h : ∀ x ∈ l, x.f.1.size ≤ 4096 ∧ x.f.2.size ≤ 4096) : (M.decode 0 16384 ⟨⟨[], 0⟩, false⟩ (blockEnc l)).2 = if lsz l ≤ 16384 then .ok l else .error 22 := by
  rw [decode_eq]
  simp only [Bool.false_eq_true, ↓reduceIte]
  by_cases hl : lsz l ≤ 16384
  · rw [dec_lines l [] 0 h (by omega), if_pos hl]; rfl
  · obtain ⟨s', hs⟩ := dec_big (most := 0) (bound := 16384) (s := ⟨[], 0⟩) l [] 0 h (by omega) (by omega)
    rw [hs, if_neg hl]
theorem plain_blk {l : List Ln} (h : ∀ x ∈ l, x.f.1.size ≤ 4096 ∧ x.f.2.size ≤ 4096) : plainB (blockEnc l) = true := by
  have := plain_lines [] l h
  rw [List.append_nil] at this
  rw [this]; rfl
def l2z (l : List Ln) : Nat := (l.map fun x => x.f.1.size + x.f.2.size).sum
theorem enc_l2z : ∀ l : List Ln, (blockEnc l).length ≤ 4 * l2z l + 40 * l.length
  | [] => by simp [blockEnc]
  | y :: l => by
    have e : l2z (y :: l) = (y.f.1.size + y.f.2.size) + l2z l := by simp [l2z]
    have h1 := lineEnc_len y
    have h2 := enc_l2z l
    have e2 : blockEnc (y :: l) = lineEnc y ++ blockEnc l := by simp [blockEnc]
    rw [e2, List.length_append, List.length_cons]; omega
theorem l2z_append (a b : List Ln) : l2z (a ++ b) = l2z a + l2z b := by simp [l2z]
theorem lsz_l2z : ∀ l : List Ln, lsz l = l2z l + 32 * l.length
  | [] => rfl
  | y :: l => by
    have := lsz_l2z l
    have e : l2z (y :: l) = (y.f.1.size + y.f.2.size) + l2z l := by simp [l2z]
    have e3 : lsz (y :: l) = fsz y.f + lsz l := by simp [lsz]
    rw [e, e3, List.length_cons]
    unfold fsz
    omega
theorem l2z_lines : ∀ L : List Fld, l2z (linesF L) ≤ Go.E1.s5 L
  | [] => by simp [linesF, l2z]
  | f :: L => by
    have := l2z_lines L
    rw [Go.E1.s5_cons]
    have e : linesF (f :: L) = (lnOf f).toList ++ linesF L := by
      simp only [linesF, List.filterMap_cons]
      cases lnOf f <;> rfl
    rw [e, l2z_append]
    unfold lnOf
    split
    · simp [l2z]; simp [l2z] at this; omega
    · simp [l2z]; simp [l2z] at this; omega
theorem l2z_heads {m s p a : ByteArray} : l2z (headsL m s p a) ≤ 29 + m.size + s.size + p.size + a.size := by
  unfold headsL
  rw [l2z_append]
  have e : l2z [⟨(⟨#[58, 109, 101, 116, 104, 111, 100]⟩, m), false⟩, ⟨(⟨#[58, 115, 99, 104, 101, 109, 101]⟩, s), false⟩, ⟨(⟨#[58, 112, 97, 116, 104]⟩, p), false⟩] = (7 + m.size) + ((7 + s.size) + ((5 + p.size) + 0)) := rfl
  rw [e]
  split
  · simp [l2z]; omega
  · have e2 : l2z [⟨(⟨#[58, 97, 117, 116, 104, 111, 114, 105, 116, 121]⟩, a), false⟩] = (10 + a.size) + 0 := rfl
    rw [e2]; omega
theorem wrong_sz {a b : ByteArray} (h : wrongN a b = 0) : a.size ≤ 4096 ∧ b.size ≤ 4096 := by
  unfold wrongN at h
  cases hn : nameB a with
  | false => rw [hn] at h; simp at h
  | true =>
    cases hv : valueB b with
    | false => rw [hn, hv] at h; simp at h
    | true =>
      unfold nameB at hn
      unfold valueB at hv
      simp only [Bool.and_eq_true, decide_eq_true_eq] at hn hv
      exact ⟨hn.2.2, hv.1⟩
theorem req_ok {m s p a : ByteArray} {L : List Fld} (hr : rightB m s p a = true) (hE : errF L = 0) : ∀ x ∈ headsL m s p a ++ linesF L, x.f.1.size ≤ 4096 ∧ x.f.2.size ≤ 4096 := by
  intro x hx
  unfold rightB at hr
  simp only [Bool.and_eq_true] at hr
  obtain ⟨⟨⟨⟨⟨h1, h2⟩, h3⟩, h4⟩, h5⟩, h6⟩ := hr
  unfold allB at h2 h5 h6
  simp only [Bool.and_eq_true, decide_eq_true_eq] at h2 h5 h6
  have hs : s.size ≤ 4096 := by
    have hl : s.data.toList.length = s.size := Array.length_toList
    unfold schemeB at h3
    simp only [Bool.or_eq_true, beq_iff_eq] at h3
    rcases h3 with h3 | h3 <;> (rw [h3] at hl; simp at hl; omega)
  rcases List.mem_append.1 hx with hx | hx
  · unfold headsL at hx
    simp only [List.mem_append, List.mem_cons, List.not_mem_nil, or_false] at hx
    rcases hx with (rfl | rfl | rfl) | hx
    · exact ⟨Nat.le_of_ble_eq_true rfl, h2.1⟩
    · exact ⟨Nat.le_of_ble_eq_true rfl, hs⟩
    · exact ⟨Nat.le_of_ble_eq_true rfl, h5.1⟩
    · split at hx
      · cases hx
      · rw [List.mem_singleton.1 hx]; exact ⟨Nat.le_of_ble_eq_true rfl, h6.1⟩
  · exact wrong_sz (linesF_mem hE hx).2.2.1
end Go.M
namespace Go.E1
open Go Go.Proofs Go.M
set_option linter.unusedSimpArgs false

theorem SL.ls0 {h : LHeap} {v : Value} {l : List Ln} (g : SL 3 lc h v l) : LS0 h v l := by
  rcases g with h1 | ⟨b, t, r, h1, h2, h3⟩
  · exact .inl h1
  · exact .inr ⟨b, _, t, r, h1, h2, h3, rfl⟩
theorem LS0.sl {h : LHeap} {v : Value} {l : List Ln} (g : LS0 h v l) : SL 3 lc h v l := by
  rcases g with h1 | ⟨b, cs, t, r, h1, h2, h3, rfl⟩
  · exact .inl h1
  · exact .inr ⟨b, t, r, h1, h2, h3⟩
theorem OutAt.blks {h : LHeap} {lo : Nat} {v : Value} {l : Bytes} (O : OutAt h lo v l) {S : Nat → Prop} (hS : ∀ b, b < h.size → lo ≤ b → ¬ S b) : Blks h v l S := by
  rcases O with ⟨rfl, rfl⟩ | ⟨b, rfl, h1, h2, h3⟩
  · exact ⟨.inl ⟨rfl, rfl⟩⟩
  · exact ⟨.inr ⟨b, 0, rfl, ⟨h2, _, _, _, h3, by rw [bv_len]; omega, by rw [List.drop_zero, ← bv_len, List.take_length]⟩, fun q => absurd q (hS b h2 h1)⟩⟩
theorem OutAt.len {q : EqF} {h hh : LHeap} {lo : Nat} {v : Value} {l : Bytes} (O : OutAt hh lo v l) : lexec q (.lenS v) h = some (.int .i64 l.length, h) := by
  rcases O with ⟨rfl, rfl⟩ | ⟨b, rfl, _⟩ <;> rfl

/-! ### sizes -/
theorem tsz_take_le (l : List Fld) (i : Nat) : tsz (l.take i) ≤ tsz l := by
  conv => rhs; rw [← List.take_append_drop i l]
  rw [tsz_append]; omega
theorem sStatSum {h : LHeap} {v : Value} {l : List Fld} (F : SL 2 fc h v l) (hs : ∀ f ∈ l, f.1.size ≤ 1000000 ∧ f.2.size ≤ 1000000) (hl : tsz l < 1000000000) (hn : l.length < 1000000) : LCalls EC 37 [v] h fun u h' => u = .int .i64 (tsz l : Nat) ∧ Ext h h' := by
  refine LCalls.enter (lf := lf37) rfl rfl (by simp [lf37]) ?_
  have eL := fun hh => F.len (q := EC.q) (h := hh)
  simp only [go_sem, lf37, ↓reduceIte, eL]
  refine MC.cutb (fun fr hh => ∃ tl, fr = (3, .int .i64 (tsz l : Nat)) :: tl ∧ Ext h hh) ?_ ?_
  · refine MC.loop (fun m fr hh => ∃ i tl, m = l.length - i ∧ fr = (3, .int .i64 (tsz (l.take i) : Nat)) :: (6, v) :: (7, .int .i64 l.length) :: (8, .int .i64 (i : Nat)) :: tl ∧ i ≤ l.length ∧ Ext h hh) l.length ⟨0, [], rfl, rfl, Nat.zero_le _, Ext.refl _⟩ ?_
    rintro m fr hh J ⟨i, tl, rfl, rfl, hi, X⟩ hJ
    by_cases hlt : i < l.length
    · have d1 : (i : Int) < (l.length : Int) := by omega
      have d0 : (0 : Int) ≤ (i : Int) := by omega
      obtain ⟨x, hx⟩ : ∃ x, l[i]? = some x := ⟨l[i], by simp [hlt]⟩
      obtain ⟨b, t, r, rfl, hb, hg⟩ := F.at hx
      obtain ⟨k1, k2⟩ := fc_cel.get hx
      simp only [fc] at k1
      have hg' : hh.get b = some (.cells (l.flatMap fc) t r) := by rw [X.get b hb, hg]
      have w1 : IntKind.i64.wrap ((i : Int) + 1) = ((i + 1 : Nat) : Int) := by rw [IntWalk.i64_in _ (by omega)]; omega
      have hX : ∀ {c c'}, Ext hh ((hh.push c).set hh.size c') := (Ext.push _ _).set (Nat.le_refl _) _
      have htk : tsz (l.take (i + 1)) = tsz (l.take i) + (x.1.size + x.2.size + 32) := by rw [List.take_add_one, hx, tsz_append]; simp [tsz, fsz]
      have hle := tsz_take_le l (i + 1)
      obtain ⟨z1, z2⟩ := hs x (List.mem_of_getElem? hx)
      have hsw : szW x.1 x.2 = ((x.1.size + x.2.size + 32 : Nat) : Int) := szW_fsz (f := x) (by unfold fsz; omega)
      have w2 : IntKind.i64.wrap (((tsz (l.take i) : Nat) : Int) + szW x.1 x.2) = ((tsz (l.take (i + 1)) : Nat) : Int) := by rw [hsw, IntWalk.i64_in _ (by omega), htk]; omega
      simp only [go_sem, ↓reduceIte, d1, d0, Int.toNat_natCast, hg', k1, k2, w1, w2]
      exact hJ _ _ _ (by omega) ⟨i + 1, _, rfl, rfl, by omega, X.trans hX⟩
    · have d1 : ¬ (i : Int) < (l.length : Int) := by omega
      obtain rfl : i = l.length := by omega
      simp only [go_sem, ↓reduceIte, d1, List.take_length]
      exact ⟨_, rfl, X⟩
  · rintro fr hh ⟨tl, rfl, X⟩
    simp only [go_sem, ↓reduceIte]
    exact X

/-! ### Block -/
def BlkQ (E : Nat) (most : Int) (bl : Bytes) (lo : Nat) (u : Value) (h' : LHeap) : Prop :=
  (E ≠ 0 ∧ u = .tuple #[.slice none 0 0, .int .i64 (E : Nat)]) ∨
  (E = 0 ∧ most < (bl.length : Int) ∧ u = .tuple #[.slice none 0 0, .int .i64 22]) ∨
  (E = 0 ∧ (bl.length : Int) ≤ most ∧ ∃ w, u = .tuple #[w, .int .i64 0] ∧ OutAt h' lo w bl)
theorem sBlock (m s p a : ByteArray) {fv bv : Value} {l : List Fld} {h : LHeap} (most : Int) (F : SL 2 fc h fv l) (hm : m.size < 5000) (hs : s.size < 5000) (hp : p.size < 5000) (ha : a.size < 5000) (h5 : s5 l ≤ 1000) :
    LCalls EC 32 [reqV m s p a fv bv, .int .i64 most] h fun u h' => Ext h h' ∧ BlkQ (reqErr m s p a l) most (blockEnc (headsL m s p a ++ linesF l)) h.size u h' := by
  refine LCalls.enter (lf := lf32) rfl rfl (by simp [lf32]) ?_
  have hlen := s5_len l
  have hfs : ∀ f ∈ l, f.1.size < 4611686018427387904 := fun f hf => by have := s5_mem hf; omega
  simp only [reqV, go_sem, lf32, ↓reduceIte]
  refine MCall.by (sLines m s p a bv (F.ext (Ext.push _ _)) (by omega) hfs) ?_
  rintro u h2 ⟨ov, rfl, ho, X2⟩
  have X12 : Ext h h2 := (Ext.push _ _).trans X2
  by_cases he : reqErr m s p a l = 0
  · rw [if_pos he] at ho
    obtain ⟨G, hfr⟩ := ho
    have hr : rightB m s p a = true := by
      unfold reqErr at he
      split at he
      · assumption
      · cases he
    have hE : errF l = 0 := by
      unfold reqErr at he
      rw [if_pos hr] at he
      exact he
    have hL : (headsL m s p a ++ linesF l).length ≤ 4 + l.length := by
      have := (headsL_len m s p a).1
      have := linesF_len l
      rw [List.length_append]; omega
    have hz : l2z (headsL m s p a ++ linesF l) ≤ 100000 := by
      rw [l2z_append]
      have := l2z_heads (m := m) (s := s) (p := p) (a := a)
      have := l2z_lines l
      omega
    have hok := req_ok hr hE
    have henc := enc_l2z (headsL m s p a ++ linesF l)
    generalize headsL m s p a ++ linesF l = L at *
    have q0 : (((0 : Nat) : Int) != 0) = false := rfl
    have q00 : ((0 : Int) != 0) = false := rfl
    simp only [go_sem, ↓reduceIte, he, q0]
    refine MCall.by (sEncode G.sl.ls0 (by omega) (by omega)) ?_
    rintro u h3 ⟨X3, ⟨_, w, rfl, O⟩ | ⟨⟨x, hx, hnx⟩, _⟩⟩
    rotate_left
    · exact absurd (hok x hx) hnx
    have eO := fun hh => O.len (q := EC.q) (h := hh)
    by_cases hb : most < ((blockEnc L).length : Int)
    · have hb' : ((blockEnc L).length : Int) > most := hb
      simp only [go_sem, ↓reduceIte, q00, eO, hb, hb']
      exact ⟨X12.trans X3, .inr (.inl ⟨rfl, hb, rfl⟩)⟩
    · have hb' : ¬ ((blockEnc L).length : Int) > most := hb
      simp only [go_sem, ↓reduceIte, q00, eO, hb, hb']
      exact ⟨X12.trans X3, .inr (.inr ⟨rfl, by omega, w, rfl, O.low X12.size⟩)⟩
  · rw [if_neg he] at ho
    subst ho
    have q1 : ((reqErr m s p a l : Int) != 0) = true := by simp; omega
    simp only [go_sem, ↓reduceIte, q1]
    exact ⟨X12, .inl ⟨he, rfl⟩⟩
end Go.E1

/-
  RequestBlocks: the walk.
-/
namespace Go.M
open Go.E1
theorem tsz_fldsL (L : List Ln) : tsz (fldsL L) = lsz L := by simp [tsz, lsz, fldsL, Function.comp_def]
end Go.M
namespace Go.E1
open Go Go.Proofs Go.M
set_option linter.unusedSimpArgs false

theorem OutAt.blks2 {h5 h7 : LHeap} {lo : Nat} {v : Value} {l : Bytes} {S : Nat → Prop} (O : OutAt h5 lo v l) (X : Ext h5 h7) (hS : ∀ c, S c → h5.size ≤ c) : Blks h7 v l S := by
  rcases O with ⟨rfl, rfl⟩ | ⟨b, rfl, h1, h2, h3⟩
  · exact ⟨.inl ⟨rfl, rfl⟩⟩
  · exact ⟨.inr ⟨b, 0, rfl, ⟨Nat.lt_of_lt_of_le h2 X.size, _, _, _, (X.get b h2).trans h3, by rw [bv_len]; omega, by rw [List.drop_zero, ← bv_len, List.take_length]⟩, fun q => absurd (hS b q) (Nat.not_le.2 h2)⟩⟩

theorem sReqBlocks (m s p a : ByteArray) {fv bv : Value} {l : List Fld} {k : Nat} {h : LHeap} (most : Int) (F : SL 2 fc h fv l) (hl : RchF l) (hb : ∀ q h', lexec q (.lenS bv) h' = some (.int .i64 (k : Nat), h')) :
    LCalls EC 8 [reqV m s p a fv bv, .int .i64 most] h fun u _ => u = .bool true := by
  refine LCalls.enter (lf := lf8) rfl rfl (by simp [lf8]) ?_
  simp only [reqV, go_sem, lf8, ↓reduceIte]
  generalize hq : h.push (LObj.cells [Value.string m, Value.string s, Value.string p, Value.string a, fv, bv] true true) = h1
  have X1 : Ext h h1 := by rw [← hq]; exact Ext.push _ _
  have g1 : h1.get h.size = some (.cells [.string m, .string s, .string p, .string a, fv, bv] true true) := by rw [← hq]; simp
  have s1 : h1.size = h.size + 1 := by rw [← hq]; simp
  clear hq
  refine MCall.by (sWords m s p a (F.ext X1) hl hb) ?_
  rintro u h2 ⟨rfl, X2⟩
  have g2 := (X2.get h.size (by omega)).trans g1
  have s2 := X2.size
  have X12 := X1.trans X2
  cases hw : wordsB m s p a l k with
  | false => simp only [go_sem, ↓reduceIte]
  | true =>
    obtain ⟨hm, hs, hp, ha, h5, hk⟩ := words_in hw
    have hlen := s5_len l
    have hfs : ∀ f ∈ l, f.1.size < 4611686018427387904 := fun f hf => by have := s5_mem hf; omega
    simp only [go_sem, ↓reduceIte, g2]
    refine MCall.by (sBlock m s p a most (F.ext X12) hm hs hp ha h5) ?_
    rintro u h3 ⟨X3, B⟩
    have g3 := (X3.get h.size (by omega)).trans g2
    have s3 := X3.size
    have X13 := X12.trans X3
    rcases B with ⟨he, rfl⟩ | ⟨he, hbig, rfl⟩ | ⟨he, hfit, w, rfl, O⟩
    · simp only [go_sem, ↓reduceIte, g3]
      refine MCall.by (sLines m s p a bv (F.ext X13) (by omega) hfs) ?_
      rintro u h4 ⟨ov, rfl, ho, X4⟩
      have q1 : ((reqErr m s p a l : Int) != 0) = true := by simp; omega
      have q2 : ((reqErr m s p a l : Int) == (reqErr m s p a l : Int)) = true := by simp
      simp only [go_sem, ↓reduceIte, q1, q2]
      try rfl
    all_goals
      simp only [go_sem, ↓reduceIte, g3]
      refine MCall.by (sLines m s p a bv (F.ext X13) (by omega) hfs) ?_
      rintro u h4 ⟨ov, rfl, ho, X4⟩
      rw [if_pos he] at ho
      obtain ⟨G, hfr⟩ := ho
      have hr : rightB m s p a = true := by
        unfold reqErr at he
        split at he
        · assumption
        · cases he
      have hE : errF l = 0 := by
        unfold reqErr at he
        rw [if_pos hr] at he
        exact he
      have hL : (headsL m s p a ++ linesF l).length ≤ 4 + l.length := by
        have := (headsL_len m s p a).1
        have := linesF_len l
        rw [List.length_append]; omega
      have hz : l2z (headsL m s p a ++ linesF l) ≤ 21100 := by
        rw [l2z_append]
        have := l2z_heads (m := m) (s := s) (p := p) (a := a)
        have := l2z_lines l
        omega
      have hok := req_ok hr hE
      have henc := enc_l2z (headsL m s p a ++ linesF l)
      have hlz := lsz_l2z (headsL m s p a ++ linesF l)
      generalize headsL m s p a ++ linesF l = L at *
      have q0 : (((0 : Nat) : Int) != 0) = false := rfl
      have q00 : ((0 : Int) != 0) = false := rfl
      have s4 := X4.size
      have X14 := X13.trans X4
      simp only [go_sem, ↓reduceIte, he, q0]
      refine MCall.by (sEncode G.sl.ls0 (by omega) (by omega)) ?_
      rintro u h5' ⟨X5, ⟨_, w2, rfl, O2⟩ | ⟨⟨x, hx, hnx⟩, _⟩⟩
      rotate_left
      · exact absurd (hok x hx) hnx
      have eO := fun hh => O2.len (q := EC.q) (h := hh)
    · have hb1 : ((blockEnc L).length : Int) > most := hbig
      have hb2 : most < ((blockEnc L).length : Int) := hbig
      have q3 : ((22 : Int) == 22) = true := rfl
      simp only [go_sem, ↓reduceIte, q00, eO, hb1, hb2, q3]
      try rfl
    · have hb1 : ¬ ((blockEnc L).length : Int) > most := by omega
      have hb2 : ¬ most < ((blockEnc L).length : Int) := by omega
      have hdec := decode_blk hok
      have hpl := plain_blk hok
      have O1 := (O.ext X4).ext X5
      generalize blockEnc L = bl at *
      have X15 := X14.trans X5
      simp only [go_sem, ↓reduceIte, q00, eO, hb1, hb2]
      refine MCall.by (wNew (most := 0) (bound := 16384) (by omega) (by omega)) ?_
      rintro u h6 ⟨d, Fd, rfl, D, X6, hF⟩
      have n1 : (!(bl == bl)) = false := by simp
      have o1 := out_str (q := EC.q) (O1.ext X6)
      have o2 := out_str (q := EC.q) (O2.ext X6)
      simp only [go_sem, ↓reduceIte, q00, o1, o2, n1]
      refine MCall.by (sPlain (O1.ext X6).bytes (by omega)) ?_
      rintro u h7 ⟨rfl, X7⟩
      simp only [go_sem, ↓reduceIte, hpl]
      refine MCall.by (wDecode (D.ext X7) (O1.blks2 (X6.trans X7) hF) (by omega) (by omega)) ?_
      rintro u h8 ⟨F8, D8, hF8, K8, O8⟩
      have X8 : Ext h5' h8 := Ext.of_keep (X6.trans X7) K8 hF
      rw [hdec] at O8
      obtain ⟨ov8, e8, ls, rfl, S8, _, hres⟩ := O8
      have G8 := G.ext (X5.trans X8)
      rcases hres with ⟨rfl, hok8⟩ | ⟨hne, rfl, hbad⟩
      · split at hok8
        · simp only [Except.ok.injEq] at hok8
          subst hok8
          have q3 : (((0 : Nat) : Int) == 22) = false := rfl
          have q4 : (((0 : Nat) : Int) == 0) = true := rfl
          simp only [go_sem, ↓reduceIte, q3, q4]
          refine MCall.by (sLinesSame S8.zero.sl G8.sl (by omega)) ?_
          rintro u h9 ⟨rfl, X9⟩
          simp only [go_sem, ↓reduceIte]
        · cases hok8
      · split at hbad
        · cases hbad
        · rename_i hgt
          simp only [Except.error.injEq] at hbad
          subst hbad
          have q3 : (((22 : Nat) : Int) == 22) = true := rfl
          have hrb : 4000000 ≤ reachBytes := by decide
          simp only [go_sem, ↓reduceIte, q3]
          refine MCall.by (sDecFields (G8.sl.sa lc_cel) (by omega)) ?_
          rintro u h9 ⟨G9, _, X9⟩
          simp only [go_sem, ↓reduceIte]
          refine MCall.by (sStatSum G9.sl (fun f hf => by
            obtain ⟨x, hx, rfl⟩ := List.mem_map.1 hf
            have := hok x hx; omega) (by rw [tsz_fldsL]; omega) (by rw [fldsL_len]; omega)) ?_
          rintro u h10 ⟨rfl, X10⟩
          have d1 : ((tsz (fldsL L) : Nat) : Int) > 16384 := by rw [tsz_fldsL]; omega
          have d2 : (16384 : Int) < ((tsz (fldsL L) : Nat) : Int) := d1
          simp only [go_sem, ↓reduceIte, d1, d2]

theorem larg_i64 {h : LHeap} {n : Nat} {lv : Value} (hl : LArg Tryz.prog h n 3 lv) : ∃ i, lv = .int .i64 i := by
  rcases hl with ⟨g1, _⟩ | ⟨_, hl⟩
  · simp [isAggP, Tryz.underlying3] at g1
  · obtain ⟨i, h1, h2⟩ := LRd_int Tryz.underlying3 hl
    exact ⟨i, by simpa using h1⟩
theorem lawBlocks (h : LHeap) (lvs : List Value) (hl : LArgs Tryz.prog h 6 [25, 3] lvs) : LCalls EC 8 lvs h fun v _ => v = .bool true := by
  obtain ⟨v0, r0, rfl, h0, hr0⟩ := LArgs_cons hl
  obtain ⟨v1, r1, rfl, h1, hr1⟩ := LArgs_cons hr0
  obtain rfl := LArgs_nil hr1
  obtain ⟨m, s, p, a, fv, bv, l, k, rfl, F, R, B, _⟩ := larg_req h0
  obtain ⟨i, rfl⟩ := larg_i64 h1
  exact sReqBlocks m s p a i F R B
end Go.E1
