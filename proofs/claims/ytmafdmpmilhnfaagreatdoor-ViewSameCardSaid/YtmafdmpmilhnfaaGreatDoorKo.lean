/-
  Texts joined: VwL, VwM, VwB, VwC.
-/
import Derived.Test.YtmafdmpmilhnfaaGreatDoorKn
/-
 Layer 26: what was sent, as a law's argument.
-/
namespace Go.E1
open Go Go.Proofs Go.M
set_option linter.unusedSimpArgs false

def BlkV (h : LHeap) (b o : Nat) (l : Bytes) : Prop := b < h.size ∧ ∃ cs t r, h.get b = some (.cells cs t r) ∧ o + l.length ≤ cs.length ∧ (cs.drop o).take l.length = bv l
theorem BlkV.same {h h' : LHeap} {b o : Nat} {l : Bytes} (B : BlkV h b o l) (hs : h.size ≤ h'.size) (hg : h'.get b = h.get b) : BlkV h' b o l := by
 obtain ⟨h1, cs, t, r, h2, h3, h4⟩ := B
 exact ⟨Nat.lt_of_lt_of_le h1 hs, cs, t, r, by rw [hg]; exact h2, h3, h4⟩
theorem BlkV.lt {h : LHeap} {b o : Nat} {l : Bytes} (B : BlkV h b o l) : b < h.size := B.1
/-- Bytes that came in: they stay. -/
def BA (h : LHeap) (v : Value) (l : Bytes) : Prop := (l = [] ∧ v = .slice none 0 0) ∨ ∃ b o, v = .slice (some ⟨b, o, none⟩) l.length 1 ∧ BlkV h b o l
def BL (h : LHeap) (v : Value) (ls : List Bytes) : Prop := (ls = [] ∧ v = .slice none 0 0) ∨ ∃ b vs t r, v = .slice (some ⟨b, 0, none⟩) ls.length 1 ∧ b < h.size ∧ h.get b = some (.cells vs t r) ∧ vs.length = ls.length ∧ ∀ (i : Nat) (u : Value) (l : Bytes), vs[i]? = some u → ls[i]? = some l → BA h u l

theorem BA.ext {h h' : LHeap} {v : Value} {l : Bytes} (a : BA h v l) (X : Ext h h') : BA h' v l := by
 rcases a with h1 | ⟨b, o, h1, B⟩
 ·exact .inl h1
 ·exact .inr ⟨b, o, h1, B.same X.size (X.get b B.lt)⟩
theorem BL.ext {h h' : LHeap} {v : Value} {ls : List Bytes} (a : BL h v ls) (X : Ext h h') : BL h' v ls := by
 rcases a with h1 | ⟨b, vs, t, r, h1, h2, h3, h4, h5⟩
 ·exact .inl h1
 ·exact .inr ⟨b, vs, t, r, h1, Nat.lt_of_lt_of_le h2 X.size, by rw [X.get b h2]; exact h3, h4, fun i u l a b => (h5 i u l a b).ext X⟩
theorem BA.len {q : EqF} {h hh : LHeap} {v : Value} {l : Bytes} (a : BA hh v l) : lexec q (.lenS v) h = some (.int .i64 l.length, h) := by
 rcases a with ⟨rfl, rfl⟩ | ⟨b, o, rfl, _⟩ <;> rfl
theorem BL.len {q : EqF} {h hh : LHeap} {v : Value} {l : List Bytes} (a : BL hh v l) : lexec q (.lenS v) h = some (.int .i64 l.length, h) := by
 rcases a with ⟨rfl, rfl⟩ | ⟨b, _, _, _, rfl, _⟩ <;> rfl
/-- Seen later, in a heap in which some other blocks turned. -/
theorem cells_u8 : Tryz.prog.cellsOf 5 = 1 := by kernel_rfl
theorem LRd_bytes {h : LHeap} {n : Nat} {cs : List Value} (hl : LRd Tryz.prog h n 27 cs) : ∃ v l, cs = [v] ∧ BA h v l ∧ l.length ≤ reachBytes := by
 rcases LRd_slice Tryz.underlying27 hl with rfl | ⟨b, len, css, m, rfl, rfl, h1, h2, h3, h4, h5⟩
 ·exact ⟨_, [], rfl, .inl ⟨rfl, rfl⟩, by simp⟩
 ·rw [cells_u8] at h5 ⊢
  have key : ∀ (css : List (List Value)), (∀ c ∈ css, c.length = 1 ∧ LRd Tryz.prog h m 5 c) → ∃ l : Bytes, css.flatten = bv l ∧ l.length = css.length := by
   intro css
   induction css with
   | nil => intro _; exact ⟨[], rfl, rfl⟩
   | cons c css ih =>
    intro hc
    obtain ⟨l, h6, h7⟩ := ih fun x hx => hc x (List.mem_cons_of_mem _ hx)
    obtain ⟨i, rfl, hw⟩ := LRd_int Tryz.underlying5 (hc c (List.mem_cons_self ..)).2
    have hr : 0 ≤ i ∧ i ≤ 255 := by simpa [Lit.wf, IntKind.min, IntKind.max, IntKind.signed, IntKind.bits] using hw
    refine ⟨UInt8.ofNat i.toNat :: l, ?_, by simp [h7]⟩
    simp only [List.flatten_cons, h6, bv, List.map_cons, List.singleton_append, UInt8.toNat_ofNat']
    rw [show ((i.toNat % 2 ^ 8 : Nat) : Int) = i by omega]
  obtain ⟨l, h6, h7⟩ := key css h5
  refine ⟨_, l, rfl, .inr ⟨b, 0, by rw [h7, h3], ⟨h1, _, _, _, h2, ?_, ?_⟩⟩, by omega⟩
  ·rw [h6, bv_len]; omega
  ·rw [h6, List.drop_zero, ← bv_len l, List.take_length]



theorem BA.bytes {h : LHeap} {v : Value} {l : Bytes} (a : BA h v l) : BytesAt h v l := by
 rcases a with ⟨h1, h2⟩ | ⟨b, o, h1, B⟩
 ·exact .inl ⟨h1, 0, h2⟩
 ·obtain ⟨h2, cs, t, r, h3, h4, h5⟩ := B
  exact .inr ⟨b, o, cs, t, r, h1, h2, h3, h4, h5⟩
/-- A list, wherever it stands. -/
def SL {α : Type} (k : Nat) (c : α → List Value) (h : LHeap) (v : Value) (l : List α) : Prop := (l = [] ∧ v = .slice none 0 0) ∨ ∃ b t r, v = .slice (some ⟨b, 0, none⟩) l.length k ∧ b < h.size ∧ h.get b = some (.cells (l.flatMap c) t r)
theorem GL.sl {α : Type} {k : Nat} {c : α → List Value} {h : LHeap} {v : Value} {l : List α} (g : GL k c h v l) : SL k c h v l := by
 rcases g with h1 | ⟨b, h1, h2, h3⟩
 ·exact .inl h1
 ·exact .inr ⟨b, true, true, h1, h2, h3⟩
theorem SL.len {α : Type} {k : Nat} {c : α → List Value} {q : EqF} {h hh : LHeap} {v : Value} {l : List α} (g : SL k c hh v l) : lexec q (.lenS v) h = some (.int .i64 l.length, h) := by
 rcases g with ⟨rfl, rfl⟩ | ⟨b, _, _, rfl, _⟩ <;> rfl
theorem SL.ext {α : Type} {k : Nat} {c : α → List Value} {h h' : LHeap} {v : Value} {l : List α} (g : SL k c h v l) (X : Ext h h') : SL k c h' v l := by
 rcases g with h1 | ⟨b, t, r, h1, h2, h3⟩
 ·exact .inl h1
 ·exact .inr ⟨b, t, r, h1, Nat.lt_of_lt_of_le h2 X.size, by rw [X.get b h2]; exact h3⟩
theorem SL.at {α : Type} {k : Nat} {c : α → List Value} {h : LHeap} {v : Value} {l : List α} (g : SL k c h v l) {i : Nat} {x : α} (hx : l[i]? = some x) : ∃ b t r, v = .slice (some ⟨b, 0, none⟩) l.length k ∧ b < h.size ∧ h.get b = some (.cells (l.flatMap c) t r) := by
 rcases g with ⟨rfl, _⟩ | h1
 ·simp at hx
 ·exact h1


theorem BytesAt.shapeV {h : LHeap} {v : Value} {l : Bytes} (a : BytesAt h v l) : ∃ a n e, v = .slice a n e := by
 rcases a with ⟨_, c, rfl⟩ | ⟨b, o, cs, t, r, rfl, _⟩ <;> exact ⟨_, _, _, rfl⟩
/-- What was sent in a tick: the tick, control, slot, what was done. -/
def slW (s : SlT) : Value := .slice s.1 s.2.1 s.2.2
structure OutR where
 tick : Int
 cv : SlT
 c : Bytes
 sv : SlT
 s : Bytes
 did : Int × Int × Int × Int × Int
def oc (x : OutR) : List Value := [.int .i64 x.tick, slW x.cv, slW x.sv, .int .i64 x.did.1, .int .i64 x.did.2.1, .int .i64 x.did.2.2.1, .int .i64 x.did.2.2.2.1, .int .i64 x.did.2.2.2.2]
def OutOk (h : LHeap) (x : OutR) : Prop := BA h (slW x.cv) x.c ∧ BA h (slW x.sv) x.s ∧ x.c.length ≤ reachBytes ∧ x.s.length ≤ reachBytes ∧ (Lit.int .i64 x.tick).wf = true
theorem oc_cel : Cel 8 oc := ⟨fun _ => rfl, fun _ => rfl, by omega⟩
theorem cells_out : Tryz.prog.cellsOf 33 = 8 := by kernel_rfl
theorem bytes_out : Tryz.prog.bytesOf 33 = 96 := by kernel_rfl
theorem LRd_did {h : LHeap} {n : Nat} {cs : List Value} (hl : LRd Tryz.prog h n 31 cs) : ∃ a b c d e : Int, cs = [.int .i64 a, .int .i64 b, .int .i64 c, .int .i64 d, .int .i64 e] := by
 obtain ⟨m, parts, _, h1, h2, h3⟩ := LRd_struct Tryz.underlying31 hl
 match parts, h2 with
 | [p, q, r, s, t], _ =>
  obtain ⟨a, rfl, _⟩ := LRd_int Tryz.underlying3 (h3 0 _ p rfl rfl).2
  obtain ⟨b, rfl, _⟩ := LRd_int Tryz.underlying3 (h3 1 _ q rfl rfl).2
  obtain ⟨c, rfl, _⟩ := LRd_int Tryz.underlying3 (h3 2 _ r rfl rfl).2
  obtain ⟨d, rfl, _⟩ := LRd_int Tryz.underlying3 (h3 3 _ s rfl rfl).2
  obtain ⟨e, rfl, _⟩ := LRd_int Tryz.underlying3 (h3 4 _ t rfl rfl).2
  exact ⟨a, b, c, d, e, h1⟩
theorem LRd_out {h : LHeap} {n : Nat} {cs : List Value} (hl : LRd Tryz.prog h n 33 cs) : ∃ x : OutR, cs = oc x ∧ OutOk h x := by
 obtain ⟨m, parts, _, h1, h2, h3⟩ := LRd_struct Tryz.underlying33 hl
 match parts, h2 with
 | [p, q, r, s], _ =>
  obtain ⟨a, rfl, ha⟩ := LRd_int Tryz.underlying3 (h3 0 _ p rfl rfl).2
  obtain ⟨v, l, rfl, hb, hle⟩ := LRd_bytes (h3 1 _ q rfl rfl).2
  obtain ⟨v2, l2, rfl, hb2, hle2⟩ := LRd_bytes (h3 2 _ r rfl rfl).2
  obtain ⟨d1, d2, d3, d4, d5, rfl⟩ := LRd_did (h3 3 _ s rfl rfl).2
  obtain ⟨x, y, z, rfl⟩ := (BA.bytes hb).shapeV
  obtain ⟨x2, y2, z2, rfl⟩ := (BA.bytes hb2).shapeV
  exact ⟨⟨a, (x, y, z), l, (x2, y2, z2), l2, (d1, d2, d3, d4, d5)⟩, h1, hb, hb2, hle, hle2, ha⟩
theorem LRd_outs {h : LHeap} {n : Nat} {cs : List Value} (hl : LRd Tryz.prog h n 22 cs) : ∃ v l, cs = [v] ∧ SL 8 oc h v l ∧ (∀ r ∈ l, OutOk h r) ∧ l.length * 96 ≤ reachBytes := by
 rcases LRd_slice' Tryz.underlying22 hl with h1 | ⟨b, len, css, m, rfl, h0, h1, h2, h3, h4, h5⟩
 ·exact ⟨_, [], h1, .inl ⟨rfl, rfl⟩, by simp, by simp⟩
 ·rw [cells_out] at h5 h0
  rw [bytes_out] at h4
  have key : ∀ (css : List (List Value)), (∀ c ∈ css, c.length = 8 ∧ LRd Tryz.prog h m 33 c) → ∃ l : List OutR, css.flatten = l.flatMap oc ∧ l.length = css.length ∧ ∀ r ∈ l, OutOk h r := by
   intro css
   induction css with
   | nil => intro _; exact ⟨[], rfl, rfl, by simp⟩
   | cons c css ih =>
    intro hc
    obtain ⟨l, h6, h7, h8⟩ := ih fun x hx => hc x (List.mem_cons_of_mem _ hx)
    obtain ⟨r, rfl, hr⟩ := LRd_out (hc c (List.mem_cons_self ..)).2
    refine ⟨r :: l, by simp [h6], by simp [h7], fun x hx => ?_⟩
    rcases List.mem_cons.1 hx with rfl | hx
    ·exact hr
    ·exact h8 x hx
  obtain ⟨l, h6, h7, h8⟩ := key css h5
  exact ⟨_, l, h0, .inr ⟨b, _, _, by rw [h7, h3], h1, by rw [← h6]; exact h2⟩, h8, by rw [h7, h3]; exact h4.2⟩
theorem larg_outs {h : LHeap} {n : Nat} {lv : Value} (hl : LArg Tryz.prog h n 22 lv) : ∃ l, SL 8 oc h lv l ∧ (∀ r ∈ l, OutOk h r) ∧ l.length * 96 ≤ reachBytes := by
 rcases hl with ⟨g1, _⟩ | ⟨_, hl⟩
 ·simp [isAggP, Tryz.underlying22] at g1
 ·obtain ⟨v, l, e, h1⟩ := LRd_outs hl
  simp only [List.cons.injEq, and_true] at e
  subst e
  exact ⟨l, h1⟩
end Go.E1

/-
 Layer 26: what was sent, plainly.
-/
namespace Go.M
open Go.E1
/-- All bytes of what was sent. -/
def outsB (l : List OutR) : Bytes := l.flatMap fun x => x.c ++ x.s
def sumO (l : List OutR) : Nat := (l.map fun x => 3 + x.c.length + x.s.length).sum
theorem outsB_append (a b : List OutR) : outsB (a ++ b) = outsB a ++ outsB b := by simp [outsB]
theorem outsB_one (x : OutR) : outsB [x] = x.c ++ x.s := by simp [outsB]
theorem sumO_append (a b : List OutR) : sumO (a ++ b) = sumO a + sumO b := by simp [sumO]
theorem sumO_one (x : OutR) : sumO [x] = 3 + x.c.length + x.s.length := by simp [sumO]
theorem take_snoc {α : Type} {l : List α} {i : Nat} {x : α} (hx : l[i]? = some x) : l.take (i + 1) = l.take i ++ [x] := by
 rw [List.take_add_one, hx]; rfl
theorem cut_at {α : Type} {l : List α} {i : Nat} {x : α} (hx : l[i]? = some x) : l = l.take i ++ ([x] ++ l.drop (i + 1)) := by
 have h : l.take (i + 1) ++ l.drop (i + 1) = l := List.take_append_drop _ _
 rw [take_snoc hx, List.append_assoc] at h
 exact h.symm
theorem outs_sum : ∀ l : List OutR, (outsB l).length + l.length * 3 = sumO l
 | [] => rfl
 | x :: l => by
  have := outs_sum l
  have e : x :: l = [x] ++ l := rfl
  rw [e, outsB_append, sumO_append, outsB_one, sumO_one, List.length_append, List.length_append, List.length_append, List.length_singleton]; omega
theorem outs_take (l : List OutR) (i : Nat) : (outsB (l.take i)).length ≤ (outsB l).length := by
 conv => rhs; rw [← List.take_append_drop i l, outsB_append, List.length_append]
 omega

/-- Where a tenant's slots are. -/
def plcAt (T t : Int) (p : Nat) (x : OutR) : List (Int × Nat × Nat) := if x.tick.tmod T = t ∧ 0 < x.s.length then [(x.tick, p + x.c.length, x.s.length)] else []
def plcs (T t : Int) : Nat → List OutR → List (Int × Nat × Nat)
 | _, [] => []
 | p, x :: l => plcAt T t p x ++ plcs T t (p + (x.c.length + x.s.length)) l
theorem plcs_append (T t : Int) : ∀ (a b : List OutR) (p : Nat), plcs T t p (a ++ b) = plcs T t p a ++ plcs T t (p + (outsB a).length) b
 | [], b, p => by simp [plcs, outsB]
 | x :: a, b, p => by
  have e : outsB (x :: a) = (x.c ++ x.s) ++ outsB a := by simp [outsB]
  rw [List.cons_append, plcs, plcs, plcs_append T t a b, e, List.append_assoc, List.length_append, List.length_append, Nat.add_assoc p]
theorem plcs_one (T t : Int) (p : Nat) (x : OutR) : plcs T t p [x] = plcAt T t p x := by simp [plcs]
theorem plcs_shift (T t : Int) (q : Nat) : ∀ (l : List OutR) (p : Nat), plcs T t (p + q) l = (plcs T t p l).map fun x => (x.1, x.2.1 + q, x.2.2)
 | [], p => rfl
 | x :: l, p => by
  rw [plcs, plcs, List.map_append, show p + q + (x.c.length + x.s.length) = p + (x.c.length + x.s.length) + q by omega, plcs_shift T t q l]
  congr 1
  unfold plcAt
  split
  ·simp only [List.map_cons, List.map_nil, show p + q + x.c.length = p + x.c.length + q by omega]
  ·rfl
theorem plcs_take {T t : Int} {l : List OutR} {i : Nat} {x : OutR} (hx : l[i]? = some x) : plcs T t 0 (l.take (i + 1)) = plcs T t 0 (l.take i) ++ plcAt T t (outsB (l.take i)).length x := by
 rw [take_snoc hx, plcs_append, plcs_one, Nat.zero_add]
theorem plcs_at {T t : Int} {l : List OutR} {i : Nat} {x : OutR} (hx : l[i]? = some x) (hc : x.tick.tmod T = t ∧ 0 < x.s.length) : (plcs T t 0 l)[(plcs T t 0 (l.take i)).length]? = some (x.tick, (outsB (l.take i)).length + x.c.length, x.s.length) := by
 have key := congrArg (plcs T t 0) (cut_at hx)
 rw [plcs_append, plcs_append, plcs_one, Nat.zero_add, show plcAt T t (outsB (l.take i)).length x = [(x.tick, (outsB (l.take i)).length + x.c.length, x.s.length)] by unfold plcAt; rw [if_pos hc]] at key
 rw [key, List.getElem?_append_right (Nat.le_refl _), Nat.sub_self]; rfl
theorem plcs_le (T t : Int) : ∀ (l : List OutR) (p : Nat), (plcs T t p l).length ≤ l.length
 | [], p => Nat.le_refl _
 | x :: l, p => by
  have := plcs_le T t l (p + (x.c.length + x.s.length))
  rw [plcs, List.length_append, List.length_cons]
  have : (plcAt T t p x).length ≤ 1 := by unfold plcAt; split <;> simp
  omega
/-- The slot's bytes stand there. -/
theorem outs_at {l : List OutR} {i : Nat} {x : OutR} (hx : l[i]? = some x) : ((outsB l).drop ((outsB (l.take i)).length + x.c.length)).take x.s.length = x.s ∧ (outsB (l.take i)).length + x.c.length + x.s.length ≤ (outsB l).length := by
 have e : outsB l = outsB (l.take i) ++ (x.c ++ (x.s ++ outsB (l.drop (i + 1)))) := by
  conv => lhs; rw [cut_at hx]
  rw [outsB_append, outsB_append, outsB_one, List.append_assoc]
 refine ⟨?_, ?_⟩
 ·rw [e, ← List.append_assoc, ← List.length_append, List.drop_left, List.take_left]
 ·rw [e]; simp only [List.length_append]; omega
/-- Where the slots begin. -/
def begs : Nat → List OutR → List Int
 | _, [] => []
 | p, x :: l => ((p + x.c.length : Nat) : Int) :: begs (p + (x.c.length + x.s.length)) l
theorem begs_append : ∀ (a b : List OutR) (p : Nat), begs p (a ++ b) = begs p a ++ begs (p + (outsB a).length) b
 | [], b, p => by simp [begs, outsB]
 | x :: a, b, p => by
  have e : outsB (x :: a) = (x.c ++ x.s) ++ outsB a := by simp [outsB]
  rw [List.cons_append, begs, begs, begs_append a b, e, List.length_append, List.length_append, Nat.add_assoc p]; rfl
theorem begs_take {l : List OutR} {i : Nat} {x : OutR} (hx : l[i]? = some x) : begs 0 (l.take (i + 1)) = begs 0 (l.take i) ++ [(((outsB (l.take i)).length + x.c.length : Nat) : Int)] := by
 rw [take_snoc hx, begs_append, Nat.zero_add]; rfl
theorem begs_len : ∀ (l : List OutR) (p : Nat), (begs p l).length = l.length
 | [], _ => rfl
 | x :: l, p => by rw [begs, List.length_cons, begs_len l, List.length_cons]
theorem begs_at {l : List OutR} {i : Nat} {x : OutR} (hx : l[i]? = some x) : (begs 0 l)[i]? = some (((outsB (l.take i)).length + x.c.length : Nat) : Int) := by
 have hlt : i < l.length := by
  rcases Nat.lt_or_ge i l.length with q | q
  ·exact q
  ·simp [List.getElem?_eq_none q] at hx
 have e : l = l.take (i + 1) ++ l.drop (i + 1) := (List.take_append_drop _ _).symm
 rw [show begs 0 l = begs 0 (l.take (i + 1)) ++ begs (0 + (outsB (l.take (i + 1))).length) (l.drop (i + 1)) by rw [← begs_append, ← e], begs_take hx, List.append_assoc]
 have hl : (begs 0 (l.take i)).length = i := by rw [begs_len, List.length_take]; omega
 rw [List.getElem?_append_right (by omega), hl, Nat.sub_self]; rfl
end Go.M

/-
 Layer 26: the walks of view.Bytes, Sum, Places, and of the law's small and the document's Begins.
-/
namespace Go.E1
open Go Go.Proofs Go.M
set_option linter.unusedSimpArgs false

theorem BA.len2 {h : LHeap} {a : Option Addr} {n e : Nat} {l : Bytes} (H : BA h (.slice a n e) l) : n = l.length := by
 rcases H with ⟨rfl, H⟩ | ⟨b, o, H, _⟩
 ·cases H; rfl
 ·cases H; rfl
theorem sSmallO {h : LHeap} {v : Value} {l : List OutR} (S : SL 8 oc h v l) (hb : ∀ r ∈ l, OutOk h r) (hl : l.length * 96 ≤ reachBytes) :
  LCalls EC 7 [v] h fun u h' => (∃ r : Bool, u = .bool r ∧ (r = true → sumO l ≤ 3000)) ∧ Ext h h' := by
 have hrb : reachBytes ≤ 140737488355328 := by decide
 refine LCalls.enter (lf := lf7) rfl rfl (by simp [lf7]) ?_
 have eL := fun hh => S.len (q := EC.q) (h := hh)
 simp only [go_sem, lf7, ↓reduceIte, eL]
 refine MC.loop (fun m fr hh => ∃ i tl, m = l.length - i ∧ i ≤ l.length ∧ fr = (3, .int .i64 (sumO (l.take i) : Nat)) :: (6, v) :: (7, .int .i64 (l.length : Nat)) :: (8, .int .i64 (i : Nat)) :: tl ∧ Ext h hh ∧ sumO (l.take i) ≤ 3000) l.length
  ⟨0, [], rfl, Nat.zero_le _, rfl, Ext.refl _, by simp [sumO]⟩ ?_
 rintro m fr hh J ⟨i, tl, rfl, hi, rfl, X, hs⟩ hJ
 by_cases hlt : i < l.length
 ·obtain ⟨x, hx⟩ : ∃ x, l[i]? = some x := ⟨l[i], by simp [hlt]⟩
  obtain ⟨b, t, r, rfl, g1, g2⟩ := S.at hx
  obtain ⟨k1, k2⟩ := oc_cel.get hx
  obtain ⟨hc, hsv, hcl, hsl, _⟩ := hb x (List.mem_of_getElem? hx)
  have hsum : sumO (l.take (i + 1)) = sumO (l.take i) + (3 + x.c.length + x.s.length) := by rw [take_snoc hx, sumO_append, sumO_one]
  obtain ⟨tk, ⟨p1, p2, p3⟩, c, ⟨q1, q2, q3⟩, s, d1, d2, d3, d4, d5⟩ := x
  simp only [oc, slW] at k1 hc hsv hcl hsl hsum
  obtain rfl := hc.len2
  obtain rfl := hsv.len2
  have c0 : (0 : Int) ≤ (i : Int) := by omega
  have c1 : (i : Int) < (l.length : Int) := by omega
  have hg : hh.get b = _ := (X.get _ g1).trans g2
  have hnb : ¬ b = hh.size := by have := X.size; omega
  have w1 : IntKind.i64.wrap (3 + (c.length : Int)) = ((3 + c.length : Nat) : Int) := by rw [IntWalk.i64_in _ (by omega)]; omega
  have w2 : IntKind.i64.wrap (((3 + c.length : Nat) : Int) + (s.length : Int)) = ((3 + c.length + s.length : Nat) : Int) := by rw [IntWalk.i64_in _ (by omega)]; omega
  have w4 : IntKind.i64.wrap (((sumO (l.take i) : Nat) : Int) + ((3 + c.length + s.length : Nat) : Int)) = ((sumO (l.take (i + 1)) : Nat) : Int) := by rw [IntWalk.i64_in _ (by omega), hsum]; omega
  have w3 : IntKind.i64.wrap ((i : Int) + 1) = ((i + 1 : Nat) : Int) := by rw [IntWalk.i64_in _ (by omega)]; omega
  simp only [go_sem, ↓reduceIte, c0, c1, Int.toNat_natCast, hg, k1, k2, hnb, w1, w2, w4]
  generalize hq : LHeap.set _ hh.size _ = h1
  have X1 : Ext hh h1 := by rw [← hq]; exact (Ext.push _ _).set (Nat.le_refl _) _
  clear hq
  by_cases h600 : 3000 < sumO (l.take (i + 1))
  ·have d : (3000 : Int) < ((sumO (l.take (i + 1)) : Nat) : Int) := by omega
   have d' : ((sumO (l.take (i + 1)) : Nat) : Int) > 3000 := by omega
   simp only [d, d', decide_true, go_sem, ↓reduceIte]
   exact ⟨⟨_, rfl, fun q => by cases q⟩, X.trans X1⟩
  ·have d : ¬ (3000 : Int) < ((sumO (l.take (i + 1)) : Nat) : Int) := by omega
   have d' : ¬ ((sumO (l.take (i + 1)) : Nat) : Int) > 3000 := by omega
   simp only [d, d', decide_false, go_sem, ↓reduceIte, w3]
   exact hJ _ _ _ (by omega) ⟨i + 1, _, rfl, by omega, rfl, X.trans X1, by omega⟩
 ·have c1 : ¬ (i : Int) < (l.length : Int) := by omega
  obtain rfl : i = l.length := by omega
  rw [List.take_length] at hs
  simp only [go_sem, ↓reduceIte, c1]
  exact ⟨⟨_, rfl, fun _ => hs⟩, X⟩

theorem len_sum (l : List OutR) : l.length ≤ sumO l := by have := outs_sum l; omega
theorem outs_le (l : List OutR) : (outsB l).length ≤ sumO l := by have := outs_sum l; omega

theorem OutAt.ltV {h : LHeap} {lo : Nat} {v : Value} {l : Bytes} (O : OutAt h lo v l) {b : Nat} (hb : blkOf v = some b) : lo ≤ b ∧ b < h.size := by
 rcases O with ⟨_, rfl⟩ | ⟨c, rfl, h1, h2, _⟩
 ·cases hb
 ·cases hb; exact ⟨h1, h2⟩
theorem sVBytes {h : LHeap} {v : Value} {l : List OutR} (S : SL 8 oc h v l) (hb : ∀ r ∈ l, OutOk h r) (hs : sumO l ≤ 1000000) :
  LCalls EC 10 [v] h fun u h' => OutAt h' h.size u (outsB l) ∧ Ext h h' := by
 have hln := len_sum l
 have hol := outs_le l
 refine LCalls.enter (lf := lf10) rfl rfl (by simp [lf10]) ?_
 have eL := fun hh => S.len (q := EC.q) (h := hh)
 simp only [go_sem, lf10, ↓reduceIte, eL]
 refine MC.loop (fun m fr hh => ∃ i w, m = l.length - i ∧ i ≤ l.length ∧ fr = [(3, w), (6, v), (7, .int .i64 (l.length : Nat)), (8, .int .i64 (i : Nat))] ∧ Ext h hh ∧ OutAt hh h.size w (outsB (l.take i))) l.length
  ⟨0, _, rfl, Nat.zero_le _, rfl, Ext.refl _, .inl ⟨rfl, rfl⟩⟩ ?_
 rintro m fr hh J ⟨i, w, rfl, hi, rfl, X, O⟩ hJ
 by_cases hlt : i < l.length
 ·obtain ⟨x, hx⟩ : ∃ x, l[i]? = some x := ⟨l[i], by simp [hlt]⟩
  obtain ⟨b, t, r, rfl, g1, g2⟩ := S.at hx
  obtain ⟨k1, k2⟩ := oc_cel.get hx
  obtain ⟨hc, hsv, hcl, hsl, _⟩ := hb x (List.mem_of_getElem? hx)
  have hsum : outsB (l.take (i + 1)) = outsB (l.take i) ++ (x.c ++ x.s) := by rw [take_snoc hx, outsB_append, outsB_one]
  have hle := outs_take l (i + 1)
  rw [hsum, List.length_append, List.length_append] at hle
  obtain ⟨tk, ⟨p1, p2, p3⟩, c, ⟨q1, q2, q3⟩, s, d1, d2, d3, d4, d5⟩ := x
  simp only [oc, slW] at k1 hc hsv hcl hsl hsum hle
  obtain rfl := hc.len2
  obtain rfl := hsv.len2
  have c0 : (0 : Int) ≤ (i : Int) := by omega
  have c1 : (i : Int) < (l.length : Int) := by omega
  have hg : hh.get b = _ := (X.get _ g1).trans g2
  have hnb : ¬ b = hh.size := by have := X.size; omega
  have w3 : IntKind.i64.wrap ((i : Int) + 1) = ((i + 1 : Nat) : Int) := by rw [IntWalk.i64_in _ (by omega)]; omega
  simp only [go_sem, ↓reduceIte, c0, c1, Int.toNat_natCast, hg, k1, k2, hnb]
  generalize hq : LHeap.set _ hh.size _ = h1
  have X1 : Ext hh h1 := by rw [← hq]; exact (Ext.push _ _).set (Nat.le_refl _) _
  have hs1 : hh.size < h1.size := by rw [← hq]; simp
  have g1' : h1.get hh.size = some (.cells [.int .i64 tk, .slice p1 c.length p3, .slice q1 s.length q3, .int .i64 d1, .int .i64 d2, .int .i64 d3, .int .i64 d4, .int .i64 d5] true true) := by rw [← hq]; simp
  clear hq
  have XX := X.trans X1
  have O1 := O.ext X1
  obtain ⟨v2, h2, ha, O2, X2, ob2, ov2⟩ := out_cat (q := EC.q) O1 XX.size ((BA.bytes hc).ext XX).first (by omega)
  have hnw : blkOf w ≠ some hh.size := fun e => by have := (O.ltV e).2; omega
  have g2' : h2.get hh.size = _ := (ob2 _ hs1 hnw).trans g1'
  have XX2 := XX.low X2 (Nat.le_refl _)
  obtain ⟨v3, h3, ha3, O3, X3, _, _⟩ := out_cat (q := EC.q) O2 XX2.size ((BA.bytes hsv).ext XX2).first (by rw [List.length_append]; omega)
  refine MC.dregion ?_
  simp only [go_sem, ↓reduceIte, g1', ha, g2', ha3, w3]
  exact hJ _ _ _ (by omega) ⟨i + 1, v3, rfl, by omega, rfl, XX2.low X3 (Nat.le_refl _), by rw [hsum, ← List.append_assoc]; exact O3⟩
 ·have c1 : ¬ (i : Int) < (l.length : Int) := by omega
  obtain rfl : i = l.length := by omega
  rw [List.take_length] at O
  simp only [go_sem, ↓reduceIte, c1]
  exact ⟨O, X⟩

theorem sVSum {h : LHeap} {v : Value} {l : List OutR} (S : SL 8 oc h v l) (hb : ∀ r ∈ l, OutOk h r) (hs : sumO l ≤ 1000000) :
  LCalls EC 12 [v] h fun u h' => u = .int .i64 ((outsB l).length : Nat) ∧ Ext h h' := by
 refine LCalls.enter (lf := lf12) rfl rfl (by simp [lf12]) ?_
 simp only [go_sem, lf12, ↓reduceIte]
 refine MCall.by (sVBytes S hb hs) ?_
 rintro u h' ⟨O, X⟩
 have e := fun hh => O.bytes.len (q := EC.q) (h := hh)
 simp only [go_sem, ↓reduceIte, e]
 exact X

/-- A place. -/
def pc (x : Int × Nat × Nat) : List Value := [.int .i64 x.1, .int .i64 (x.2.1 : Nat), .int .i64 (x.2.2 : Nat)]
theorem pc_cel : Cel 3 pc := ⟨fun _ => rfl, fun _ => rfl, by omega⟩
def plcO (T t : Int) (l : List OutR) : List (Int × Nat × Nat) := if T < 1 ∨ T > 64 ∨ t < 0 ∨ t ≥ T then [] else plcs T t 0 l

theorem sPlaces {h : LHeap} {v : Value} {l : List OutR} (S : SL 8 oc h v l) (hb : ∀ r ∈ l, OutOk h r) (hs : sumO l ≤ 100000) (T t : Int) :
  LCalls EC 9 [v, .int .i64 t, .int .i64 T] h fun u h' => GL 3 pc h' u (plcO T t l) ∧ (∀ b, blkOf u = some b → h.size ≤ b) ∧ Ext h h' := by
 have hln := len_sum l
 have hol := outs_le l
 refine LCalls.enter (lf := lf9) rfl rfl (by simp [lf9]) ?_
 have eL := fun hh => S.len (q := EC.q) (h := hh)
 unfold plcO
 by_cases c1 : T < 1
 ·simp only [go_sem, lf9, ↓reduceIte, c1, decide_true]
  exact ⟨by simpa [c1] using GL.nil, by simp, Ext.refl _⟩
 by_cases c2 : T > 64
 ·have c2' : (64 : Int) < T := c2
  simp only [go_sem, lf9, ↓reduceIte, c1, c2, c2', decide_true, decide_false]
  exact ⟨by simpa [c2'] using GL.nil, by simp, Ext.refl _⟩
 by_cases c3 : t < 0
 ·have c2' : ¬ (64 : Int) < T := c2
  simp only [go_sem, lf9, ↓reduceIte, c1, c2, c2', c3, decide_true, decide_false]
  exact ⟨by simpa [c3] using GL.nil, by simp, Ext.refl _⟩
 by_cases c4 : t ≥ T
 ·have c2' : ¬ (64 : Int) < T := c2
  have c4' : T ≤ t := c4
  simp only [go_sem, lf9, ↓reduceIte, c1, c2, c2', c3, c4, c4', decide_true, decide_false]
  exact ⟨by simpa [c4'] using GL.nil, by simp, Ext.refl _⟩
 have c2' : ¬ (64 : Int) < T := c2
 have c4' : ¬ T ≤ t := c4
 have cT : ¬ T = 0 := by omega
 rw [if_neg (by simp [c1, c2', c3, c4'])]
 simp only [go_sem, lf9, ↓reduceIte, c1, c2, c2', c3, c4, c4', decide_true, decide_false, eL]
 refine MC.loop (fun m fr hh => ∃ i w, m = l.length - i ∧ i ≤ l.length ∧ fr = [(1, .int .i64 t), (2, .int .i64 T), (7, w), (8, .int .i64 ((outsB (l.take i)).length : Nat)), (26, v), (27, .int .i64 (l.length : Nat)), (28, .int .i64 (i : Nat))] ∧ Ext h hh ∧ GL 3 pc hh w (plcs T t 0 (l.take i)) ∧ ∀ b, blkOf w = some b → h.size ≤ b) l.length
  ⟨0, _, rfl, Nat.zero_le _, rfl, Ext.refl _, GL.nil, by simp⟩ ?_
 rintro m fr hh J ⟨i, w, rfl, hi, rfl, X, G, hG⟩ hJ
 by_cases hlt : i < l.length
 ·obtain ⟨x, hx⟩ : ∃ x, l[i]? = some x := ⟨l[i], by simp [hlt]⟩
  obtain ⟨b, tt, r, rfl, g1, g2⟩ := S.at hx
  obtain ⟨k1, k2⟩ := oc_cel.get hx
  obtain ⟨hc, hsv, hcl, hsl, _⟩ := hb x (List.mem_of_getElem? hx)
  have hsum : (outsB (l.take (i + 1))).length = (outsB (l.take i)).length + x.c.length + x.s.length := by rw [take_snoc hx, outsB_append, outsB_one, List.length_append, List.length_append]; omega
  have hpl := plcs_take (T := T) (t := t) hx
  have hle := outs_take l (i + 1)
  have hn := plcs_le T t (l.take i) 0
  rw [List.length_take] at hn
  obtain ⟨tk, ⟨p1, p2, p3⟩, c, ⟨q1, q2, q3⟩, s, d1, d2, d3, d4, d5⟩ := x
  simp only [oc, slW] at k1 hc hsv hcl hsl hsum hle hpl
  unfold plcAt at hpl
  simp only at hpl
  obtain rfl := hc.len2
  obtain rfl := hsv.len2
  have c0 : (0 : Int) ≤ (i : Int) := by omega
  have e1 : (i : Int) < (l.length : Int) := by omega
  have hg : hh.get b = _ := (X.get _ g1).trans g2
  have hnb : ¬ b = hh.size := by have := X.size; omega
  have w1 : IntKind.i64.wrap ((((outsB (l.take i)).length : Nat) : Int) + (c.length : Int)) = (((outsB (l.take i)).length + c.length : Nat) : Int) := by rw [IntWalk.i64_in _ (by omega)]; omega
  have w2 : IntKind.i64.wrap ((((outsB (l.take i)).length + c.length : Nat) : Int) + (s.length : Int)) = (((outsB (l.take (i + 1))).length : Nat) : Int) := by rw [IntWalk.i64_in _ (by omega), hsum]; omega
  have w3 : IntKind.i64.wrap ((i : Int) + 1) = ((i + 1 : Nat) : Int) := by rw [IntWalk.i64_in _ (by omega)]; omega
  simp only [go_sem, ↓reduceIte, c0, e1, Int.toNat_natCast, hg, k1, k2, hnb, w1]
  generalize hq : LHeap.set _ hh.size _ = h1
  have X1 : Ext hh h1 := by rw [← hq]; exact (Ext.push _ _).set (Nat.le_refl _) _
  have hs1 : hh.size < h1.size := by rw [← hq]; simp
  have g1' : h1.get hh.size = some (.cells [.int .i64 tk, .slice p1 c.length p3, .slice q1 s.length q3, .int .i64 d1, .int .i64 d2, .int .i64 d3, .int .i64 d4, .int .i64 d5] true true) := by rw [← hq]; simp
  clear hq
  have XX := X.trans X1
  have G1 := G.ext X1
  have hnw : blkOf w ≠ some hh.size := fun e => by have := (G.blk e).1; omega
  by_cases d1 : tk.tmod T = t
  ·by_cases dS : 0 < s.length
   ·have d2 : (0 : Int) < (s.length : Int) := by omega
    have d2' : (s.length : Int) > 0 := d2
    rw [if_pos ⟨d1, dS⟩] at hpl
    obtain ⟨v2, h2, ha, G2, hs2, ob2, ov2⟩ := gl_append pc_cel (by' := 24) (q := EC.q) G1 (tk, (outsB (l.take i)).length + c.length, s.length) (by omega) (by omega)
    simp only [pc] at ha
    have g2' : h2.get hh.size = _ := (ob2 _ hs1 hnw).trans g1'
    have X2 : Ext h h2 := ⟨by have := XX.size; omega, fun b hb => (ob2 b (by have := XX.size; omega) (fun e => by have := hG b e; omega)).trans (XX.get b hb)⟩
    simp only [go_sem, ↓reduceIte, cT, g1', d1, beq_self_eq_true, d2, d2', decide_true, ha, g2', w2, w3]
    exact hJ _ _ _ (by omega) ⟨i + 1, v2, rfl, by omega, rfl, X2, by rw [hpl]; exact G2, fun b e => by have := ov2 b e; have := XX.size; omega⟩
   ·have d2 : ¬ (0 : Int) < (s.length : Int) := by omega
    have d2' : ¬ (s.length : Int) > 0 := d2
    rw [if_neg (fun q => dS q.2), List.append_nil] at hpl
    simp only [go_sem, ↓reduceIte, cT, g1', d1, beq_self_eq_true, d2, d2', decide_false, w2, w3]
    exact hJ _ _ _ (by omega) ⟨i + 1, w, rfl, by omega, rfl, XX, by rw [hpl]; exact G1, hG⟩
  ·have d1' : (tk.tmod T == t) = false := by simpa using d1
   rw [if_neg (fun q => d1 q.1), List.append_nil] at hpl
   simp only [go_sem, ↓reduceIte, cT, g1', d1, d1', decide_false, w2, w3]
   exact hJ _ _ _ (by omega) ⟨i + 1, w, rfl, by omega, rfl, XX, by rw [hpl]; exact G1, hG⟩
 ·have e1 : ¬ (i : Int) < (l.length : Int) := by omega
  obtain rfl : i = l.length := by omega
  rw [List.take_length] at G
  simp only [go_sem, ↓reduceIte, e1]
  exact ⟨G, hG, X⟩

/-- A whole number. -/
def ic (x : Int) : List Value := [.int .i64 x]
theorem ic_cel : Cel 1 ic := ⟨fun _ => rfl, fun _ => rfl, by omega⟩
end Go.E1

/-
 ViewPlaces: the walk of the law.
-/
namespace Go.E1
open Go Go.Proofs Go.M
set_option linter.unusedSimpArgs false

theorem BytesAt.strV {q : EqF} {h : LHeap} {v : Value} {l : Bytes} (a : BytesAt h v l) : lexec q (.bytesStr v) h = some (.string (toBA l), h) := by
 rcases a with ⟨rfl, c, rfl⟩ | ⟨b, o, cs, t, r, rfl, h1, h2, h3, h4⟩
 ·simp [lexec, toBA]
 ·have e : (if l.length = 0 then some [] else h.loadCells b o l.length) = some (bv l) := by
   by_cases h0 : l.length = 0
   ·rw [if_pos h0, List.length_eq_zero_iff.1 h0]; rfl
   ·rw [if_neg h0]
    simp only [LHeap.loadCells, h2, h3, if_true, h4]
  simp only [lexec, e, bytesOf_bv, Option.map_some, toBA]
theorem OutOk.ext {h h' : LHeap} {x : OutR} (a : OutOk h x) (X : Ext h h') : OutOk h' x := ⟨a.1.ext X, a.2.1.ext X, a.2.2⟩
theorem flat_ic (l : List Int) : l.flatMap ic = l.map (Value.int .i64 ·) := by
 induction l with
 | nil => rfl
 | cons x l ih => rw [List.flatMap_cons, ih]; rfl
theorem GL.icAt {h : LHeap} {v : Value} {l : List Int} (G : GL 1 ic h v l) {i : Nat} {x : Int} (hx : l[i]? = some x) : ∃ b, v = .slice (some ⟨b, 0, none⟩) l.length 1 ∧ b < h.size ∧ h.get b = some (.cells (l.map (Value.int .i64 ·)) true true) ∧ (l.map (Value.int .i64 ·))[i]? = some (.int .i64 x) := by
 obtain ⟨b, h1, h2, h3⟩ := G.at hx
 exact ⟨b, h1, h2, by rw [h3, flat_ic], by simp [hx]⟩
def ctl (l : List OutR) : List Int := l.map fun x => ((x.c.length : Nat) : Int)
def slt (l : List OutR) : List Int := l.map fun x => ((x.s.length : Nat) : Int)

theorem sBegins {h : LHeap} {v w : Value} {l : List OutR} (A : GL 1 ic h v (ctl l)) (B : GL 1 ic h w (slt l)) (hs : sumO l ≤ 100000) :
  LCalls EC 11 [v, w] h fun u h' => GL 1 ic h' u (begs 0 l) ∧ Ext h h' := by
 have hln := len_sum l
 have hol := outs_le l
 refine LCalls.enter (lf := lf11) rfl rfl (by simp [lf11]) ?_
 have eA := fun hh => A.len (q := EC.q) (h := hh)
 have hcl : (ctl l).length = l.length := by simp [ctl]
 rw [hcl] at eA
 simp only [go_sem, lf11, ↓reduceIte]
 refine MC.loop (fun m fr hh => ∃ i o, m = l.length - i ∧ i ≤ l.length ∧ fr = [(0, v), (1, w), (5, o), (6, .int .i64 ((outsB (l.take i)).length : Nat)), (7, .int .i64 (i : Nat))] ∧ Ext h hh ∧ GL 1 ic hh o (begs 0 (l.take i)) ∧ ∀ b, blkOf o = some b → h.size ≤ b) l.length
  ⟨0, _, rfl, Nat.zero_le _, rfl, Ext.refl _, GL.nil, by simp⟩ ?_
 rintro m fr hh J ⟨i, o, rfl, hi, rfl, X, G, hG⟩ hJ
 by_cases hlt : i < l.length
 ·obtain ⟨x, hx⟩ : ∃ x, l[i]? = some x := ⟨l[i], by simp [hlt]⟩
  have hx1 : (ctl l)[i]? = some ((x.c.length : Nat) : Int) := by simp [ctl, hx]
  have hx2 : (slt l)[i]? = some ((x.s.length : Nat) : Int) := by simp [slt, hx]
  obtain ⟨b1, rfl, a1, a2, a3⟩ := A.icAt hx1
  obtain ⟨b2, rfl, c1, c2, c3⟩ := B.icAt hx2
  have hsl : (slt l).length = l.length := by simp [slt]
  have hsum : (outsB (l.take (i + 1))).length = (outsB (l.take i)).length + (x.c.length + x.s.length) := by rw [take_snoc hx, outsB_append, outsB_one, List.length_append, List.length_append]
  have hle := outs_take l (i + 1)
  have d0 : (0 : Int) ≤ (i : Int) := by omega
  have d1 : (i : Int) < (l.length : Int) := by omega
  have d1' : (i : Int) < ((slt l).length : Int) := by omega
  have d1'' : (i : Int) < ((ctl l).length : Int) := by omega
  have hg1 : hh.get b1 = _ := (X.get _ a1).trans a2
  have w1 : IntKind.i64.wrap ((((outsB (l.take i)).length : Nat) : Int) + (x.c.length : Int)) = (((outsB (l.take i)).length + x.c.length : Nat) : Int) := by rw [IntWalk.i64_in _ (by omega)]; omega
  have w2 : IntKind.i64.wrap ((x.c.length : Int) + (x.s.length : Int)) = ((x.c.length + x.s.length : Nat) : Int) := by rw [IntWalk.i64_in _ (by omega)]; omega
  have w4 : IntKind.i64.wrap ((((outsB (l.take i)).length : Nat) : Int) + ((x.c.length + x.s.length : Nat) : Int)) = (((outsB (l.take (i + 1))).length : Nat) : Int) := by rw [IntWalk.i64_in _ (by omega), hsum]; omega
  have w3 : IntKind.i64.wrap ((i : Int) + 1) = ((i + 1 : Nat) : Int) := by rw [IntWalk.i64_in _ (by omega)]; omega
  obtain ⟨v2, h2, ha, G2, hs2, ob2, ov2⟩ := gl_append ic_cel (by' := 8) (q := EC.q) G (((outsB (l.take i)).length + x.c.length : Nat) : Int) (by rw [begs_len, List.length_take]; omega) (by omega)
  simp only [ic] at ha
  rw [← begs_take hx] at G2
  have X2 : Ext h h2 := ⟨by have := X.size; omega, fun b hb => (ob2 b (by have := X.size; omega) (fun e => by have := hG b e; omega)).trans (X.get b hb)⟩
  have hg1' : h2.get b1 = _ := (X2.get _ a1).trans a2
  have hg2' : h2.get b2 = _ := (X2.get _ c1).trans c2
  simp only [go_sem, ↓reduceIte, eA, d0, d1, d1'', Int.toNat_natCast, hg1, a3, w1, ha]
  refine MC.dregion ?_
  simp only [go_sem, ↓reduceIte, eA, d0, d1, d1', d1'', Int.toNat_natCast, hg1', hg2', a3, c3, w2, w4, w3]
  exact hJ _ _ _ (by omega) ⟨i + 1, v2, rfl, by omega, rfl, X2, G2, fun b e => by have := ov2 b e; have := X.size; omega⟩
 ·have d1 : ¬ (i : Int) < (l.length : Int) := by omega
  obtain rfl : i = l.length := by omega
  rw [List.take_length] at G
  simp only [go_sem, ↓reduceIte, eA, d1]
  exact ⟨G, X⟩

theorem EC_q : EC.q = qOf qAll := by kernel_rfl
theorem q_place (a b c : Int) : EC.q 36 (.agg #[.int .i64 a, .int .i64 b, .int .i64 c]) (.agg #[.int .i64 a, .int .i64 b, .int .i64 c]) = some true := by
 have e : qAll.lookup 36 = some [.int, .int, .int] := rfl
 rw [EC_q]
 simp only [qOf, e, cellsEq, leafEq, decide_true, beq_self_eq_true, Bool.and_self, ↓reduceIte]

theorem sViewPlaces {h : LHeap} {v : Value} {l : List OutR} (S : SL 8 oc h v l) (hb : ∀ r ∈ l, OutOk h r) (hl : l.length * 96 ≤ reachBytes) (T t : Int) :
  LCalls EC 3 [v, .int .i64 t, .int .i64 T] h fun u _ => u = .bool true := by
 have hrb : reachBytes ≤ 140737488355328 := by decide
 refine LCalls.enter (lf := lf3) rfl rfl (by simp [lf3]) ?_
 have eL := fun hh => S.len (q := EC.q) (h := hh)
 simp only [go_sem, lf3, ↓reduceIte]
 refine MCall.by (sSmallO S hb hl) ?_
 rintro u h1 ⟨⟨r, rfl, hr⟩, X1⟩
 cases r with
 | false => simp only [go_sem, ↓reduceIte]
 | true =>
  have hs := hr rfl
  have hln := len_sum l
  have hol := outs_le l
  have S1 := S.ext X1
  have hb1 : ∀ r ∈ l, OutOk h1 r := fun r hr => (hb r hr).ext X1
  simp only [go_sem, ↓reduceIte]
  refine MCall.by (sPlaces S1 hb1 (by omega) T t) ?_
  rintro u h2 ⟨G, _, X2⟩
  by_cases hno : T < 1 ∨ T > 64 ∨ t < 0 ∨ t ≥ T
  ·have e0 : plcO T t l = [] := if_pos hno
   have eP : ∀ hh, lexec EC.q (.lenS u) hh = some (.int .i64 0, hh) := fun hh => by have := G.len (q := EC.q) (h := hh); rw [e0] at this; exact this
   by_cases c1 : T < 1
   ·simp only [go_sem, ↓reduceIte, c1, decide_true, eP, beq_self_eq_true]
   by_cases c2 : 64 < T
   ·simp only [go_sem, ↓reduceIte, c1, c2, decide_true, decide_false, eP, beq_self_eq_true]
   by_cases c3 : t < 0
   ·simp only [go_sem, ↓reduceIte, c1, c2, c3, decide_true, decide_false, eP, beq_self_eq_true]
   have c4 : T ≤ t := by omega
   simp only [go_sem, ↓reduceIte, c1, c2, c3, c4, decide_true, decide_false, eP, beq_self_eq_true]
  ·have c1 : ¬ T < 1 := fun q => hno (.inl q)
   have c2 : ¬ 64 < T := fun q => hno (.inr (.inl q))
   have c3 : ¬ t < 0 := fun q => hno (.inr (.inr (.inl q)))
   have c4 : ¬ T ≤ t := fun q => hno (.inr (.inr (.inr q)))
   have cT : ¬ T = 0 := by omega
   rw [show plcO T t l = plcs T t 0 l from if_neg hno] at G
   have eP := fun hh => G.len (q := EC.q) (h := hh)
   simp only [go_sem, ↓reduceIte, c1, c2, c3, c4, decide_false]
   have S2 := S1.ext X2
   have hb2 : ∀ r ∈ l, OutOk h2 r := fun r hr => (hb1 r hr).ext X2
   refine MCall.by (sVBytes S2 hb2 (by omega)) ?_
   rintro w h3 ⟨O, X3⟩
   have S3 := S2.ext X3
   have hb3 : ∀ r ∈ l, OutOk h3 r := fun r hr => (hb2 r hr).ext X3
   simp only [go_sem, ↓reduceIte, eL]
   refine MC.loop (fun m fr hh => ∃ i cw sw, m = l.length - i ∧ i ≤ l.length ∧ fr = [(0, v), (1, .int .i64 t), (2, .int .i64 T), (7, u), (8, w), (9, cw), (10, sw), (49, v), (50, .int .i64 (l.length : Nat)), (51, .int .i64 (i : Nat))] ∧ Ext h3 hh ∧
    (GL 1 ic hh cw (ctl (l.take i)) ∧ ∀ b, blkOf cw = some b → h3.size ≤ b) ∧ (GL 1 ic hh sw (slt (l.take i)) ∧ ∀ b, blkOf sw = some b → h3.size ≤ b) ∧ ∀ b, blkOf cw = some b → blkOf sw ≠ some b) l.length
    ⟨0, _, _, rfl, Nat.zero_le _, rfl, Ext.refl _, ⟨GL.nil, by simp⟩, ⟨GL.nil, by simp⟩, by simp⟩ ?_
   rintro m fr hh J ⟨i, cw, sw, rfl, hi, rfl, X, ⟨A, hA⟩, ⟨B, hB⟩, hne⟩ hJ
   by_cases hlt : i < l.length
   ·obtain ⟨x, hx⟩ : ∃ x, l[i]? = some x := ⟨l[i], by simp [hlt]⟩
    obtain ⟨b, tt, r, rfl, g1, g2⟩ := S3.at hx
    obtain ⟨k1, k2⟩ := oc_cel.get hx
    obtain ⟨hc, hsv, hcl, hsl, _⟩ := hb3 x (List.mem_of_getElem? hx)
    have hct : ctl (l.take (i + 1)) = ctl (l.take i) ++ [((x.c.length : Nat) : Int)] := by rw [take_snoc hx, ctl, List.map_append]; rfl
    have hst : slt (l.take (i + 1)) = slt (l.take i) ++ [((x.s.length : Nat) : Int)] := by rw [take_snoc hx, slt, List.map_append]; rfl
    obtain ⟨tk, ⟨p1, p2, p3⟩, c, ⟨q1, q2, q3⟩, s, d1, d2, d3, d4, d5⟩ := x
    simp only [oc, slW] at k1 hc hsv hcl hsl hct hst
    obtain rfl := hc.len2
    obtain rfl := hsv.len2
    have d0 : (0 : Int) ≤ (i : Int) := by omega
    have e1 : (i : Int) < (l.length : Int) := by omega
    have hg : hh.get b = _ := (X.get _ g1).trans g2
    have hnb : ¬ b = hh.size := by have := X.size; omega
    have w3 : IntKind.i64.wrap ((i : Int) + 1) = ((i + 1 : Nat) : Int) := by rw [IntWalk.i64_in _ (by omega)]; omega
    simp only [go_sem, ↓reduceIte, d0, e1, Int.toNat_natCast, hg, k1, k2, hnb]
    generalize hq : LHeap.set _ hh.size _ = h4
    have X4 : Ext hh h4 := by rw [← hq]; exact (Ext.push _ _).set (Nat.le_refl _) _
    have hs4 : hh.size < h4.size := by rw [← hq]; simp
    have g4 : h4.get hh.size = some (.cells [.int .i64 tk, .slice p1 c.length p3, .slice q1 s.length q3, .int .i64 d1, .int .i64 d2, .int .i64 d3, .int .i64 d4, .int .i64 d5] true true) := by rw [← hq]; simp
    clear hq
    have XX := X.trans X4
    have hnA : ∀ b, blkOf cw = some b → b < hh.size := fun b e => (A.blk e).1
    have hnB : ∀ b, blkOf sw = some b → b < hh.size := fun b e => (B.blk e).1
    by_cases ht : tk < 0
    ·simp only [go_sem, ↓reduceIte, g4, ht, decide_true]
    ·obtain ⟨v5, h5, ha5, A5, hs5, ob5, ov5⟩ := gl_append ic_cel (by' := 8) (q := EC.q) (A.ext X4) ((c.length : Nat) : Int) (by simp [ctl]; omega) (by omega)
     simp only [ic] at ha5
     rw [← hct] at A5
     have g5 : h5.get hh.size = _ := (ob5 _ hs4 (fun e => by have := hnA _ e; omega)).trans g4
     have B5 : GL 1 ic h5 sw (slt (l.take i)) := (B.ext X4).move hs5 fun x hx => ob5 x (by have := hnB x hx; omega) (fun e => hne x e hx)
     obtain ⟨v6, h6, ha6, B6, hs6, ob6, ov6⟩ := gl_append ic_cel (by' := 8) (q := EC.q) B5 ((s.length : Nat) : Int) (by simp [slt]; omega) (by omega)
     simp only [ic] at ha6
     rw [← hst] at B6
     have hv5 : ∀ b, blkOf v5 = some b → b < h5.size := fun b e => (A5.blk e).1
     have A6 : GL 1 ic h6 v5 (ctl (l.take (i + 1))) := A5.move hs6 fun x hx => ob6 x (hv5 x hx) (fun e => by have := hnB x e; have := ov5 x hx; omega)
     have X6 : Ext h3 h6 := ⟨by have := XX.size; omega, fun b hb => by
      have := XX.size
      exact (ob6 b (by omega) (fun e => by have := hB b e; omega)).trans ((ob5 b (by omega) (fun e => by have := hA b e; omega)).trans (XX.get b hb))⟩
     simp only [go_sem, ↓reduceIte, g4, ht, decide_false, ha5, g5, ha6, w3]
     exact hJ _ _ _ (by omega) ⟨i + 1, v5, v6, rfl, by omega, rfl, X6, ⟨A6, fun b e => by have := ov5 b e; have := XX.size; omega⟩, ⟨B6, fun b e => by have := ov6 b e; have := XX.size; omega⟩,
      fun b e e' => by have := hv5 b e; have := ov6 b e'; omega⟩
   ·have e1 : ¬ (i : Int) < (l.length : Int) := by omega
    obtain rfl : i = l.length := by omega
    rw [List.take_length] at A B
    clear hJ
    simp only [go_sem, ↓reduceIte, e1]
    refine MCall.by (sBegins A B (by omega)) ?_
    rintro bv h5 ⟨E, X5⟩
    have XE := X.trans X5
    have G5 := G.ext (X3.trans XE)
    have O5 := O.ext XE
    have S5 := S3.ext XE
    have hb5 : ∀ r ∈ l, OutOk h5 r := fun r hr => (hb3 r hr).ext XE
    have eL5 := fun hh => S5.len (q := EC.q) (h := hh)
    have eO := fun hh => O.bytes.len (q := EC.q) (h := hh)
    simp only [go_sem, ↓reduceIte, eL]
    clear A B hA hB hne
    refine MC.loop (fun m fr hh => ∃ i, m = l.length - i ∧ i ≤ l.length ∧ fr = [(0, v), (1, .int .i64 t), (2, .int .i64 T), (7, u), (8, w), (13, bv), (14, .int .i64 ((plcs T t 0 (l.take i)).length : Nat)), (15, .int .i64 ((outsB (l.take i)).length : Nat)), (75, v), (76, .int .i64 (l.length : Nat)), (77, .int .i64 (i : Nat))] ∧ Ext h5 hh) l.length
     ⟨0, rfl, Nat.zero_le _, rfl, Ext.refl _⟩ ?_
    rintro m fr hh J ⟨i, rfl, hi, rfl, X⟩ hJ
    by_cases hlt : i < l.length
    ·obtain ⟨x, hx⟩ : ∃ x, l[i]? = some x := ⟨l[i], by simp [hlt]⟩
     obtain ⟨b, tt, r, rfl, g1, g2⟩ := S5.at hx
     obtain ⟨k1, k2⟩ := oc_cel.get hx
     obtain ⟨hc, hsv, hcl, hsl, _⟩ := hb5 x (List.mem_of_getElem? hx)
     have hsum : (outsB (l.take (i + 1))).length = (outsB (l.take i)).length + (x.c.length + x.s.length) := by rw [take_snoc hx, outsB_append, outsB_one, List.length_append, List.length_append]
     have hle := outs_take l (i + 1)
     have hpl := plcs_take (T := T) (t := t) hx
     have hat := outs_at hx
     have hpa := plcs_at (T := T) (t := t) hx
     have hbe := begs_at hx
     have hn := plcs_le T t (l.take i) 0
     rw [List.length_take] at hn
     obtain ⟨tk, ⟨p1, p2, p3⟩, c, ⟨q1, q2, q3⟩, s, d1, d2, d3, d4, d5⟩ := x
     unfold plcAt at hpl
     simp only [oc, slW] at k1 hc hsv hcl hsl hsum hpl hat hpa hbe
     obtain rfl := hc.len2
     obtain rfl := hsv.len2
     have d0 : (0 : Int) ≤ (i : Int) := by omega
     have e1 : (i : Int) < (l.length : Int) := by omega
     have hg : hh.get b = _ := (X.get _ g1).trans g2
     have hnb : ¬ b = hh.size := by have := X.size; omega
     have w1 : IntKind.i64.wrap ((c.length : Int) + (s.length : Int)) = ((c.length + s.length : Nat) : Int) := by rw [IntWalk.i64_in _ (by omega)]; omega
     have w2 : IntKind.i64.wrap ((((outsB (l.take i)).length : Nat) : Int) + ((c.length + s.length : Nat) : Int)) = (((outsB (l.take (i + 1))).length : Nat) : Int) := by rw [IntWalk.i64_in _ (by omega), hsum]; omega
     have w3 : IntKind.i64.wrap ((i : Int) + 1) = ((i + 1 : Nat) : Int) := by rw [IntWalk.i64_in _ (by omega)]; omega
     simp only [go_sem, ↓reduceIte, d0, e1, Int.toNat_natCast, hg, k1, k2, hnb, w1, w2]
     generalize hq : LHeap.set _ hh.size _ = h6
     have X6 : Ext hh h6 := by rw [← hq]; exact (Ext.push _ _).set (Nat.le_refl _) _
     have g6 : h6.get hh.size = some (.cells [.int .i64 tk, .slice p1 c.length p3, .slice q1 s.length q3, .int .i64 d1, .int .i64 d2, .int .i64 d3, .int .i64 d4, .int .i64 d5] true true) := by rw [← hq]; simp
     clear hq
     have XX := X.trans X6
     by_cases q1 : tk.tmod T = t
     ·have e2 : (t != t) = false := by simp
      by_cases q2 : s.length = 0
      ·have e3 : ((s.length : Int) == 0) = true := beq_iff_eq.2 (by omega)
       rw [if_neg (show ¬ (tk.tmod T = t ∧ 0 < s.length) from fun q => by have := q.2; omega), List.append_nil] at hpl
       simp only [go_sem, ↓reduceIte, cT, g6, q1, e2, e3, w3, ← hpl]
       exact hJ _ _ _ (by omega) ⟨i + 1, rfl, by omega, rfl, XX⟩
      ·have e3 : ((s.length : Int) == 0) = false := beq_eq_false_iff_ne.2 (by omega)
       have hcond : tk.tmod T = t ∧ 0 < s.length := ⟨q1, by omega⟩
       rw [if_pos hcond] at hpl
       have hpa := hpa hcond
       have hpl2 : (plcs T t 0 (l.take (i + 1))).length = (plcs T t 0 (l.take i)).length + 1 := by rw [hpl]; simp
       have hkl : (plcs T t 0 (l.take i)).length < (plcs T t 0 l).length := by
        rcases Nat.lt_or_ge (plcs T t 0 (l.take i)).length (plcs T t 0 l).length with z | z
        ·exact z
        ·rw [List.getElem?_eq_none z] at hpa; cases hpa
       obtain ⟨b1, rfl, a1, a2⟩ := G5.at hpa
       obtain ⟨m1, m2⟩ := pc_cel.get hpa
       simp only [pc] at m1
       obtain ⟨b2, rfl, f1, f2, f3⟩ := E.icAt hbe
       have j1 : h6.get b1 = _ := (XX.get _ a1).trans a2
       have j2 : h6.get b2 = _ := (XX.get _ f1).trans f2
       have hbl := begs_len l 0
       have n1 : (0 : Int) ≤ (((plcs T t 0 (l.take i)).length : Nat) : Int) := by omega
       have n2 : (((plcs T t 0 (l.take i)).length : Nat) : Int) < ((plcs T t 0 l).length : Int) := by omega
       have n2' : ¬ ((plcs T t 0 l).length : Int) ≤ (((plcs T t 0 (l.take i)).length : Nat) : Int) := by omega
       have n3 : (i : Int) < ((begs 0 l).length : Int) := by omega
       have w5 : IntKind.i64.wrap ((((outsB (l.take i)).length + c.length : Nat) : Int) + (s.length : Int)) = (((outsB (l.take i)).length + c.length + s.length : Nat) : Int) := by rw [IntWalk.i64_in _ (by omega)]; omega
       have w6 : IntKind.i64.wrap ((((plcs T t 0 (l.take i)).length : Nat) : Int) + 1) = (((plcs T t 0 (l.take (i + 1))).length : Nat) : Int) := by rw [IntWalk.i64_in _ (by omega), hpl2]; omega
       obtain ⟨sv, hsl2, hsb, _⟩ := ba_lohi (q := EC.q) (O5.bytes.ext XX) (i := (outsB (l.take i)).length + c.length) (j := (outsB (l.take i)).length + c.length + s.length) (by omega) hat.2 (k := .i64) (k' := .i64)
       rw [Nat.add_sub_cancel_left, hat.1] at hsb
       have eS1 := BytesAt.strV (q := EC.q) hsb
       have eS2 := BytesAt.strV (q := EC.q) ((BA.bytes hsv).ext XX)
       have hqp := q_place tk (((outsB (l.take i)).length + c.length : Nat) : Int) ((s.length : Nat) : Int)
       simp only [go_sem, ↓reduceIte, cT, g6, q1, e2, e3]
       refine MC.dregion ?_
       simp only [go_sem, ↓reduceIte, cT, g6, q1, e2, e3, eP, n1, n2, n2', n3, d0, decide_false, Int.toNat_natCast, j1, j2, m1, m2, f3, hqp, w5, hsl2, eS1, eS2, beq_self_eq_true, w6, w3]
       exact hJ _ _ _ (by omega) ⟨i + 1, rfl, by omega, rfl, XX⟩
     ·have e2 : (tk.tmod T != t) = true := by simpa using q1
      rw [if_neg (fun q => q1 q.1), List.append_nil] at hpl
      simp only [go_sem, ↓reduceIte, cT, g6, e2, w3, ← hpl]
      exact hJ _ _ _ (by omega) ⟨i + 1, rfl, by omega, rfl, XX⟩
    ·have e1 : ¬ (i : Int) < (l.length : Int) := by omega
     obtain rfl : i = l.length := by omega
     rw [List.take_length]
     simp only [go_sem, ↓reduceIte, e1, eP, eO, beq_self_eq_true]
     refine MCall.by (sVSum (S5.ext X) (fun r hr => (hb5 r hr).ext X) (by omega)) ?_
     rintro u7 h7 ⟨rfl, _⟩
     simp only [go_sem, ↓reduceIte, beq_self_eq_true]

theorem larg_int {h : LHeap} {n : Nat} {lv : Value} (hl : LArg Tryz.prog h n 3 lv) : ∃ i, lv = .int .i64 i ∧ (Lit.int .i64 i).wf = true := by
 rcases hl with ⟨g1, _⟩ | ⟨_, hl⟩
 ·simp [isAggP, Tryz.underlying3] at g1
 ·obtain ⟨i, h1, h2⟩ := LRd_int Tryz.underlying3 hl
  exact ⟨i, by simpa using h1, h2⟩
theorem lawPlaces (h : LHeap) (lvs : List Value) (hl : LArgs Tryz.prog h 6 [22, 3, 3] lvs) : LCalls EC 3 lvs h fun v _ => v = .bool true := by
 obtain ⟨v1, r1, rfl, h1, hl1⟩ := LArgs_cons hl
 obtain ⟨v2, r2, rfl, h2, hl2⟩ := LArgs_cons hl1
 obtain ⟨v3, r3, rfl, h3, hl3⟩ := LArgs_cons hl2
 obtain rfl := LArgs_nil hl3
 obtain ⟨l, S, hb, hle⟩ := larg_outs h1
 obtain ⟨t, rfl, _⟩ := larg_int h2
 obtain ⟨T, rfl, _⟩ := larg_int h3
 exact sViewPlaces S hb hle T t
end Go.E1
