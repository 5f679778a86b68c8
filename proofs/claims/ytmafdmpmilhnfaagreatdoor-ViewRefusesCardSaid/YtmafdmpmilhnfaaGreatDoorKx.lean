/-
  Texts joined: VwQ, VwR, VwS, VwU, VwX.
-/
import Derived.Test.YtmafdmpmilhnfaaGreatDoorKt
import Derived.Test.YtmafdmpmilhnfaaGreatDoorKw
import Derived.Test.YtmafdmpmilhnfaaGreatDoorKv
import Derived.Test.YtmafdmpmilhnfaaGreatDoorKe
/-
 ViewRefuses: what was sent, and its bytes.
-/
namespace Go.E1
open Go Go.Proofs Go.M
set_option linter.unusedSimpArgs false

/-- What was sent in a tick: the tick, control, slot, what was done. -/
def slW (s : SlT) : Value := .slice s.1 s.2.1 s.2.2
structure OutR where
 tick : Int
 cv : SlT
 c : Bytes
 sv : SlT
 s : Bytes
 did : Int × Int × Int × Int × Int
def oc (x : OutR) : List Value := [.int .i64 x.tick, slW x.cv, slW x.sv, .int .i64 x.did.1, .int .i64 x.did.2.1, .int .i64 x.did.2.2.1, .int .i64 x.did.2.2.2.1, .int .i64 x.did.2.2.2.2]
def OutOk (h : LHeap) (x : OutR) : Prop := BytesAt h (slW x.cv) x.c ∧ BytesAt h (slW x.sv) x.s
theorem oc_cel : Cel 8 oc := ⟨fun _ => rfl, fun _ => rfl, by omega⟩
theorem BytesAt.len2V {h : LHeap} {a : Option Addr} {n e : Nat} {l : Bytes} (H : BytesAt h (.slice a n e) l) : n = l.length := by
 rcases H with ⟨rfl, c, H⟩ | ⟨b, o, cs, t, r, H, _⟩
 ·cases H; rfl
 ·cases H; rfl
end Go.E1
namespace Go.M
open Go.E1
/-- All bytes of what was sent. -/
def outsB (l : List OutR) : Bytes := l.flatMap fun x => x.c ++ x.s
def sumO (l : List OutR) : Nat := (l.map fun x => 3 + x.c.length + x.s.length).sum
theorem outsB_append (a b : List OutR) : outsB (a ++ b) = outsB a ++ outsB b := by simp [outsB]
theorem outsB_one (x : OutR) : outsB [x] = x.c ++ x.s := by simp [outsB]
theorem sumO_append (a b : List OutR) : sumO (a ++ b) = sumO a + sumO b := by simp [sumO]
theorem sumO_one (x : OutR) : sumO [x] = 3 + x.c.length + x.s.length := by simp [sumO]
theorem take_snoc {α : Type} {l : List α} {i : Nat} {x : α} (hx : l[i]? = some x) : l.take (i + 1) = l.take i ++ [x] := by
 rw [List.take_add_one, hx]; rfl
theorem cut_at {α : Type} {l : List α} {i : Nat} {x : α} (hx : l[i]? = some x) : l = l.take i ++ ([x] ++ l.drop (i + 1)) := by
 have h : l.take (i + 1) ++ l.drop (i + 1) = l := List.take_append_drop _ _
 rw [take_snoc hx, List.append_assoc] at h
 exact h.symm
theorem outs_sum : ∀ l : List OutR, (outsB l).length + l.length * 3 = sumO l
 | [] => rfl
 | x :: l => by
  have := outs_sum l
  have e : x :: l = [x] ++ l := rfl
  rw [e, outsB_append, sumO_append, outsB_one, sumO_one, List.length_append, List.length_append, List.length_append, List.length_singleton]; omega
theorem outs_take (l : List OutR) (i : Nat) : (outsB (l.take i)).length ≤ (outsB l).length := by
 conv => rhs; rw [← List.take_append_drop i l, outsB_append, List.length_append]
 omega

end Go.M
namespace Go.E1
open Go Go.Proofs Go.M
set_option linter.unusedSimpArgs false

theorem len_sum (l : List OutR) : l.length ≤ sumO l := by have := outs_sum l; omega
theorem outs_le (l : List OutR) : (outsB l).length ≤ sumO l := by have := outs_sum l; omega

theorem OutAt.ltV {h : LHeap} {lo : Nat} {v : Value} {l : Bytes} (O : OutAt h lo v l) {b : Nat} (hb : blkOf v = some b) : lo ≤ b ∧ b < h.size := by
 rcases O with ⟨_, rfl⟩ | ⟨c, rfl, h1, h2, _⟩
 ·cases hb
 ·cases hb; exact ⟨h1, h2⟩
theorem sVBytes {h : LHeap} {v : Value} {l : List OutR} (S : SL 8 oc h v l) (hb : ∀ r ∈ l, OutOk h r) (hs : sumO l ≤ 1000000) :
  LCalls EC 10 [v] h fun u h' => OutAt h' h.size u (outsB l) ∧ Ext h h' := by
 have hln := len_sum l
 have hol := outs_le l
 refine LCalls.enter (lf := lf10) rfl rfl (by simp [lf10]) ?_
 have eL := fun hh => S.len (q := EC.q) (h := hh)
 simp only [go_sem, lf10, ↓reduceIte, eL]
 refine MC.loop (fun m fr hh => ∃ i w, m = l.length - i ∧ i ≤ l.length ∧ fr = [(3, w), (6, v), (7, .int .i64 (l.length : Nat)), (8, .int .i64 (i : Nat))] ∧ Ext h hh ∧ OutAt hh h.size w (outsB (l.take i))) l.length
  ⟨0, _, rfl, Nat.zero_le _, rfl, Ext.refl _, .inl ⟨rfl, rfl⟩⟩ ?_
 rintro m fr hh J ⟨i, w, rfl, hi, rfl, X, O⟩ hJ
 by_cases hlt : i < l.length
 ·obtain ⟨x, hx⟩ : ∃ x, l[i]? = some x := ⟨l[i], by simp [hlt]⟩
  obtain ⟨b, t, r, rfl, g1, g2⟩ := S.at hx
  obtain ⟨k1, k2⟩ := oc_cel.get hx
  obtain ⟨hc, hsv⟩ := hb x (List.mem_of_getElem? hx)
  have hsum : outsB (l.take (i + 1)) = outsB (l.take i) ++ (x.c ++ x.s) := by rw [take_snoc hx, outsB_append, outsB_one]
  have hle := outs_take l (i + 1)
  rw [hsum, List.length_append, List.length_append] at hle
  obtain ⟨tk, ⟨p1, p2, p3⟩, c, ⟨q1, q2, q3⟩, s, d1, d2, d3, d4, d5⟩ := x
  simp only [oc, slW] at k1 hc hsv hsum hle
  obtain rfl := hc.len2V
  obtain rfl := hsv.len2V
  have c0 : (0 : Int) ≤ (i : Int) := by omega
  have c1 : (i : Int) < (l.length : Int) := by omega
  have hg : hh.get b = _ := (X.get _ g1).trans g2
  have hnb : ¬ b = hh.size := by have := X.size; omega
  have w3 : IntKind.i64.wrap ((i : Int) + 1) = ((i + 1 : Nat) : Int) := by rw [IntWalk.i64_in _ (by omega)]; omega
  simp only [go_sem, ↓reduceIte, c0, c1, Int.toNat_natCast, hg, k1, k2, hnb]
  generalize hq : LHeap.set _ hh.size _ = h1
  have X1 : Ext hh h1 := by rw [← hq]; exact (Ext.push _ _).set (Nat.le_refl _) _
  have hs1 : hh.size < h1.size := by rw [← hq]; simp
  have g1' : h1.get hh.size = some (.cells [.int .i64 tk, .slice p1 c.length p3, .slice q1 s.length q3, .int .i64 d1, .int .i64 d2, .int .i64 d3, .int .i64 d4, .int .i64 d5] true true) := by rw [← hq]; simp
  clear hq
  have XX := X.trans X1
  have O1 := O.ext X1
  obtain ⟨v2, h2, ha, O2, X2, ob2, ov2⟩ := out_cat (q := EC.q) O1 XX.size (hc.ext XX).first (by omega)
  have hnw : blkOf w ≠ some hh.size := fun e => by have := (O.ltV e).2; omega
  have g2' : h2.get hh.size = _ := (ob2 _ hs1 hnw).trans g1'
  have XX2 := XX.low X2 (Nat.le_refl _)
  obtain ⟨v3, h3, ha3, O3, X3, _, _⟩ := out_cat (q := EC.q) O2 XX2.size (hsv.ext XX2).first (by rw [List.length_append]; omega)
  refine MC.dregion ?_
  simp only [go_sem, ↓reduceIte, g1', ha, g2', ha3, w3]
  exact hJ _ _ _ (by omega) ⟨i + 1, v3, rfl, by omega, rfl, XX2.low X3 (Nat.le_refl _), by rw [hsum, ← List.append_assoc]; exact O3⟩
 ·have c1 : ¬ (i : Int) < (l.length : Int) := by omega
  obtain rfl : i = l.length := by omega
  rw [List.take_length] at O
  simp only [go_sem, ↓reduceIte, c1]
  exact ⟨O, X⟩

end Go.E1

/-
 ViewRefuses: what was read so far; a request is looked for.
-/
namespace Go.M
open Go.E1
theorem paddedI_len (x : Itm) (f : Frm) (hx : x.text = []) : (paddedI x f).1.text.length ≤ f.pl.length := by
 have hw : ∀ (l : Bytes) (y : Itm) (l' : Bytes), weighI x l = some (y, l') → y.text = [] ∧ l'.length ≤ l.length := fun l y l' h => by
  unfold weighI at h
  split at h
  ·cases h
  ·cases h
   exact ⟨hx, by rw [List.length_drop]; omega⟩
 unfold paddedI
 split
 ·rw [hx]; simp
 ·rename_i pad l hp
  have hl : l.length ≤ f.pl.length := by
   unfold padI at hp
   split at hp
   ·split at hp
    ·cases hp
    ·cases hp; rw [List.length_drop]; omega
   ·cases hp; exact Nat.le_refl _
  split
  ·rw [hx]; simp
  ·rename_i y l' hm
   have hy : y.text = [] ∧ l'.length ≤ l.length := by
    split at hm
    ·exact hw _ _ _ hm
    ·cases hm; exact ⟨hx, Nat.le_refl _⟩
   split
   ·show y.text.length ≤ _
    rw [hy.1]; simp
   ·show (l'.take _).length ≤ _
    rw [List.length_take]; omega
theorem readI_len (x : Itm) (f : Frm) (hx : x.text = []) : (readI x f).1.text.length ≤ f.pl.length := by
 unfold readI
 split
 ·show (if _ then _ else _ : Itm × Flt).1.text.length ≤ _
  split
  ·exact paddedI_len _ f hx
  ·exact paddedI_len _ f hx
 ·split
  ·split
   ·rw [hx]; simp
   ·rename_i y l hm
    have : y.text = [] := by
     unfold weighI at hm
     split at hm
     ·cases hm
     ·cases hm; exact hx
    show y.text.length ≤ _
    rw [this]; simp
  ·split
   ·show x.text.length ≤ _
    rw [hx]; simp
   ·split
    ·show x.text.length ≤ _
     rw [hx]; simp
    ·split
     ·exact Nat.le_refl _
     ·split
      ·show (f.pl.drop 8).length ≤ _
       rw [List.length_drop]; omega
      ·split
       ·show x.text.length ≤ _
        rw [hx]; simp
       ·split
        ·exact Nat.le_refl _
        ·show x.text.length ≤ _
         rw [hx]; simp
theorem parseI_len (f : Frm) : (parseI f).1.text.length ≤ f.pl.length := by
 unfold parseI
 split
 ·simp [bareI]
 ·split
  ·simp [bareI]
  ·show (if _ then _ else _ : Itm × Flt).1.text.length ≤ _
   split
   ·simp [bareI]
   ·exact readI_len _ f rfl
theorem parseF_ok {most : Nat} {b : Bytes} {f : Frm} {n : Nat} (h : parseF most b = .ok f n) : 9 ≤ n ∧ n ≤ b.length ∧ f.ty < 256 ∧ f.fl < 256 ∧ f.st < 2147483648 ∧ f.pl.length ≤ most := by
 obtain ⟨h1, h2⟩ := parseF_used h
 refine ⟨h1, h2, ?_⟩
 unfold parseF at h
 split at h
 ·cases h
 ·split at h
  ·cases h
  ·split at h
   ·cases h
   ·cases h
    refine ⟨big_lt 1 _ (by rw [List.length_take, List.length_drop]; omega), big_lt 1 _ (by rw [List.length_take, List.length_drop]; omega), Nat.mod_lt _ (by decide), ?_⟩
    show (List.take _ _).length ≤ _
    rw [List.length_take]; omega
theorem parseF_short {most : Nat} {b : Bytes} (h : parseF most b = .short) : b.length < 9 + most := by
 unfold parseF at h
 split at h
 ·omega
 ·split at h
  ·cases h
  ·split at h
   ·omega
   ·cases h
theorem allB_spec : ∀ (n : Nat) (b : Bytes) (fs : List Frm) (rest : Bytes), b.length ≤ n → allB b = some (fs, rest) → 9 * fs.length + rest.length ≤ b.length ∧ rest.length < 9 + 16384 ∧ ∀ f ∈ fs, f.ty < 256 ∧ f.fl < 256 ∧ f.st < 2147483648 ∧ f.pl.length ≤ 16384
 | n, b, fs, rest, hn, h => by
  rw [allB_eq] at h
  cases hp : parseF 16384 b with
  | short =>
   rw [hp] at h
   simp only at h
   cases h
   exact ⟨by simp, parseF_short hp, fun f hf => by cases hf⟩
  | big => rw [hp] at h; cases h
  | ok f m =>
   rw [hp] at h
   simp only [Option.map_eq_some_iff] at h
   obtain ⟨⟨fs', rest'⟩, h1, h2⟩ := h
   cases h2
   obtain ⟨k1, k2, k3⟩ := parseF_ok hp
   match n with
   | 0 => omega
   | n + 1 =>
    obtain ⟨e1, e2, e3⟩ := allB_spec n (b.drop m) fs' _ (by rw [List.length_drop]; omega) h1
    rw [List.length_drop] at e1
    refine ⟨by simp; omega, e2, fun g hg => ?_⟩
    rcases List.mem_cons.1 hg with rfl | hg
    ·exact k3
    ·exact e3 g hg
end Go.M
namespace Go.M
/-- A frame's bytes are some of those that came. -/
theorem parseF_pl {most : Nat} {b : Bytes} {f : Frm} {n : Nat} (h : parseF most b = .ok f n) : f.pl.length ≤ b.length := by
 unfold parseF at h
 split at h
 ·cases h
 ·split at h
  ·cases h
  ·split at h
   ·cases h
   ·cases h
    show (List.take _ _).length ≤ _
    rw [List.length_take, List.length_drop]; omega
theorem allB_pl : ∀ (n : Nat) (b : Bytes) (fs : List Frm) (rest : Bytes), b.length ≤ n → allB b = some (fs, rest) → ∀ f ∈ fs, f.pl.length ≤ b.length
 | n, b, fs, rest, hn, h => by
  rw [allB_eq] at h
  cases hp : parseF 16384 b with
  | short =>
   rw [hp] at h
   simp only at h
   cases h
   exact fun f hf => by cases hf
  | big => rw [hp] at h; cases h
  | ok f m =>
   rw [hp] at h
   simp only [Option.map_eq_some_iff] at h
   obtain ⟨⟨fs', rest'⟩, h1, h2⟩ := h
   cases h2
   obtain ⟨k1, k2, k3⟩ := parseF_ok hp
   match n with
   | 0 => omega
   | n + 1 =>
    have ih := allB_pl n (b.drop m) fs' _ (by rw [List.length_drop]; omega) h1
    intro g hg
    rcases List.mem_cons.1 hg with rfl | hg
    ·exact parseF_pl hp
    ·have := ih g hg
     rw [List.length_drop] at this; omega
theorem splice_one {l : List Go.Value} {n : Nat} {x : Go.Value} (h : n < l.length) : l.take n ++ [x] ++ l.drop (n + 1) = l.set n x := by
 rw [List.set_eq_take_append_cons_drop, if_pos h, List.append_assoc]; rfl
end Go.M
namespace Go.E1
open Go Go.Proofs Go.M
set_option linter.unusedSimpArgs false

theorem Cel.flat_set {α : Type} {k : Nat} {c : α → List Value} (C : Cel k c) {l : List α} {i j : Nat} {g g' : α} {x : Value} (hi : l[i]? = some g) (hj : j < k) (hc : c g' = (c g).set j x) : (l.flatMap c).set (i * k + j) x = (l.set i g').flatMap c := by
 have hlt : i < l.length := by
  rcases Nat.lt_or_ge i l.length with q | q
  ·exact q
  ·simp [List.getElem?_eq_none q] at hi
 have e1 : l = l.take i ++ ([g] ++ l.drop (i + 1)) := cut_at hi
 have e2 : l.set i g' = l.take i ++ ([g'] ++ l.drop (i + 1)) := by
  rw [List.set_eq_take_append_cons_drop, if_pos hlt]; rfl
 have hA : ((l.take i).flatMap c).length = i * k := by rw [C.flat_len, List.length_take, Nat.min_eq_left (by omega)]
 conv => lhs; rw [e1, List.flatMap_append, List.flatMap_append]
 rw [e2, List.flatMap_append, List.flatMap_append, ← hA, List.set_append_right _ _ (by omega), Nat.add_sub_cancel_left, List.set_append_left _ _ (by simp [C.len]; exact hj)]
 simp only [List.flatMap_cons, List.flatMap_nil, List.append_nil, hc]

/-- A request as it is seen. -/
structure GotR where
 id : Int
 m : ByteArray
 s : ByteArray
 p : ByteArray
 a : ByteArray
 fv : SlT
 bv : SlT
 body : Bytes
 whole : Bool
 reset : Bool
def gtc (g : GotR) : List Value := [.int .i64 g.id, .string g.m, .string g.s, .string g.p, .string g.a, .slice g.fv.1 g.fv.2.1 g.fv.2.2, .slice g.bv.1 g.bv.2.1 g.bv.2.2, .bool g.whole, .bool g.reset]
theorem gtc_cel : Cel 9 gtc := ⟨fun x => by simp [gtc], fun x => by simp [gtc, oneCells, Value.oneCell'], by omega⟩

/-- What was read so far. -/
structure Rdv (h : LHeap) (rb db : Nat) (FD : Nat → Prop) (v : Value) (l : List GotR) (k : Nat) : Prop where
 rlt : rb < h.size
 rget : h.get rb = some (.cells [v, .pointer (some ⟨db, 0, none⟩)] true true)
 dec : ∃ d, DW h db d 0 16384 FD
 gl : GL 9 gtc h v l
 nrF : ¬ FD rb
 nvF : ∀ b, blkOf v = some b → ¬ FD b ∧ b ≠ rb
 body : ∀ g ∈ l, BytesAt h (slV g.bv) g.body ∧ g.body.length ≤ k * 1000 ∧ ∀ b, blkOf (slV g.bv) = some b → ¬ FD b ∧ b ≠ rb ∧ blkOf v ≠ some b
 cnt : l.length ≤ k
theorem Rdv.ext {h h' : LHeap} {rb db : Nat} {FD : Nat → Prop} {v : Value} {l : List GotR} {k : Nat} (R : Rdv h rb db FD v l k) (X : Ext h h') : Rdv h' rb db FD v l k where
 rlt := Nat.lt_of_lt_of_le R.rlt X.size
 rget := (X.get _ R.rlt).trans R.rget
 dec := R.dec.imp fun _ D => D.ext X
 gl := R.gl.ext X
 nrF := R.nrF
 nvF := R.nvF
 body := fun g hg => ⟨(R.body g hg).1.ext X, (R.body g hg).2⟩
 cnt := R.cnt
theorem Rdv.more {h : LHeap} {rb db : Nat} {FD : Nat → Prop} {v : Value} {l : List GotR} {k k' : Nat} (R : Rdv h rb db FD v l k) (hk : k ≤ k') : Rdv h rb db FD v l k' :=
 ⟨R.rlt, R.rget, R.dec, R.gl, R.nrF, R.nvF, fun g hg => ⟨(R.body g hg).1, Nat.le_trans (R.body g hg).2.1 (Nat.mul_le_mul_right _ hk), (R.body g hg).2.2⟩, Nat.le_trans R.cnt hk⟩
theorem BytesAt.mv {h h' : LHeap} {v : Value} {l : Bytes} (a : BytesAt h v l) (hs : h.size ≤ h'.size) (hg : ∀ b, blkOf v = some b → h'.get b = h.get b) : BytesAt h' v l := by
 rcases a with h1 | ⟨b, o, cs, t, r, rfl, h2, h3, h4⟩
 ·exact .inl h1
 ·exact .inr ⟨b, o, cs, t, r, rfl, Nat.lt_of_lt_of_le h2 hs, by rw [hg b rfl]; exact h3, h4⟩
theorem BytesAt.ltV {h : LHeap} {v : Value} {l : Bytes} (a : BytesAt h v l) {b : Nat} (hb : blkOf v = some b) : b < h.size := by
 rcases a with ⟨_, c, rfl⟩ | ⟨b, o, cs, t, r, rfl, h2, _⟩
 ·cases hb
 ·cases hb; exact h2
/-- How a step may change what was there. -/
structure RStep (h h' : LHeap) (rb : Nat) (FD FD' : Nat → Prop) (v v' : Value) : Prop where
 size : h.size ≤ h'.size
 get : ∀ b, b < h.size → ¬ FD b → b ≠ rb → blkOf v ≠ some b → h'.get b = h.get b
 fd : ∀ c, FD' c → FD c ∨ h.size ≤ c
 nv : ∀ b, blkOf v' = some b → blkOf v = some b ∨ h.size ≤ b
theorem RStep.ext {h h' : LHeap} {rb : Nat} {FD : Nat → Prop} {v : Value} (X : Ext h h') : RStep h h' rb FD FD v v := ⟨X.size, fun b hb _ _ _ => X.get b hb, fun _ hc => .inl hc, fun _ hb => .inl hb⟩
theorem RStep.pre {h0 h h' : LHeap} {rb : Nat} {FD FD' : Nat → Prop} {v v' : Value} (X : Ext h0 h) (s : RStep h h' rb FD FD' v v') : RStep h0 h' rb FD FD' v v' :=
 ⟨Nat.le_trans X.size s.size, fun b hb h1 h2 h3 => (s.get b (Nat.lt_of_lt_of_le hb X.size) h1 h2 h3).trans (X.get b hb), fun c hc => (s.fd c hc).imp id fun q => Nat.le_trans X.size q, fun b hb => (s.nv b hb).imp id fun q => Nat.le_trans X.size q⟩
theorem RStep.post {h h' h2 : LHeap} {rb : Nat} {FD FD' : Nat → Prop} {v v' : Value} (s : RStep h h' rb FD FD' v v') (X : Ext h' h2) : RStep h h2 rb FD FD' v v' :=
 ⟨Nat.le_trans s.size X.size, fun b hb h1 h2 h3 => (X.get b (Nat.lt_of_lt_of_le hb s.size)).trans (s.get b hb h1 h2 h3), s.fd, s.nv⟩

/-! ### A request is looked for -/
theorem sFind1 {h : LHeap} (g : GotR) {ib : Nat} {id : Int} {t r : Bool} (hi : h.get ib = some (.cells [.int .i64 id] t r)) (hlt : ib < h.size) :
  LCalls EC 80 [.agg #[.int .i64 g.id, .string g.m, .string g.s, .string g.p, .string g.a, .slice g.fv.1 g.fv.2.1 g.fv.2.2, .slice g.bv.1 g.bv.2.1 g.bv.2.2, .bool g.whole, .bool g.reset], .pointer (some ⟨ib, 0, none⟩)] h fun u h' => (∃ r : Bool, u = .bool r) ∧ Ext h h' := by
 refine LCalls.enter (lf := lf80) rfl rfl (by simp [lf80]) ?_
 have n1 : ¬ ib = h.size := by omega
 simp only [go_sem, lf80, ↓reduceIte, n1, hi]
 exact ⟨⟨_, rfl⟩, Ext.push _ _⟩

theorem sIdxGot {h : LHeap} {v : Value} {l : List GotR} (G : GL 9 gtc h v l) (hl : l.length ≤ 1000000) {ib : Nat} {id : Int} {t r : Bool} (hi : h.get ib = some (.cells [.int .i64 id] t r)) (hlt : ib < h.size) :
  LCalls EC 79 [v, .func (.func 80) #[] #[.pointer (some ⟨ib, 0, none⟩)]] h fun u h' => (u = .int .i64 (-1) ∨ ∃ i : Nat, i < l.length ∧ u = .int .i64 (i : Nat)) ∧ Ext h h' := by
 refine LCalls.enter (lf := lf79) rfl rfl (by simp [lf79]) ?_
 have eL := fun hh => G.len (q := EC.q) (h := hh)
 simp only [go_sem, lf79, ↓reduceIte, eL]
 refine MC.loop (fun m fr hh => ∃ i, m = l.length - i ∧ fr = [(0, v), (1, .func (.func 80) #[] #[.pointer (some ⟨ib, 0, none⟩)]), (7, .int .i64 (l.length : Nat)), (8, .int .i64 (i : Nat))] ∧ i ≤ l.length ∧ Ext h hh) l.length ⟨0, rfl, rfl, Nat.zero_le _, Ext.refl _⟩ ?_
 rintro m fr hh J ⟨i, rfl, rfl, hil, X⟩ hJ
 by_cases hlt' : i < l.length
 ·obtain ⟨x, hx⟩ : ∃ x, l[i]? = some x := ⟨l[i], by simp [hlt']⟩
  obtain ⟨b, rfl, g1, g2⟩ := G.at hx
  obtain ⟨k1, k2⟩ := gtc_cel.get hx
  simp only [gtc] at k1
  have hg := (X.get _ g1).trans g2
  have d0 : (0 : Int) ≤ (i : Int) := by omega
  have d1 : (i : Int) < (l.length : Int) := by omega
  have w3 : IntKind.i64.wrap ((i : Int) + 1) = ((i + 1 : Nat) : Int) := by rw [IntWalk.i64_in _ (by omega)]; omega
  simp only [go_sem, ↓reduceIte, d0, d1, Int.toNat_natCast, hg, k1, k2]
  refine MCall.by (sFind1 x ((X.get _ hlt).trans hi) (Nat.lt_of_lt_of_le hlt X.size)) ?_
  rintro u h2 ⟨⟨r, rfl⟩, X2⟩
  cases r with
  | true =>
   simp only [go_sem, ↓reduceIte]
   exact ⟨.inr ⟨i, hlt', rfl⟩, X.trans X2⟩
  | false =>
   simp only [go_sem, ↓reduceIte, w3]
   exact hJ _ _ _ (by omega) ⟨i + 1, rfl, rfl, by omega, X.trans X2⟩
 ·have d1 : ¬ (i : Int) < (l.length : Int) := by omega
  simp only [go_sem, ↓reduceIte, d1]
  exact ⟨.inl trivial, X⟩

theorem sFindG {h : LHeap} {rb : Nat} {v y : Value} {l : List GotR} (hr : rb < h.size) (g : h.get rb = some (.cells [v, y] true true)) (G : GL 9 gtc h v l) (hl : l.length ≤ 1000000) (id : Int) :
  LCalls EC 48 [.pointer (some ⟨rb, 0, none⟩), .int .i64 id] h fun u h' => (u = .tuple #[.pointer none, .bool false] ∨ ∃ i b, i < l.length ∧ v = .slice (some ⟨b, 0, none⟩) l.length 9 ∧ u = .tuple #[.pointer (some ⟨b, i * 9, none⟩), .bool true]) ∧ Ext h h' := by
 refine LCalls.enter (lf := lf48) rfl rfl (by simp [lf48]) ?_
 have n1 : ¬ rb = h.size := by omega
 simp only [go_sem, lf48, ↓reduceIte, n1, g]
 generalize hq : LHeap.push _ _ = h1
 have X1 : Ext h h1 := by rw [← hq]; exact Ext.push _ _
 have i1 : h1.get h.size = some (.cells [.int .i64 id] true true) := by rw [← hq]; simp [Value.cells]
 have s1 : h.size < h1.size := by rw [← hq]; simp
 clear hq
 refine MCall.by (sIdxGot (G.ext X1) hl i1 s1) ?_
 rintro u h2 ⟨hu, X2⟩
 have XX := X1.trans X2
 have g2 := (XX.get rb hr).trans g
 rcases hu with rfl | ⟨i, hi, rfl⟩
 ·have d1 : (-1 : Int) < 0 := by omega
  simp only [go_sem, ↓reduceIte, d1, decide_true]
  exact ⟨.inl trivial, XX⟩
 ·obtain ⟨x, hx⟩ : ∃ x, l[i]? = some x := ⟨l[i], by simp [hi]⟩
  obtain ⟨b, rfl, g3, g4⟩ := G.at hx
  have hg := (XX.get _ g3).trans g4
  have d1 : ¬ (i : Int) < 0 := by omega
  have d0 : (0 : Int) ≤ (i : Int) := by omega
  have d2 : (i : Int) < (l.length : Int) := by omega
  have c8 := gtc_cel.cell (j := 8) hx (by omega)
  simp only [gtc, List.getElem?_cons_succ, List.getElem?_cons_zero] at c8
  cases hrs : x.reset with
  | true =>
   rw [hrs] at c8
   simp only [go_sem, ↓reduceIte, d0, d1, d2, decide_false, g2, Int.toNat_natCast, hg, Nat.zero_add, c8]
   exact ⟨.inl trivial, XX⟩
  | false =>
   rw [hrs] at c8
   simp only [go_sem, ↓reduceIte, d0, d1, d2, decide_false, g2, Int.toNat_natCast, hg, Nat.zero_add, c8]
   exact ⟨.inr ⟨i, b, hi, rfl, rfl⟩, XX⟩
end Go.E1

/-
 ViewRefuses: a request's beginning.
-/
namespace Go.E1
open Go Go.Proofs Go.M
set_option linter.unusedSimpArgs false

theorem sDecodeNilC {h : LHeap} {d t : Nat} {lv : Value} {z L : List Fld} {limit most bound : Nat} (cc : Nat) (D : Dcr h d t lv z L limit most bound false) :
  LCalls EC 77 [.pointer (some ⟨d, 0, none⟩), .slice none 0 cc] h fun u h' => DecR h d t lv most bound (M.decode most bound ⟨⟨L, limit⟩, false⟩ []) u h' := by
 refine LCalls.enter (lf := lf77) rfl rfl (by simp [lf77]) ?_
 have hdec : M.decode most bound ⟨⟨L, limit⟩, false⟩ [] = (⟨⟨L, limit⟩, false⟩, .ok []) := rfl
 rw [hdec]
 simp only [go_sem, lf77, ↓reduceIte, D.get]
 refine MC.cutb (fun fr hh => fr = [(0, .pointer (some ⟨d, 0, none⟩)), (1, .slice none 0 cc), (6, .pointer (some ⟨h.size, 0, none⟩)), (7, .slice none 0 0), (8, .int .i64 0), (31, .bool false)] ∧ hh = h.push (.cells [.slice none 0 cc, .int .i64 0, .int .i64 0] true true)) ?_ ?_
 ·refine MC.loop (fun m fr hh => fr = [(0, .pointer (some ⟨d, 0, none⟩)), (1, .slice none 0 cc), (6, .pointer (some ⟨h.size, 0, none⟩)), (7, .slice none 0 0), (8, .int .i64 0)] ∧ hh = h.push (.cells [.slice none 0 cc, .int .i64 0, .int .i64 0] true true)) 0 ⟨rfl, rfl⟩ ?_
  rintro m fr hh J ⟨rfl, rfl⟩ hJ
  simp only [go_sem, ↓reduceIte]
 ·rintro fr hh ⟨rfl, rfl⟩
  simp only [go_sem, ↓reduceIte]
  exact ⟨Keep.of_ext (Ext.push _ _), lv, z, D.ext (Ext.push _ _), fun c hc => .inl hc, _, rfl, .inl ⟨rfl, rfl⟩, fun x n E h => by cases h⟩
theorem sDecodeC {h : LHeap} {d t : Nat} {lv : Value} {z L : List Fld} {limit most bound : Nat} {dead : Bool} (D : Dcr h d t lv z L limit most bound dead) {v : Value} {l : Bytes} (B : BytesAt h v l) (hF : ∀ b, blkOf v = some b → ¬ FootD d t lv b) (hl : l.length < 100000) (hbd : bound < 1000000000) :
  LCalls EC 77 [.pointer (some ⟨d, 0, none⟩), v] h fun u h' => DecR h d t lv most bound (M.decode most bound ⟨⟨L, limit⟩, dead⟩ l) u h' := by
 cases dead with
 | true => exact sDecodeDead D v l
 | false =>
  rcases B with ⟨rfl, c, rfl⟩ | ⟨b, o, cs, t', r, rfl, h1, h2, h3, h4⟩
  ·exact sDecodeNilC c D
  ·exact sDecodeLive D ⟨h1, cs, t', r, h2, h3, h4⟩ (hF b rfl) hl hbd
theorem wDecodeB {h : LHeap} {d : Nat} {s : Dec} {most bound : Nat} {F : Nat → Prop} (D : DW h d s most bound F) {v : Value} {l : Bytes} (B : BytesAt h v l) (hF : ∀ b, blkOf v = some b → ¬ F b) (hl : l.length < 100000) (hbd : bound < 1000000000) :
  LCalls EC 77 [.pointer (some ⟨d, 0, none⟩), v] h fun u h' => ∃ F', DW h' d (M.decode most bound s l).1 most bound F' ∧ (∀ c, F' c → F c ∨ h.size ≤ c) ∧ Keep F h h' ∧ Out7 h.size h' F' (M.decode most bound s l).2 u := by
 obtain ⟨t, lv, z, D1, rfl⟩ := D.ex
 refine (sDecodeC D1 B hF hl hbd).mono fun u h' ⟨K, lv', z', D', F', O⟩ => ?_
 obtain ⟨⟨L, limit⟩, dead⟩ := s
 generalize M.decode most bound ⟨⟨L, limit⟩, dead⟩ l = res at *
 refine ⟨_, ⟨⟨t, lv', z', D', rfl⟩⟩, ?_, K, ?_⟩
 ·rintro c (h1 | h1)
  ·exact .inl (.inl h1)
  ·exact (F' c h1).imp .inr id
 ·obtain ⟨r1, r2⟩ := res
  cases r2 with
  | error e =>
   obtain ⟨h1, h2⟩ := O
   exact ⟨_, e, [], h1, .inl ⟨rfl, rfl⟩, (fun x n E h => by cases h), .inr ⟨h2, rfl, rfl⟩⟩
  | ok ls =>
   obtain ⟨ov, h1, h2, h3⟩ := O
   exact ⟨ov, 0, ls, h1, h2, h3, .inl ⟨rfl, rfl⟩⟩

theorem fsz_le {l : List Ln} {x : Ln} (hx : x ∈ l) : fsz x.f ≤ lsz l := by
 induction l with
 | nil => cases hx
 | cons y l ih =>
  rw [show y :: l = [y] ++ l from rfl, lsz_append, lsz_one]
  rcases List.mem_cons.1 hx with rfl | hx
  ·omega
  ·have := ih hx; omega
theorem LS.glV {h : LHeap} {lo : Nat} {v : Value} {l : List Ln} (S : LS h lo v l) : GL 3 lc h v l := by
 rcases S with h1 | ⟨b, h1, _, h3, h4⟩
 ·exact .inl h1
 ·exact .inr ⟨b, h1, h3, h4⟩

/-- The decoder has read. -/
theorem Rdv.dec' {h h' : LHeap} {rb db : Nat} {FD FD' : Nat → Prop} {v : Value} {l : List GotR} {k : Nat} (R : Rdv h rb db FD v l k) (K : Keep FD h h') (D : ∃ d, DW h' db d 0 16384 FD') (hF : ∀ c, FD' c → FD c ∨ h.size ≤ c) : Rdv h' rb db FD' v l k where
 rlt := Nat.lt_of_lt_of_le R.rlt K.size
 rget := (K.get _ R.rlt R.nrF).trans R.rget
 dec := D
 gl := R.gl.move K.size fun x hx => K.get x (R.gl.blk hx).1 (R.nvF x hx).1
 nrF := fun hc => by
  rcases hF _ hc with q | q
  ·exact R.nrF q
  ·have := R.rlt; omega
 nvF := fun b hb => ⟨fun hc => by
  rcases hF _ hc with q | q
  ·exact (R.nvF b hb).1 q
  ·have := (R.gl.blk hb).1; omega, (R.nvF b hb).2⟩
 body := fun g hg => by
  obtain ⟨h1, h2, h3⟩ := R.body g hg
  refine ⟨h1.mv K.size fun b hb => K.get b (h1.ltV hb) (h3 b hb).1, h2, fun b hb => ⟨fun hc => ?_, (h3 b hb).2⟩⟩
  rcases hF _ hc with q | q
  ·exact (h3 b hb).1 q
  ·have := h1.ltV hb; omega
 cnt := R.cnt
theorem RStep.dec' {h h' : LHeap} {rb : Nat} {FD FD' : Nat → Prop} {v : Value} (K : Keep FD h h') (hF : ∀ c, FD' c → FD c ∨ h.size ≤ c) : RStep h h' rb FD FD' v v :=
 ⟨K.size, fun b hb h1 _ _ => K.get b hb h1, hF, fun _ hb => .inl hb⟩

/-- What the cells of a list of requests and its owner become, when one comes. -/
theorem Rdv.push {h h6 : LHeap} {rb db : Nat} {FD : Nat → Prop} {v v' : Value} {l : List GotR} {k : Nat} (R : Rdv h rb db FD v l k) (g : GotR) (hgb : g.body = []) (hgv : slV g.bv = .slice none 0 0) (hs : h.size ≤ h6.size) (G : GL 9 gtc h6 v' (l ++ [g]))
  (ob : ∀ b, b < h.size → blkOf v ≠ some b → h6.get b = h.get b) (ov : ∀ b, blkOf v' = some b → h.size ≤ b) : Rdv (h6.set rb (.cells [v', .pointer (some ⟨db, 0, none⟩)] true true)) rb db FD v' (l ++ [g]) (k + 1) ∧
   RStep h (h6.set rb (.cells [v', .pointer (some ⟨db, 0, none⟩)] true true)) rb FD FD v v' := by
 have hr := R.rlt
 have nr : blkOf v ≠ some rb := fun e => (R.nvF rb e).2 rfl
 have fl : ∀ c, FD c → c < h.size := fun c hc => by obtain ⟨d, D⟩ := R.dec; exact D.lt hc
 have old : ∀ b, b < h.size → blkOf v ≠ some b → b ≠ rb → (h6.set rb (.cells [v', .pointer (some ⟨db, 0, none⟩)] true true)).get b = h.get b := fun b hb h1 h2 => by
  simp only [LHeap.get_set, h2, if_false]; exact ob b hb h1
 refine ⟨⟨by simp; omega, by simp, ?_, ?_, R.nrF, fun b hb => ⟨fun hc => by have := ov b hb; have := fl b hc; omega, by have := ov b hb; omega⟩, ?_, by rw [List.length_append]; have := R.cnt; simp; omega⟩, ⟨by simp; omega, fun b hb h1 h2 h3 => old b hb h3 h2, fun c hc => .inl hc, fun b hb => .inr (ov b hb)⟩⟩
 ·obtain ⟨d, D⟩ := R.dec
  refine ⟨d, D.keep (G := fun c => c = rb ∨ blkOf v = some c) ⟨by simp; omega, fun b hb hn => old b hb (fun e => hn (.inr e)) (fun e => hn (.inl e))⟩ fun c hc q => ?_⟩
  rcases q with rfl | q
  ·exact R.nrF hc
  ·exact (R.nvF c q).1 hc
 ·exact G.move (by simp) fun x hx => by simp [show x ≠ rb by have := ov x hx; omega]
 ·intro g' hg'
  rcases List.mem_append.1 hg' with q | q
  ·obtain ⟨h1, h2, h3⟩ := R.body g' q
   exact ⟨h1.mv (by simp; omega) fun b hb => old b (h1.ltV hb) (h3 b hb).2.2 (h3 b hb).2.1, Nat.le_trans h2 (Nat.mul_le_mul_right _ (Nat.le_succ _)), fun b hb => ⟨(h3 b hb).1, (h3 b hb).2.1, fun e => by have := ov b e; have := h1.ltV hb; omega⟩⟩
  ·simp only [List.mem_singleton] at q
   subst q
   rw [hgb, hgv]
   exact ⟨.inl ⟨rfl, 0, rfl⟩, by simp, fun b hb => by cases hb⟩

theorem sBegin {h : LHeap} {rb db : Nat} {FD : Nat → Prop} {v : Value} {l : List GotR} {k : Nat} (R : Rdv h rb db FD v l k) (hk : k ≤ 1000) {x : Itm} {ta : Option Addr} {tn te : Nat} {pa : Option Addr} {pn pe : Nat} (T : BytesAt h (.slice ta tn te) x.text) (hT : ∀ b, blkOf (.slice ta tn te) = some b → ¬ FD b) (hx : x.text.length ≤ 20000) :
  LCalls EC 47 [.pointer (some ⟨rb, 0, none⟩), itV x (.slice ta tn te) (.slice pa pn pe)] h fun u h' => (∃ r : Bool, u = .bool r) ∧ ∃ FD' v' l', Rdv h' rb db FD' v' l' (k + 1) ∧ RStep h h' rb FD FD' v v' := by
 refine LCalls.enter (lf := lf47) rfl rfl (by simp [lf47]) ?_
 have hrlt := R.rlt
 have hcnt := R.cnt
 have ei : itV x (.slice ta tn te) (.slice pa pn pe) = .agg #[.int .i64 (x.ty : Nat), .int .i64 (x.st : Nat), .slice ta tn te, .bool x.fin, .bool x.endh, .bool x.ack, .int .i64 (x.flow : Nat), .int .i64 (x.code : Nat), .int .i64 (x.last : Nat), .int .i64 (x.inc : Nat), .int .i64 (x.dep : Nat), .int .i64 (x.wt : Nat), .bool x.weighed, .bool x.excl, .slice pa pn pe] := rfl
 rw [ei]
 simp only [go_sem, lf47, ↓reduceIte]
 generalize hq : LHeap.push _ _ = h1
 have X1 : Ext h h1 := by rw [← hq]; exact Ext.push _ _
 have i1 : h1.get h.size = some (.cells [.int .i64 (x.ty : Nat), .int .i64 (x.st : Nat), .slice ta tn te, .bool x.fin, .bool x.endh, .bool x.ack, .int .i64 (x.flow : Nat), .int .i64 (x.code : Nat), .int .i64 (x.last : Nat), .int .i64 (x.inc : Nat), .int .i64 (x.dep : Nat), .int .i64 (x.wt : Nat), .bool x.weighed, .bool x.excl, .slice pa pn pe] true true) := by rw [← hq]; simp [Value.cells]
 have s1 : h1.size = h.size + 1 := by rw [← hq]; simp
 clear hq
 have R1 := R.ext X1
 refine MCall.by (sFindG R1.rlt R1.rget R1.gl (by omega) (x.st : Nat)) ?_
 rintro u h2 ⟨hu, X2⟩
 have i2 := (X2.get h.size (by omega)).trans i1
 have R2 := R1.ext X2
 have X12 := X1.trans X2
 have s2 := X2.size
 have stop : ∀ {hh : LHeap}, Ext h2 hh → ∃ FD' v' l', Rdv hh rb db FD' v' l' (k + 1) ∧ RStep h hh rb FD FD' v v' := fun X => ⟨FD, v, l, (R2.ext X).more (by omega), .ext (X12.trans X)⟩
 rcases hu with rfl | ⟨i, b, hi, rfl, rfl⟩
 rotate_left
 ·simp only [go_sem, ↓reduceIte, i2]
  exact ⟨⟨_, rfl⟩, stop (Ext.refl _)⟩
 cases hen : x.endh with
 | false =>
  rw [hen] at i2
  simp only [go_sem, ↓reduceIte, i2]
  exact ⟨⟨_, rfl⟩, stop (Ext.refl _)⟩
 | true =>
  rw [hen] at i2
  simp only [go_sem, ↓reduceIte, i2]
  refine MC.dregion ?_
  simp only [go_sem, ↓reduceIte, i2, R2.rget]
  obtain ⟨d, D2⟩ := R2.dec
  refine MDCall.by (wDecodeB D2 (T.ext X12) hT (by omega) (by omega)) ?_
  rintro u h3 ⟨FD', D3, hFD, K3, ov, e, ls, rfl, L3, hL3, hres⟩
  have s3 := K3.size
  have i3 := (K3.get h.size (by omega) (fun hc => by have := D2.lt hc; have hb := (D2.lt hc); obtain ⟨d0, D0⟩ := R.dec; have := D0.lt hc; omega)).trans i2
  have R3 := R2.dec' K3 ⟨_, D3⟩ hFD
  have st3 : RStep h h3 rb FD FD' v v := .pre X12 (.dec' K3 hFD)
  obtain ⟨wa, wn, we, rfl⟩ : ∃ a n e, ov = .slice a n e := by
   rcases L3 with ⟨_, rfl⟩ | ⟨b, rfl, _⟩ <;> exact ⟨_, _, _, rfl⟩
  by_cases he : e = 0
  rotate_left
  ·have b0 : ((e : Int) != 0) = true := ne_lit' (k := 0) he
   simp only [go_sem, ↓reduceIte, b0]
   exact ⟨⟨_, rfl⟩, FD', v, l, R3.more (by omega), st3⟩
  subst he
  have b0 : (((0 : Nat) : Int) != 0) = false := rfl
  have hsz : lsz ls ≤ 16384 := by
   rcases hres with ⟨_, hok⟩ | ⟨hbad, _⟩
   ·exact decode_bound (Prod.ext rfl hok : M.decode 0 16384 d x.text = ((M.decode 0 16384 d x.text).1, .ok ls))
   ·exact absurd rfl hbad
  have hln := lsz_len ls
  simp only [go_sem, ↓reduceIte, b0]
  refine MCall.by (sBack L3.glV.sl (by omega) (fun y hy => by have := fsz_le hy; unfold fsz at this; omega)) ?_
  rintro u h4 ⟨m, s, p, a, fv, rfl, X4, ⟨fa, fn, fe, rfl⟩, _⟩
  have i4 := (X4.get h.size (by omega)).trans i3
  have R4 := R3.ext X4
  have s4 := X4.size
  have er : reqV m s p a (.slice fa fn fe) (.slice none 0 0) = .agg #[.string m, .string s, .string p, .string a, .slice fa fn fe, .slice none 0 0] := rfl
  have n1 : ¬ rb = h4.size := by have := R4.rlt; omega
  have n2 : ¬ h.size = h4.size := by omega
  simp only [go_sem, ↓reduceIte, er, i4, n1, n2]
  generalize hq : LHeap.set _ h4.size _ = h5
  have X5 : Ext h4 h5 := by rw [← hq]; exact (Ext.push _ _).set (Nat.le_refl _) _
  have q5 : h5.get h4.size = some (.cells [.string m, .string s, .string p, .string a, .slice fa fn fe, .slice none 0 0] true true) := by rw [← hq]; simp
  have s5 : h5.size = h4.size + 1 := by rw [← hq]; simp
  clear hq
  have i5 := (X5.get h.size (by omega)).trans i4
  have R5 := R4.ext X5
  obtain ⟨v6, h6, e6, G6, s6, o6, w6⟩ := gl_append gtc_cel (by' := 128) (q := EC.q) R5.gl (⟨(x.st : Nat), m, s, p, a, (fa, fn, fe), (none, 0, 0), [], x.fin, false⟩ : GotR) (by omega) (by omega)
  simp only [gtc] at e6
  obtain ⟨va6, vn6, ve6, rfl⟩ := G6.shape
  obtain ⟨R6, st6⟩ := R5.push ⟨(x.st : Nat), m, s, p, a, (fa, fn, fe), (none, 0, 0), [], x.fin, false⟩ rfl rfl s6 G6 o6 w6
  have hrp : h6.get rb = some (.cells [v, .pointer (some ⟨db, 0, none⟩)] true true) := (o6 rb R5.rlt (fun e => (R5.nvF rb e).2 rfl)).trans R5.rget
  have gp : (h5.push (.cells [.int .i64 (x.st : Nat), .string m, .string s, .string p, .string a, .slice fa fn fe, .slice none 0 0, .bool x.fin, .bool false] true true)).get rb = some (.cells [v, .pointer (some ⟨db, 0, none⟩)] true true) := by
   rw [LHeap.get_push, if_neg (by have := R5.rlt; omega)]; exact R5.rget
  have n5 : ¬ rb = h5.size := by have := R5.rlt; omega
  refine MC.dregion ?_
  have hvv : veq v v = true := by
   obtain ⟨a, n, e, rfl⟩ := R.gl.shape
   simp [veq]
  simp only [go_sem, ↓reduceIte, i5, q5, R5.rget, gp, n5, lfill, hvv, e6, hrp]
  exact ⟨⟨_, rfl⟩, FD', _, _, R6, ⟨by have := st6.size; have := st3.size; omega, fun b hb h1 h2 h3 => by
   have z1 := st3.get b hb h1 h2 h3
   have z2 : b < h5.size := by omega
   have z3 : ¬ FD' b := fun hc => by
    rcases st3.fd b hc with q | q
    ·exact h1 q
    ·omega
   exact (st6.get b z2 z3 h2 h3).trans ((X5.get b (by omega)).trans ((X4.get b (by omega)).trans z1)), st3.fd, fun b hb => .inr (by have := w6 b hb; omega)⟩⟩
end Go.E1

/-
 ViewRefuses: a frame is read.
-/
namespace Go.E1
open Go Go.Proofs Go.M
set_option linter.unusedSimpArgs false

/-- A request of the list is changed. -/
theorem Rdv.put {h : LHeap} {rb db b : Nat} {FD : Nat → Prop} {l : List GotR} {k i j : Nat} {g g' : GotR} {x : Value} (R : Rdv h rb db FD (.slice (some ⟨b, 0, none⟩) l.length 9) l k) (hg : l[i]? = some g) (hj : j < 9) (hc : gtc g' = (gtc g).set j x)
  (hb : BytesAt h (slV g'.bv) g'.body ∧ g'.body.length ≤ k * 1000 ∧ ∀ c, blkOf (slV g'.bv) = some c → ¬ FD c ∧ c ≠ rb ∧ b ≠ c) :
  Rdv (h.set b (.cells ((l.flatMap gtc).set (i * 9 + j) x) true true)) rb db FD (.slice (some ⟨b, 0, none⟩) (l.set i g').length 9) (l.set i g') k ∧
   RStep h (h.set b (.cells ((l.flatMap gtc).set (i * 9 + j) x) true true)) rb FD FD (.slice (some ⟨b, 0, none⟩) l.length 9) (.slice (some ⟨b, 0, none⟩) (l.set i g').length 9) := by
 have hlt : b < h.size := (R.gl.blk rfl).1
 have hnr : b ≠ rb := (R.nvF b rfl).2
 have hnF : ¬ FD b := (R.nvF b rfl).1
 have old : ∀ c, c ≠ b → (h.set b (.cells ((l.flatMap gtc).set (i * 9 + j) x) true true)).get c = h.get c := fun c hc => by simp [hc]
 refine ⟨⟨by simp; exact R.rlt, ?_, ?_, ?_, R.nrF, fun c hc => by cases hc; exact ⟨hnF, hnr⟩, ?_, by rw [List.length_set]; exact R.cnt⟩, ⟨by simp, fun c _ _ _ hc => old c (fun e => hc (by rw [e]; rfl)), fun c hc => .inl hc, fun c hc => .inl hc⟩⟩
 ·rw [old rb (Ne.symm hnr), R.rget, List.length_set]
 ·obtain ⟨d, D⟩ := R.dec
  exact ⟨d, D.keep (G := fun c => c = b) ⟨by simp, fun c _ hn => old c hn⟩ fun c hc e => hnF (by rw [← e]; exact hc)⟩
 ·refine .inr ⟨b, rfl, by simp; exact hlt, ?_⟩
  rw [gtc_cel.flat_set hg hj hc]
  simp
 ·intro g2 hg2
  rcases List.mem_or_eq_of_mem_set hg2 with q | rfl
  ·obtain ⟨h1, h2, h3⟩ := R.body g2 q
   exact ⟨h1.mv (by simp) fun c hc => old c fun e => (h3 c hc).2.2 (by rw [e]; rfl), h2, fun c hc => ⟨(h3 c hc).1, (h3 c hc).2.1, fun e => (h3 c hc).2.2 (by cases e; rfl)⟩⟩
  ·obtain ⟨h1, h2, h3⟩ := hb
   exact ⟨h1.mv (by simp) fun c hc => old c fun e => (h3 c hc).2.2 e.symm, h2, fun c hc => ⟨(h3 c hc).1, (h3 c hc).2.1, fun e => (h3 c hc).2.2 (by cases e; rfl)⟩⟩

theorem RStep.trans {h h1 h2 : LHeap} {rb : Nat} {F F1 F2 : Nat → Prop} {v v1 v2 : Value} (a : RStep h h1 rb F F1 v v1) (c : RStep h1 h2 rb F1 F2 v1 v2) : RStep h h2 rb F F2 v v2 :=
 ⟨Nat.le_trans a.size c.size, fun b hb n1 n2 n3 => (c.get b (Nat.lt_of_lt_of_le hb a.size) (fun q => (a.fd b q).elim n1 fun z => absurd hb (Nat.not_lt.2 z)) n2 fun q => (a.nv b q).elim n3 fun z => absurd hb (Nat.not_lt.2 z)).trans (a.get b hb n1 n2 n3),
  fun b q => (c.fd b q).elim (a.fd b) fun z => .inr (Nat.le_trans a.size z), fun b q => (c.nv b q).elim (a.nv b) fun z => .inr (Nat.le_trans a.size z)⟩
theorem sReadG {h : LHeap} {rb db : Nat} {FD : Nat → Prop} {v : Value} {l : List GotR} {k : Nat} (R : Rdv h rb db FD v l k) (hk : k ≤ 900) {f : Frm} {fa : Option Addr} {fn fe : Nat} (T : BytesAt h (.slice fa fn fe) f.pl) (hT : ∀ b, blkOf (.slice fa fn fe) = some b → ¬ FD b ∧ b ≠ rb ∧ blkOf v ≠ some b) (hf : f.fl < 256) (hx : f.pl.length ≤ 1000) :
  LCalls EC 24 [.pointer (some ⟨rb, 0, none⟩), .agg #[.int .i64 (f.ty : Nat), .int .i64 (f.fl : Nat), .int .i64 (f.st : Nat), .slice fa fn fe]] h fun u h' => (∃ r : Bool, u = .bool r) ∧ ∃ FD' v' l', Rdv h' rb db FD' v' l' (k + 1) ∧ RStep h h' rb FD FD' v v' := by
 refine LCalls.enter (lf := lf24) rfl rfl (by simp [lf24]) ?_
 have hrlt := R.rlt
 have hcnt := R.cnt
 simp only [go_sem, lf24, ↓reduceIte]
 generalize hq : LHeap.push _ _ = h1
 have X1 : Ext h h1 := by rw [← hq]; exact Ext.push _ _
 have i1 : h1.get h.size = some (.cells [.int .i64 (f.ty : Nat), .int .i64 (f.fl : Nat), .int .i64 (f.st : Nat), .slice fa fn fe] true true) := by rw [← hq]; simp [Value.cells]
 have s1 : h1.size = h.size + 1 := by rw [← hq]; simp
 clear hq
 refine MCall.by (sParseI (T.ext X1) (by omega) (by omega)) ?_
 rintro u h2 ⟨tv, pv, rfl, T2, hTv, P2, hPv, X2⟩
 have s2 := X2.size
 obtain ⟨ta, tn, te, rfl⟩ := T2.shape
 obtain ⟨pa, pn, pe, rfl⟩ := P2.shape
 have hlen := parseI_len f
 generalize (parseI f).1 = x at T2 P2 hlen
 generalize (parseI f).2 = z
 obtain ⟨z1, z2⟩ := z
 have ei : itV x (.slice ta tn te) (.slice pa pn pe) = .agg #[.int .i64 (x.ty : Nat), .int .i64 (x.st : Nat), .slice ta tn te, .bool x.fin, .bool x.endh, .bool x.ack, .int .i64 (x.flow : Nat), .int .i64 (x.code : Nat), .int .i64 (x.last : Nat), .int .i64 (x.inc : Nat), .int .i64 (x.dep : Nat), .int .i64 (x.wt : Nat), .bool x.weighed, .bool x.excl, .slice pa pn pe] := rfl
 have n1 : ¬ h2.size = h2.size + 1 := by omega
 have n1' : ¬ h2.size + 1 = h2.size := by omega
 simp only [go_sem, ↓reduceIte, ei, fltV, n1, n1']
 generalize hq : LHeap.set _ (h2.size + 1) _ = h3
 have X3 : Ext h2 h3 := by rw [← hq]; exact (((Ext.push _ _).trans (Ext.push _ _)).set (Nat.le_refl _) _).set (by omega) _
 have s3 : h3.size = h2.size + 2 := by rw [← hq]; simp
 have i3 : h3.get h2.size = some (.cells [.int .i64 (x.ty : Nat), .int .i64 (x.st : Nat), .slice ta tn te, .bool x.fin, .bool x.endh, .bool x.ack, .int .i64 (x.flow : Nat), .int .i64 (x.code : Nat), .int .i64 (x.last : Nat), .int .i64 (x.inc : Nat), .int .i64 (x.dep : Nat), .int .i64 (x.wt : Nat), .bool x.weighed, .bool x.excl, .slice pa pn pe] true true) := by rw [← hq]; simp [n1]
 have z3 : h3.get (h2.size + 1) = some (.cells [.int .i64 (z1 : Nat), .bool z2] true true) := by rw [← hq]; simp
 clear hq
 refine MCall.by (sOKF (z1, z2)) ?_
 rintro u h4 ⟨rfl, X4⟩
 have i4 := (X4.get h2.size (by omega)).trans i3
 have s4 := X4.size
 have X04 := ((X1.trans X2).trans X3).trans X4
 have R4 := R.ext X04
 have T4 := T2.ext (X3.trans X4)
 have hT4 : ∀ b, blkOf (.slice ta tn te) = some b → ¬ FD b ∧ b ≠ rb ∧ blkOf v ≠ some b := fun b hb => by
  have := hTv b hb
  refine ⟨fun hc => ?_, by omega, fun e => ?_⟩
  ·obtain ⟨d, D⟩ := R.dec; have := D.lt hc; omega
  ·have := (R.gl.blk e).1; omega
 have stop : ∀ {hh : LHeap}, Ext h4 hh → ∃ FD' v' l', Rdv hh rb db FD' v' l' (k + 1) ∧ RStep h hh rb FD FD' v v' := fun X => ⟨FD, v, l, (R4.ext X).more (by omega), .ext (X04.trans X)⟩
 by_cases hz : (z1, z2) = okF
 rotate_left
 ·simp only [hz, decide_false, go_sem, ↓reduceIte]
  exact ⟨⟨_, rfl⟩, stop (Ext.refl _)⟩
 simp only [hz, decide_true, go_sem, ↓reduceIte, i4]
 by_cases t1 : x.ty = 1
 ·have b1 : ((x.ty : Int) == 1) = true := beq_iff_eq.2 (by omega)
  simp only [go_sem, ↓reduceIte, b1, i4]
  rw [← ei]
  refine MCall.by (sBegin R4 (by omega) T4 (fun b hb => (hT4 b hb).1) (by omega)) ?_
  rintro u h5 ⟨⟨r, rfl⟩, FD', v', l', R5, st5⟩
  simp only [go_sem, ↓reduceIte]
  exact ⟨⟨_, rfl⟩, FD', v', l', R5, st5.pre X04⟩
 have b1 : ((x.ty : Int) == 1) = false := beq_eq_false_iff_ne.2 (by omega)
 by_cases t0 : x.ty = 0
 ·have b0 : ((x.ty : Int) == 0) = true := beq_iff_eq.2 (by omega)
  simp only [go_sem, ↓reduceIte, b1, b0, i4]
  refine MCall.by (sFindG R4.rlt R4.rget R4.gl (by omega) (x.st : Nat)) ?_
  rintro u h5 ⟨hu, X5⟩
  have i5 := (X5.get h2.size (by omega)).trans i4
  have R5 := R4.ext X5
  have T5 := T4.ext X5
  have s5 := X5.size
  rcases hu with rfl | ⟨i, b, hi, rfl, rfl⟩
  ·simp only [go_sem, ↓reduceIte]
   exact ⟨⟨_, rfl⟩, stop X5⟩
  ·obtain ⟨g, hg⟩ : ∃ g, l[i]? = some g := ⟨l[i], by simp [hi]⟩
   obtain ⟨hb5, _, gb⟩ := R5.gl.blk rfl
   have hbh : b < h.size := (R.gl.blk rfl).1
   have c7 := gtc_cel.cell (j := 7) hg (by omega)
   simp only [gtc, List.getElem?_cons_succ, List.getElem?_cons_zero] at c7
   have c6 := gtc_cel.cell (j := 6) hg (by omega)
   simp only [gtc, List.getElem?_cons_succ, List.getElem?_cons_zero] at c6
   cases hw : g.whole with
   | true =>
    rw [hw] at c7
    simp only [go_sem, ↓reduceIte, gb, c7]
    exact ⟨⟨_, rfl⟩, stop X5⟩
   | false =>
    rw [hw] at c7
    simp only [go_sem, ↓reduceIte, gb, c7]
    refine MC.dregion ?_
    obtain ⟨B1, B2, B3⟩ := R5.body g (List.mem_of_getElem? hg)
    have e65 : i * 9 + 1 + 5 = i * 9 + 6 := by omega
    simp only [go_sem, ↓reduceIte, gb, i5, e65, c6, lfill]
    generalize hq : LHeap.push _ _ = h6
    have X6 : Ext h5 h6 := by rw [← hq]; exact Ext.push _ _
    have q6 : h6.get h5.size = some (.cells [.slice g.bv.1 g.bv.2.1 g.bv.2.2, .slice ta tn te] true true) := by rw [← hq]; simp
    have s6 : h6.size = h5.size + 1 := by rw [← hq]; simp
    clear hq
    have BL6 : BLB h6 (.slice (some ⟨h5.size, 0, none⟩) 2 1) [g.body, x.text] := .inr ⟨h5.size, _, true, true, rfl, by omega, q6, rfl, fun j u y hu hy => by
     match j with
     | 0 => simp only [List.getElem?_cons_zero, Option.some.injEq] at hu hy; subst hu hy; exact B1.ext X6
     | 1 => simp only [List.getElem?_cons_succ, List.getElem?_cons_zero, Option.some.injEq] at hu hy; subst hu hy; exact T5.ext X6
     | j + 2 => simp at hu⟩
    have hbl : ([g.body, x.text] : List Bytes).flatten.length = g.body.length + x.text.length := by simp
    refine MDCall.by (sConcat BL6 (by rw [hbl]; have : k * 1000 ≤ 900 * 1000 := Nat.mul_le_mul_right _ hk; omega) (by simp)) ?_
    rintro u h7 ⟨O7, X7⟩
    have R7 := (R5.ext X6).ext X7
    have s7 := X7.size
    obtain ⟨_, _, gb7⟩ := R7.gl.blk rfl
    obtain ⟨oa, on, oe, rfl⟩ := O7.bytes.shape
    have hcl := gtc_cel.flat_len l
    have hil : i * 9 + 9 ≤ l.length * 9 := by omega
    have one : ∀ y : Value, [y].length = 1 := fun _ => rfl
    have k6 : i * 9 + 6 + 1 ≤ (l.flatMap gtc).length := by omega
    obtain ⟨R8, st8⟩ := (R7.more (k' := k + 1) (by omega)).put (j := 6) (x := .slice oa on oe) (g' := { g with bv := (oa, on, oe), body := [g.body, x.text].flatten }) hg (by omega) rfl ⟨O7.bytes, by rw [hbl, Nat.add_mul]; omega, fun c hc => by
     have := (O7.ltV hc).1
     refine ⟨fun hF => ?_, by have := R5.rlt; omega, by have := X04.size; omega⟩
     obtain ⟨d, D⟩ := R5.dec; have := D.lt hF; omega⟩
    have hg8 : (l.set i { g with bv := (oa, on, oe), body := [g.body, x.text].flatten })[i]? = some { g with bv := (oa, on, oe), body := [g.body, x.text].flatten } := by simp [hi]
    have i7 := ((X6.trans X7).get h2.size (by omega)).trans i5
    obtain ⟨_, _, gb8⟩ := R8.gl.blk rfl
    obtain ⟨R9, st9⟩ := R8.put (j := 7) (x := .bool x.fin) (g' := { g with bv := (oa, on, oe), body := [g.body, x.text].flatten, whole := x.fin }) hg8 (by omega) rfl (R8.body _ (List.mem_of_getElem? hg8) |> fun ⟨z1, z2, z3⟩ => ⟨z1, z2, fun c hc => ⟨(z3 c hc).1, (z3 c hc).2.1, fun e => (z3 c hc).2.2 (by rw [e]; rfl)⟩⟩)
    have nb : ¬ h2.size = b := by omega
    simp only [go_sem, ↓reduceIte, e65, gb7, i7, nb, k6, splice, List.length_singleton]
    have sp6 := splice_one (l := l.flatMap gtc) (n := i * 9 + 6) (x := Value.slice oa on oe) (by omega)
    have e8 := gtc_cel.flat_set (j := 6) (x := .slice oa on oe) (g' := { g with bv := (oa, on, oe), body := [g.body, x.text].flatten }) hg (by omega) rfl
    have k7 : i * 9 + 7 + 1 ≤ ((l.set i { g with bv := (oa, on, oe), body := [g.body, x.text].flatten }).flatMap gtc).length := by rw [gtc_cel.flat_len, List.length_set]; omega
    rw [e8] at R9 st9 st8
    rw [sp6, e8]
    simp only [k7, ↓reduceIte, go_sem]
    rw [splice_one k7]
    exact ⟨⟨_, rfl⟩, FD, _, _, R9, ((st8.trans st9).pre (X5.trans (X6.trans X7))).pre X04⟩
 have b0 : ((x.ty : Int) == 0) = false := beq_eq_false_iff_ne.2 (by omega)
 by_cases t3 : x.ty = 3
 ·have b3 : ((x.ty : Int) == 3) = true := beq_iff_eq.2 (by omega)
  simp only [go_sem, ↓reduceIte, b1, b0, b3, i4]
  refine MCall.by (sFindG R4.rlt R4.rget R4.gl (by omega) (x.st : Nat)) ?_
  rintro u h5 ⟨hu, X5⟩
  have R5 := R4.ext X5
  rcases hu with rfl | ⟨i, b, hi, rfl, rfl⟩
  ·simp only [go_sem, ↓reduceIte]
   exact ⟨⟨_, rfl⟩, stop X5⟩
  ·obtain ⟨g, hg⟩ : ∃ g, l[i]? = some g := ⟨l[i], by simp [hi]⟩
   obtain ⟨hb5, _, gb⟩ := R5.gl.blk rfl
   have hbh : b < h.size := (R.gl.blk rfl).1
   have hcl := gtc_cel.flat_len l
   have k8 : i * 9 + 8 + 1 ≤ (l.flatMap gtc).length := by omega
   obtain ⟨R9, st9⟩ := (R5.more (k' := k + 1) (by omega)).put (j := 8) (x := .bool true) (g' := { g with reset := true }) hg (by omega) rfl (R5.body _ (List.mem_of_getElem? hg) |> fun ⟨z1, z2, z3⟩ => ⟨z1, Nat.le_trans z2 (Nat.mul_le_mul_right _ (Nat.le_succ _)), fun c hc => ⟨(z3 c hc).1, (z3 c hc).2.1, fun e => (z3 c hc).2.2 (by rw [e]; rfl)⟩⟩)
   simp only [go_sem, ↓reduceIte, gb, k8, splice, List.length_singleton]
   rw [splice_one k8]
   exact ⟨⟨_, rfl⟩, FD, _, _, R9, (st9.pre X5).pre X04⟩
 ·have b3 : ((x.ty : Int) == 3) = false := beq_eq_false_iff_ne.2 (by omega)
  simp only [go_sem, ↓reduceIte, b1, b0, b3]
  exact ⟨⟨_, rfl⟩, stop (Ext.refl _)⟩
end Go.E1

/-
 ViewRefuses: the requests of any bytes; the law.
-/
namespace Go.E1
open Go Go.Proofs Go.M
set_option linter.unusedSimpArgs false

theorem BytesAt.strV {q : EqF} {h : LHeap} {v : Value} {l : Bytes} (a : BytesAt h v l) : lexec q (.bytesStr v) h = some (.string (toBA l), h) := by
 rcases a with ⟨rfl, c, rfl⟩ | ⟨b, o, cs, t, r, rfl, h1, h2, h3, h4⟩
 ·simp [lexec, toBA]
 ·have e : (if l.length = 0 then some [] else h.loadCells b o l.length) = some (bv l) := by
   by_cases h0 : l.length = 0
   ·rw [if_pos h0, List.length_eq_zero_iff.1 h0]; rfl
   ·rw [if_neg h0]
    simp only [LHeap.loadCells, h2, h3, if_true, h4]
  simp only [lexec, e, bytesOf_bv, Option.map_some, toBA]
theorem sEqBytesV {h : LHeap} {v w : Value} {l k : Bytes} (A : BytesAt h v l) (B : BytesAt h w k) : LCalls EC 29 [v, w] h fun u h' => (∃ r : Bool, u = .bool r ∧ (r = true ↔ l = k)) ∧ h' = h := by
 refine LCalls.enter (lf := lf29) rfl rfl (by simp [lf29]) ?_
 have e1 := A.strV (q := EC.q)
 have e2 := B.strV (q := EC.q)
 simp only [go_sem, lf29, ↓reduceIte, e1, e2]
 exact ⟨_, rfl, by simp [toBA]⟩

theorem sCutPrefix {h : LHeap} {a b : Option Addr} {na ea nb eb : Nat} {l k : Bytes} (A : BytesAt h (.slice a na ea) l) (B : BytesAt h (.slice b nb eb) k) :
  LCalls EC 21 [.slice a na ea, .slice b nb eb] h fun u h' => ((u = .tuple #[.slice a na ea, .bool false] ∧ l.take k.length ≠ k) ∨ ∃ w, u = .tuple #[w, .bool true] ∧ l.take k.length = k ∧ BytesAt h' w (l.drop k.length)) ∧ h' = h := by
 refine LCalls.enter (lf := lf21) rfl rfl (by simp [lf21]) ?_
 obtain rfl := A.len2V
 obtain rfl := B.len2V
 simp only [go_sem, lf21, ↓reduceIte]
 refine MCall.by (R := fun u h' => (∃ r : Bool, u = .bool r ∧ (r = true ↔ l.take k.length = k)) ∧ h' = h) ?_ ?_
 ·refine LCalls.enter (lf := lf41) rfl rfl (by simp [lf41]) ?_
  by_cases hle : k.length ≤ l.length
  ·have d : (k.length : Int) ≤ (l.length : Int) := by omega
   obtain ⟨w, hw, W, _⟩ := ba_hi (q := EC.q) A hle (k := .i64)
   simp only [go_sem, lf41, ↓reduceIte, d, decide_true, hw]
   refine MCall.by (sEqBytesV W B) ?_
   rintro u h2 ⟨⟨r, rfl, hr⟩, rfl⟩
   simp only [go_sem, ↓reduceIte]
   exact ⟨_, rfl, hr⟩
  ·have d : ¬ (k.length : Int) ≤ (l.length : Int) := by omega
   simp only [go_sem, lf41, ↓reduceIte, d, decide_false]
   exact ⟨_, rfl, fun h => (by cases h), fun e => absurd (congrArg List.length e) (by rw [List.length_take]; omega)⟩
 ·rintro u h2 ⟨⟨r, rfl, hr⟩, rfl⟩
  cases r with
  | false =>
   simp only [go_sem, ↓reduceIte]
   exact .inl fun e => by have := hr.2 e; cases this
  | true =>
   have hk := hr.1 rfl
   have hle : k.length ≤ l.length := by
    have := congrArg List.length hk
    rw [List.length_take] at this; omega
   obtain ⟨w, hw, W, _⟩ := ba_lo (q := EC.q) A hle (k := .i64)
   simp only [go_sem, ↓reduceIte, hw]
   exact .inr ⟨w, rfl, hk, W⟩

def prefBB : Bytes := prefB
theorem pref_len : prefBB.length = 45 := rfl
theorem pref_bv : prefV = bv prefBB := rfl
theorem allB_nil : M.allB [] = some ([], []) := rfl

theorem sRequests {h : LHeap} {v : Value} {l : List OutR} (S : SL 8 oc h v l) (hb : ∀ r ∈ l, OutOk h r) (hs : sumO l ≤ 900) :
  LCalls EC 13 [v] h fun u h' => (∃ gv, (u = .tuple #[gv, .int .i64 10] ∧ outsB l ≠ prefBB) ∨ (u = .tuple #[gv, .int .i64 0] ∧ (outsB l).take 45 = prefBB ∧ (outsB l = prefBB → gv = .slice none 0 0))) ∧ Ext h h' := by
 have hol := outs_le l
 refine LCalls.enter (lf := lf13) rfl rfl (by simp [lf13]) ?_
 simp only [go_sem, lf13, ↓reduceIte]
 refine MCall.by (sVBytes S hb (by omega)) ?_
 rintro u h1 ⟨O1, X1⟩
 obtain ⟨oa, on, oe, rfl⟩ := O1.bytes.shape
 simp only [go_sem, ↓reduceIte]
 generalize hq : LHeap.push _ _ = h2
 have X2 : Ext h1 h2 := by rw [← hq]; exact Ext.push _ _
 have p2 : h2.get h1.size = some (.cells prefV true true) := by rw [← hq]; simp
 have s2 : h2.size = h1.size + 1 := by rw [← hq]; simp
 clear hq
 have P2 : BytesAt h2 (.slice (some ⟨h1.size, 0, none⟩) 45 1) prefBB := .inr ⟨h1.size, 0, _, true, true, rfl, by omega, p2, by rw [pref_bv, bv_len]; omega, by rw [pref_bv, List.drop_zero, ← bv_len, List.take_length]⟩
 have X12 := X1.trans X2
 refine MCall.by (sCutPrefix (O1.bytes.ext X2) P2) ?_
 rintro u h3 ⟨hu, rfl⟩
 rw [pref_len] at hu
 rcases hu with ⟨rfl, hno⟩ | ⟨w, rfl, hyes, W⟩
 ·simp only [go_sem, ↓reduceIte]
  exact ⟨⟨_, .inl ⟨rfl, fun e => hno (by rw [e]; rfl)⟩⟩, X12⟩
 simp only [go_sem, ↓reduceIte]
 have hrl : ((outsB l).drop 45).length ≤ 900 := by rw [List.length_drop]; omega
 refine MCall.by (sAllF W (by omega)) ?_
 rintro u h4 ⟨Q, X4⟩
 have X14 := X12.trans X4
 have hnil : outsB l = prefBB → (outsB l).drop 45 = [] := fun e => by rw [e]; rfl
 cases hall : M.allB ((outsB l).drop 45) with
 | none =>
  rw [hall] at Q
  have Q' : u = .tuple #[.slice none 0 0, .slice none 0 0, .int .i64 106] := Q
  subst Q'
  have b0 : ((106 : Int) != 0) = true := rfl
  simp only [go_sem, ↓reduceIte, b0]
  exact ⟨⟨_, .inl ⟨rfl, fun e => by rw [hnil e, allB_nil] at hall; cases hall⟩⟩, X14⟩
 | some p =>
  obtain ⟨fs, rest⟩ := p
  rw [hall] at Q
  obtain ⟨ov, rv, ps, rfl, F, RV⟩ := Q
  obtain ⟨hlen, _, hfr⟩ := allB_spec _ _ fs rest (Nat.le_refl _) hall
  have hps : ps.length = fs.length := by rw [← F.fst, List.length_map]
  have eR := fun hh => RV.bytes.len (q := EC.q) (h := hh)
  have eL := fun hh => F.gl.len (q := EC.q) (h := hh)
  have b0 : ((0 : Int) != 0) = false := rfl
  by_cases hr0 : 0 < rest.length
  ·have d : (0 : Int) < (rest.length : Int) := by omega
   simp only [go_sem, ↓reduceIte, b0, eR, d, decide_true]
   exact ⟨⟨_, .inl ⟨rfl, fun e => by rw [hnil e, allB_nil] at hall; cases hall; simp at hr0⟩⟩, X14⟩
  ·have d : ¬ (0 : Int) < (rest.length : Int) := by omega
   simp only [go_sem, ↓reduceIte, b0, eR, d, decide_false, lfill]
   generalize hq : LHeap.push _ _ = h5
   have X5 : Ext h4 h5 := by rw [← hq]; exact Ext.push _ _
   have r5 : h5.get h4.size = some (.cells [.slice none 0 0, .pointer none] true true) := by rw [← hq]; simp [Value.cells]
   have s5 : h5.size = h4.size + 1 := by rw [← hq]; simp
   clear hq
   refine MCall.by (wNew (most := 0) (bound := 16384) (by omega) (by omega)) ?_
   rintro u h6 ⟨db, FD, rfl, D6, X6, hFD⟩
   have r6 := (X6.get h4.size (by omega)).trans r5
   have s6 := X6.size
   simp only [go_sem, ↓reduceIte, r6]
   generalize hq : LHeap.set _ h4.size _ = h7
   have X7 : Ext h4 h7 := by rw [← hq]; exact (X5.trans X6).set (Nat.le_refl _) _
   have s7 : h7.size = h6.size := by rw [← hq]; simp
   have r7 : h7.get h4.size = some (.cells [.slice none 0 0, .pointer (some ⟨db, 0, none⟩)] true true) := by rw [← hq]; simp
   have D7 : DW h7 db ⟨⟨[], 0⟩, false⟩ 0 16384 FD := D6.keep (G := fun c => c = h4.size) ⟨by rw [← hq]; simp, fun b hb hn => by rw [← hq]; simp [show b ≠ h4.size from hn]⟩ fun c hc e => by have := hFD c hc; omega
   clear hq
   have R7 : Rdv h7 h4.size db FD (.slice none 0 0) [] 0 := ⟨by omega, r7, ⟨_, D7⟩, .nil, fun hc => by have := hFD _ hc; omega, fun b hb => (by cases hb), fun g hg => (by cases hg), Nat.le_refl _⟩
   simp only [go_sem, ↓reduceIte, eL]
   refine MC.loop (fun m fr hh => ∃ i FDi vi li, m = ps.length - i ∧ i ≤ ps.length ∧ fr = [(9, .pointer (some ⟨h4.size, 0, none⟩)), (43, ov), (44, .int .i64 (ps.length : Nat)), (45, .int .i64 (i : Nat))] ∧ Ext h4 hh ∧ Rdv hh h4.size db FDi vi li i ∧ (∀ c, FDi c → h4.size < c) ∧ (∀ b, blkOf vi = some b → h4.size < b) ∧ (i = 0 → vi = .slice none 0 0)) ps.length
    ⟨0, FD, _, [], rfl, Nat.zero_le _, rfl, X7, R7, fun c hc => by have := hFD c hc; omega, fun b hb => (by cases hb), fun _ => rfl⟩ ?_
   rintro m fr hh J ⟨i, FDi, vi, li, rfl, hi, rfl, X, R, hF, hv, hz⟩ hJ
   by_cases hlt : i < ps.length
   ·obtain ⟨p, hp⟩ : ∃ p, ps[i]? = some p := ⟨ps[i], by simp [hlt]⟩
    obtain ⟨b, rfl, g1, g2⟩ := F.gl.at hp
    obtain ⟨k1, k2⟩ := frc_cel.get hp
    obtain ⟨hpay, _⟩ := F.pay p (List.mem_of_getElem? hp)
    have hfi : p.1 ∈ fs := by rw [← F.fst]; exact List.mem_map_of_mem (List.mem_of_getElem? hp)
    obtain ⟨hf1, hf2, hf3, hf4⟩ := hfr p.1 hfi
    have hpl := allB_pl _ _ fs rest (Nat.le_refl _) hall p.1 hfi
    obtain ⟨f, pa, pn, pe⟩ := p
    simp only [frc] at k1
    simp only [slV] at hpay
    simp only at hf1 hf2 hf3 hf4 hpl
    have d0 : (0 : Int) ≤ (i : Int) := by omega
    have d1 : (i : Int) < (ps.length : Int) := by omega
    have hg := (X.get _ g1).trans g2
    have hnb : ¬ b = hh.size := by have := X.size; omega
    have w3 : IntKind.i64.wrap ((i : Int) + 1) = ((i + 1 : Nat) : Int) := by rw [IntWalk.i64_in _ (by omega)]; omega
    simp only [go_sem, ↓reduceIte, d0, d1, Int.toNat_natCast, hg, k1, k2, hnb]
    generalize hq : LHeap.set _ hh.size _ = h8
    have X8 : Ext hh h8 := by rw [← hq]; exact (Ext.push _ _).set (Nat.le_refl _) _
    clear hq
    have hlo : ∀ c, blkOf (Value.slice pa pn pe) = some c → c < h4.size := fun c hc => (hpay.lt hc).2
    refine MCall.by (sReadG (R.ext X8) (by omega) ((hpay.bytes.ext X).ext X8) (fun c hc => ⟨fun q => by have := hF c q; have := hlo c hc; omega, by have := hlo c hc; omega, fun e => by have := hv c e; have := hlo c hc; omega⟩) hf2 (by omega)) ?_
    rintro u h9 ⟨⟨r, rfl⟩, FD', v', l', R9, st9⟩
    have X9 : Ext h4 h9 := ⟨by have := X.size; have := X8.size; have := st9.size; omega, fun c hc => (st9.get c (by have := X.size; have := X8.size; omega) (fun q => by have := hF c q; omega) (by omega) (fun e => by have := hv c e; omega)).trans ((X8.get c (by have := X.size; omega)).trans (X.get c hc))⟩
    cases r with
    | false =>
     simp only [go_sem, ↓reduceIte]
     exact ⟨⟨_, .inl ⟨rfl, fun e => by
      rw [hnil e, allB_nil] at hall
      cases hall
      rw [List.length_nil] at hps
      omega⟩⟩, X14.trans X9⟩
    | true =>
     simp only [go_sem, ↓reduceIte, w3]
     exact hJ _ _ _ (by omega) ⟨i + 1, FD', v', l', rfl, by omega, rfl, X9, R9, fun c hc => by
      have := X.size; have := X8.size
      rcases st9.fd c hc with q | q
      ·exact hF c q
      ·have := R.rlt; omega, fun c hc => by
      have := X.size; have := X8.size
      rcases st9.nv c hc with q | q
      ·exact hv c q
      ·have := R.rlt; omega, fun e => by omega⟩
   ·have d1 : ¬ (i : Int) < (ps.length : Int) := by omega
    have g9 := R.rget
    simp only [go_sem, ↓reduceIte, d1, g9]
    refine ⟨⟨_, .inr ⟨rfl, hyes, fun e => ?_⟩⟩, X14.trans X⟩
    refine hz ?_
    rw [hnil e, allB_nil] at hall
    cases hall
    rw [List.length_nil] at hps
    omega

theorem x_maxV {q : EqF} {h : LHeap} {k : IntKind} {a b : Int} : lexec q (.minmax true [.int k a, .int k b]) h = some (.int k (max a b), h) := by
 have e : (if b > a then b else a) = max a b := by split <;> omega
 simp [lexec, e]
theorem x_minV {q : EqF} {h : LHeap} {k : IntKind} {a b : Int} : lexec q (.minmax false [.int k a, .int k b]) h = some (.int k (min a b), h) := by
 have e : (if b < a then b else a) = min a b := by split <;> omega
 simp [lexec, e]
theorem oneOut {h : LHeap} {b : Nat} (x : OutR) (g : h.get b = some (.cells (oc x) true true)) (hb : b < h.size) : SL 8 oc h (.slice (some ⟨b, 0, none⟩) 1 8) [x] :=
 .inr ⟨b, true, true, rfl, hb, by rw [g]; simp⟩

theorem sViewRefuses {h : LHeap} {a : Option Addr} {n e : Nat} {l : Bytes} (B : BytesAt h (.slice a n e) l) (cut : Int) :
  LCalls EC 4 [.slice a n e, .int .i64 cut] h fun u _ => u = .bool true := by
 refine LCalls.enter (lf := lf4) rfl rfl (by simp [lf4]) ?_
 obtain rfl := B.len2V
 by_cases c1 : (500 : Int) < (l.length : Int)
 ·simp only [go_sem, lf4, ↓reduceIte, c1, decide_true]
 simp only [go_sem, lf4, ↓reduceIte, c1, decide_false, lfill]
 generalize hq : LHeap.push _ _ = h1
 have X1 : Ext h h1 := by rw [← hq]; exact Ext.push _ _
 have o1 : h1.get h.size = some (.cells (oc ⟨0, (none, 0, 0), [], (a, l.length, e), l, (0, 0, 0, 0, 0)⟩) true true) := by rw [← hq]; simp [oc, slW]
 have s1 : h1.size = h.size + 1 := by rw [← hq]; simp
 clear hq
 refine MCall.by (sRequests (oneOut _ o1 (by omega)) (fun r hr => by
  simp only [List.mem_singleton] at hr; subst hr; exact ⟨.inl ⟨rfl, 0, rfl⟩, B.ext X1⟩) (by rw [sumO_one]; simp; omega)) ?_
 rintro u h2 ⟨⟨gv, hu⟩, X2⟩
 rw [outsB_one] at hu
 simp only [List.nil_append] at hu
 obtain ⟨ec, rfl, hec, hpre⟩ : ∃ ec : Int, u = .tuple #[gv, .int .i64 ec] ∧ (ec = 0 ∨ ec = 10) ∧ (l.length < 45 → ec = 10) := by
  rcases hu with ⟨rfl, _⟩ | ⟨rfl, ht, _⟩
  ·exact ⟨10, rfl, .inr rfl, fun _ => rfl⟩
  ·exact ⟨0, rfl, .inl rfl, fun q => absurd (congrArg List.length ht) (by rw [List.length_take, pref_len]; omega)⟩
 clear hu
 simp only [go_sem, ↓reduceIte]
 have n45 : ¬ ((45 : Nat) : Int) < 33 := by omega
 have X02 := X1.trans X2
 generalize hq : LHeap.push _ _ = h3
 have X3 : Ext h2 h3 := by rw [← hq]; exact Ext.push _ _
 have p3 : h3.get h2.size = some (.cells prefV true true) := by rw [← hq]; simp
 have s3 : h3.size = h2.size + 1 := by rw [← hq]; simp
 clear hq
 have P3 : BytesAt h3 (.slice (some ⟨h2.size, 0, none⟩) 45 1) prefBB := .inr ⟨h2.size, 0, _, true, true, rfl, by omega, p3, by rw [pref_bv, bv_len]; omega, by rw [pref_bv, List.drop_zero, ← bv_len, List.take_length]⟩
 obtain ⟨k, hk, hk32⟩ : ∃ k : Nat, min (max cut 0) 32 = (k : Int) ∧ k ≤ 32 := ⟨(min (max cut 0) 32).toNat, by omega, by omega⟩
 obtain ⟨w, hw, W, hwb⟩ := ba_hi (q := EC.q) P3 (j := k) (by rw [pref_len]; omega) (k := .i64)
 obtain ⟨wa, wn, we, rfl⟩ := W.shape
 simp only [go_sem, ↓reduceIte, n45, decide_false, x_maxV, x_minV, hk, hw, lfill]
 generalize hq : LHeap.push _ _ = h4
 have X4 : Ext h3 h4 := by rw [← hq]; exact Ext.push _ _
 have o4 : h4.get h3.size = some (.cells (oc ⟨0, (wa, wn, we), prefBB.take k, (none, 0, 0), [], (0, 0, 0, 0, 0)⟩) true true) := by rw [← hq]; simp [oc, slW]
 have s4 : h4.size = h3.size + 1 := by rw [← hq]; simp
 clear hq
 refine MCall.by (sRequests (oneOut _ o4 (by omega)) (fun r hr => by
  simp only [List.mem_singleton] at hr; subst hr; exact ⟨W.ext X4, .inl ⟨rfl, 0, rfl⟩⟩) (by rw [sumO_one]; simp; omega)) ?_
 rintro u h5 ⟨⟨gv5, hu⟩, X5⟩
 rw [outsB_one] at hu
 simp only [List.append_nil] at hu
 obtain rfl : u = .tuple #[gv5, .int .i64 10] := by
  rcases hu with ⟨rfl, _⟩ | ⟨rfl, ht, _⟩
  ·rfl
  ·exact absurd (congrArg List.length ht) (by rw [List.length_take, List.length_take, pref_len]; omega)
 clear hu
 simp only [go_sem, ↓reduceIte, lfill]
 generalize hq : LHeap.push _ _ = h6
 have X6 : Ext h5 h6 := by rw [← hq]; exact Ext.push _ _
 have o6 : h6.get h5.size = some (.cells (oc ⟨0, (some ⟨h2.size, 0, none⟩, 45, 1), prefBB, (none, 0, 0), [], (0, 0, 0, 0, 0)⟩) true true) := by rw [← hq]; simp [oc, slW]
 have s6 : h6.size = h5.size + 1 := by rw [← hq]; simp
 clear hq
 refine MCall.by (sRequests (oneOut _ o6 (by omega)) (fun r hr => by
  simp only [List.mem_singleton] at hr; subst hr; exact ⟨P3.ext ((X4.trans X5).trans X6), .inl ⟨rfl, 0, rfl⟩⟩) (by rw [sumO_one]; simp [pref_len])) ?_
 rintro u h7 ⟨⟨gv7, hu⟩, X7⟩
 rw [outsB_one] at hu
 simp only [List.append_nil] at hu
 obtain ⟨rfl, rfl⟩ : u = .tuple #[gv7, .int .i64 0] ∧ gv7 = .slice none 0 0 := by
  rcases hu with ⟨rfl, hne⟩ | ⟨rfl, _, hz⟩
  ·exact absurd rfl hne
  ·exact ⟨rfl, hz trivial⟩
 by_cases c45 : (l.length : Int) < 45
 ·obtain rfl := hpre (by omega)
  have b1 : ((10 : Int) != 10) = false := rfl
  have b2 : ((10 : Int) == 10) = true := rfl
  have b3 : ((0 : Int) == 0) = true := rfl
  have b4 : ((10 : Int) == 0) = false := rfl
  simp only [go_sem, ↓reduceIte, c45, decide_true, b1, b2, b3, b4]
 ·have b2 : ((10 : Int) == 10) = true := rfl
  have b3 : ((0 : Int) == 0) = true := rfl
  have b4 : ((10 : Int) == 0) = false := rfl
  rcases hec with rfl | rfl
  ·simp only [go_sem, ↓reduceIte, c45, decide_false, b2, b3]
  ·simp only [go_sem, ↓reduceIte, c45, decide_false, b2, b3, b4]

theorem larg_intR {h : LHeap} {n : Nat} {lv : Value} (hl : LArg Tryz.prog h n 3 lv) : ∃ i, lv = .int .i64 i := by
 rcases hl with ⟨g1, _⟩ | ⟨_, hl⟩
 ·simp [isAggP, Tryz.underlying3] at g1
 ·obtain ⟨i, h1, h2⟩ := LRd_int Tryz.underlying3 hl
  exact ⟨i, by simpa using h1⟩
theorem larg_bytesR {h : LHeap} {n : Nat} {lv : Value} (hl : LArg Tryz.prog h n 27 lv) : ∃ l, BytesAt h lv l := by
 rcases hl with ⟨g1, _⟩ | ⟨_, hl⟩
 ·simp [isAggP, Tryz.underlying27] at g1
 ·obtain ⟨v, l, e, hb, _⟩ := LRd_bytes hl
  simp only [List.cons.injEq, and_true] at e
  subst e
  refine ⟨l, ?_⟩
  rcases hb with ⟨q1, q2⟩ | ⟨b, o, q1, q2⟩
  ·exact .inl ⟨q1, 0, q2⟩
  ·rw [q1]; exact q2.bytes
theorem lawRefuses (h : LHeap) (lvs : List Value) (hl : LArgs Tryz.prog h 6 [27, 3] lvs) : LCalls EC 4 lvs h fun v _ => v = .bool true := by
 obtain ⟨v1, r1, rfl, h1, hl1⟩ := LArgs_cons hl
 obtain ⟨v2, r2, rfl, h2, hl2⟩ := LArgs_cons hl1
 obtain rfl := LArgs_nil hl2
 obtain ⟨cut, rfl⟩ := larg_intR h2
 obtain ⟨l, hB⟩ := larg_bytesR h1
 obtain ⟨x, y, z, rfl⟩ := hB.shape
 exact sViewRefuses hB cut
end Go.E1
