/-
  Texts joined: Once, Prim, HuffA.
-/
import Derived.Test.YtmafdmpmilhnfaaGreatDoorProg
import Derived.Test.YtmafdmpmilhnfaaGreatDoorKd
import Derived.Tactics
import Derived.Tactics2
import Derived.Defers
import Derived.Laws.Pointers
import Derived.Laws.LoneSync
import Derived.RegionTactic
import Derived.RegionCalls
import Derived.ChangeAlike
import Derived.Test.YtmafdmpmilhnfaaGreatDoorKe
import Derived.Test.YtmafdmpmilhnfaaGreatDoorKlA
/-
 sync.Once, one goroutine: Do, not yet done and the lock free, by what is known of the function that it is given (after the kit's worked texts Lazy*).
-/
namespace Go.Once
open Go Go.Proofs

theorem disable (w : World) : (callFunc 274 #[]).run Tryz.prog w = .ok (.value (.tuple #[])) w := run_call_mark0 Tryz.func274 (by kernel_rfl) (by kernel_rfl) (by kernel_rfl) .disable (by kernel_rfl) w
theorem enable (w : World) : (callFunc 276 #[]).run Tryz.prog w = .ok (.value (.tuple #[])) w := run_call_mark0 Tryz.func276 (by kernel_rfl) (by kernel_rfl) (by kernel_rfl) .enable (by kernel_rfl) w
theorem acquire (a : Addr) (w : World) : (callFunc 277 #[.pointer (some a)]).run Tryz.prog w = .ok (.value (.tuple #[])) w := run_call_marked Tryz.func277 (by kernel_rfl) (by kernel_rfl) (by kernel_rfl) .acquire (by kernel_rfl) a w
theorem releaseMerge (a : Addr) (w : World) : (callFunc 279 #[.pointer (some a)]).run Tryz.prog w = .ok (.value (.tuple #[])) w := run_call_marked Tryz.func279 (by kernel_rfl) (by kernel_rfl) (by kernel_rfl) .releaseMerge (by kernel_rfl) a w

set_option maxRecDepth 100000 in
/-- '(*sync/atomic.Bool).Store(true)', entered as a deferred call: the cell holds 1. -/
theorem store_deferred (a : Addr) (x : Value) (u : FrameMode) (w : World) (hc : w.cell? a = some x) (hz : w.frozen? a = false) :
  CallsD Tryz.prog 266 #[.pointer (some a), .bool true] u w fun e u' w' => u' = u ∧ (e = .returned (.tuple #[]) ∧ w' = w.drew.setCell a (.int .u32 1)) := by
 have hc' : w.drew.cell? a = some x := by go_simp
 have hz' : w.drew.frozen? a = false := by go_simp
 have hst := run_call_store (P := Tryz.prog) Tryz.func271 (by kernel_rfl) (by kernel_rfl) (by kernel_rfl) (by kernel_rfl) (k := .u32) (y := 1) hc' hz'
 go_enter_d Tryz.func266, Tryz.ntmps266
 go_wp2
 go_region_calls
 all_goals (go_end0; exact ⟨rfl, rfl⟩)

set_option maxRecDepth 100000 in
/-- '(*sync.Mutex).Unlock', entered as a deferred call, the lock held and nobody waiting. -/
theorem unlock_deferred (a : Addr) (u : FrameMode) (w : World) (hc : w.cell? a = some (.int .i32 1)) (hz : w.frozen? a = false) :
  CallsD Tryz.prog 265 #[.pointer (some a)] u w fun e u' w' => u' = u ∧ (e = .returned (.tuple #[]) ∧ w' = w.setCell a (.int .i32 0)) := by
 have hd := disable
 have he := enable
 have hr := releaseMerge
 have hadd := run_call_add (P := Tryz.prog) Tryz.func280 (by kernel_rfl) (by kernel_rfl) (by kernel_rfl) .i32 (by kernel_rfl) (y := -1) (s := 0) hc hz (by simp [go_sem]; rfl)
 have hcv := run_convert_to_unsafe (P := Tryz.prog) (src := 420) (dst := 424) Tryz.underlying420 Tryz.underlying424 (by kernel_rfl) hc
 go_enter_d Tryz.func265, Tryz.ntmps265
 go_wp2
 go_end0
 go_wp2
 go_end0
 exact ⟨rfl, rfl⟩

set_option maxRecDepth 100000 in
/-- '(*sync.Mutex).Lock', the lock free. -/
theorem lock_free (a : Addr) (w : World) (hc : w.cell? a = some (.int .i32 0)) (hz : w.frozen? a = false) :
  Calls Tryz.prog 264 #[.pointer (some a)] w fun e w' => e = .returned (.tuple #[]) ∧ w' = w.setCell a (.int .i32 1) := by
 have hd := disable
 have he := enable
 have ha := acquire
 have hcas := run_call_cas_hit (P := Tryz.prog) Tryz.func275 (by kernel_rfl) (by kernel_rfl) (by kernel_rfl) .i32 (by kernel_rfl) (y := 1) hc hz
 have hc' : (w.setCell a (.int .i32 1)).cell? a = some (.int .i32 1) := World.cell?_setCell_same w a _ hc
 have hcv := run_convert_to_unsafe (P := Tryz.prog) (src := 420) (dst := 424) Tryz.underlying420 Tryz.underlying424 (by kernel_rfl) hc'
 go_enter Tryz.func264, Tryz.ntmps264
 go_wp2
 first | go_end0 | (simp only [Exit.inBlock, Exit.then]; refine bodyPost_ret (results_none rfl _ _ _) rfl ?_) | refine bodyPost_ret (results_none rfl _ _ _) rfl ?_
 go_wp2
 go_end0
 exact ⟨rfl, rfl⟩

set_option maxRecDepth 100000 in
set_option maxHeartbeats 1600000 in
/-- 'doSlow', not yet done and the lock free. -/
theorem slow_any (b off : Nat) (cap : Array Value) (w : World) (R : World → Prop)
  (h0 : w.cell? ⟨b, off, none⟩ = some (.int .u32 0)) (h1 : w.cell? ⟨b, off + 1, none⟩ = some (.int .i32 0))
  (f1 : w.frozen? ⟨b, off + 1, none⟩ = false)
  (hf : Calls Tryz.prog 247 cap (w.setCell ⟨b, off + 1, none⟩ (.int .i32 1)) fun e w' => (∃ v, e = .returned v) ∧ R w')
  (hR : ∀ w', R w' → w'.cell? ⟨b, off, none⟩ = some (.int .u32 0) ∧ w'.cell? ⟨b, off + 1, none⟩ = some (.int .i32 1) ∧ w'.frozen? ⟨b, off, none⟩ = false ∧ w'.frozen? ⟨b, off + 1, none⟩ = false) :
  Calls Tryz.prog 259 #[.pointer (some ⟨b, off, none⟩), .func (.func 247) #[] cap] w fun e w' => e = .returned (.tuple #[]) ∧
   ∃ w2, R w2 ∧ w' = (w2.drew.setCell ⟨b, off, none⟩ (.int .u32 1)).setCell ⟨b, off + 1, none⟩ (.int .i32 0) := by
 have hl := run_call_load (P := Tryz.prog) Tryz.func263 (by kernel_rfl) (by kernel_rfl) (by kernel_rfl) .u32 (by kernel_rfl) (w := w.setCell ⟨b, off + 1, none⟩ (.int .i32 1)) (a := ⟨b, off, none⟩) (x := 0) ((World.cell?_setCell_other _ ⟨b, off + 1, none⟩ ⟨b, off, none⟩ _ (by simp)).trans h0)
 have hnot : ∀ (x : Bool) (w : World), (Op.unary .not (.bool x)).run Tryz.prog w = .ok (.bool (!x)) w := fun _ _ => rfl
 go_enter_defers Tryz.func259, Tryz.ntmps259
 go_wp2_with (first | (go_at_call 264; refine (lock_free ⟨b, off + 1, none⟩ _ (by go_simp) (by go_simp)).mono ?_; rintro e w' ⟨rfl, rfl⟩) | (go_at_call 247; refine hf.mono ?_; rintro e w' ⟨⟨v, rfl⟩, hw⟩) | (go_at_call 258; go_in))
 obtain ⟨r0, r1, z0, z1⟩ := hR _ hw
 go_wp2
 refine leaves_cons (f := 266) (args := #[.pointer (some ⟨b, off, none⟩), .bool true]) (by simp) (by simp [go_sem]) ?_
 refine (store_deferred ⟨b, off, none⟩ (.int .u32 0) .returning _ r0 z0).mono ?_
 rintro e u' w'' ⟨rfl, rfl, rfl⟩
 refine leaves_cons (f := 265) (args := #[.pointer (some ⟨b, off + 1, none⟩)]) (by simp [settle]) (by simp [go_sem]) ?_
 refine (unlock_deferred ⟨b, off + 1, none⟩ _ _ ?_ (by simp [z1])).mono ?_
 ·refine (World.cell?_setCell_other _ ⟨b, off, none⟩ ⟨b, off + 1, none⟩ _ (by simp)).trans ?_
  rw [World.cell?_drew]
  exact r1
 rintro e u' w'' ⟨rfl, rfl, rfl⟩
 simp [Leaves, settle, results, Tryz.results259]
 exact ⟨_, hw, rfl⟩

set_option maxRecDepth 100000 in
set_option maxHeartbeats 1600000 in
/-- 'Do', not yet done and the lock free. -/
theorem do_first (b off : Nat) (cap : Array Value) (w : World) (R : World → Prop)
  (h0 : w.cell? ⟨b, off, none⟩ = some (.int .u32 0)) (h1 : w.cell? ⟨b, off + 1, none⟩ = some (.int .i32 0))
  (f1 : w.frozen? ⟨b, off + 1, none⟩ = false)
  (hf : Calls Tryz.prog 247 cap (w.setCell ⟨b, off + 1, none⟩ (.int .i32 1)) fun e w' => (∃ v, e = .returned v) ∧ R w')
  (hR : ∀ w', R w' → w'.cell? ⟨b, off, none⟩ = some (.int .u32 0) ∧ w'.cell? ⟨b, off + 1, none⟩ = some (.int .i32 1) ∧ w'.frozen? ⟨b, off, none⟩ = false ∧ w'.frozen? ⟨b, off + 1, none⟩ = false) :
  Calls Tryz.prog 246 #[.pointer (some ⟨b, off, none⟩), .func (.func 247) #[] cap] w fun e w' => e = .returned (.tuple #[]) ∧
   ∃ w2, R w2 ∧ w' = (w2.drew.setCell ⟨b, off, none⟩ (.int .u32 1)).setCell ⟨b, off + 1, none⟩ (.int .i32 0) := by
 have hl := run_call_load (P := Tryz.prog) Tryz.func263 (by kernel_rfl) (by kernel_rfl) (by kernel_rfl) .u32 (by kernel_rfl) h0
 have hnot : ∀ (x : Bool) (w : World), (Op.unary .not (.bool x)).run Tryz.prog w = .ok (.bool (!x)) w := fun _ _ => rfl
 go_enter Tryz.func246, Tryz.ntmps246
 go_wp2_with (first | (go_at_call 259; refine (slow_any b off cap _ R h0 h1 f1 hf hR).mono ?_; rintro e w' ⟨rfl, hw⟩) | (go_at_call 258; go_in))
 go_end0
 exact ⟨rfl, hw⟩

set_option maxRecDepth 100000 in
/-- '(*atomic.Int64).Add'. -/
theorem add_any (b off : Nat) (n d s : Int) (w : World) (h0 : w.cell? ⟨b, off, none⟩ = some (.int .i64 n)) (f0 : w.frozen? ⟨b, off, none⟩ = false) (hs : IntKind.i64.wrap (n + d) = s) :
  Calls Tryz.prog 250 #[.pointer (some ⟨b, off, none⟩), .int .i64 d] w fun e w' => e = .returned (.int .i64 s) ∧ w' = w.setCell ⟨b, off, none⟩ (.int .i64 s) := by
 have hadd := run_call_add (P := Tryz.prog) Tryz.func261 (by kernel_rfl) (by kernel_rfl) (by kernel_rfl) .i64 (by kernel_rfl) (y := d) (s := s) h0 f0 (by simp [go_sem, hs])
 go_enter Tryz.func250, Tryz.ntmps250
 go_wp2
 go_ret
 exact ⟨rfl, rfl⟩
end Go.Once

/-
 Primitives with a hand in memory: an atomic sum, sync.Once.
-/
namespace Go.E1
open Go Go.Proofs

theorem setCells_one (w : World) (B k : Nat) (v : Value) : w.setCells B k [v] = w.setCell ⟨B, k, none⟩ v := by
 simp [World.setCells]

/-- What is known of a cell that may be written. -/
theorem cell_one {ν : Inj} {h h' : LHeap} {w : World} (hr : HR ν h w) {b o : Nat} {pl : Place} (hb : ν b = some pl) {x v v' : Value} (hl : h.load1 b o = some x) (hs : h.storeCells b o [v] = some h') (hv : VR ν v v') :
  (∃ x', w.cell? ⟨pl.B, pl.base + o, none⟩ = some x' ∧ VR ν x x') ∧ w.frozen? ⟨pl.B, pl.base + o, none⟩ = false ∧
  HR ν h' (w.setCell ⟨pl.B, pl.base + o, none⟩ v') ∧ Step ν h w ν h' (w.setCell ⟨pl.B, pl.base + o, none⟩ v') := by
 rw [LHeap.storeCells_eq] at hs
 split at hs
 ·rename_i cs tip hg
  split at hs
  ·rename_i hc
   cases hs
   obtain ⟨c, e, fz, h1, h2, h3, h4, h5, h6⟩ := hr.cells hb hg
   have hle : o + 1 ≤ cs.length := by simpa using hc.1
   have hx : cs[o]? = some x := by simpa [LHeap.load1_eq, hg] using hl
   obtain ⟨x', hx', hxr⟩ := h5 o x hx
   refine ⟨⟨x', by rw [cell?_of_heap h1]; exact hx', hxr⟩, frozen?_of_heap h1 ((h6 rfl).not _ (by omega)), ?_⟩
   have := hr.write (vs := [v]) (vs' := [v']) hb hg (by simpa using hle) (.cons hv (.nil ν))
   rw [setCells_one] at this
   exact this
  ·cases hs
 ·cases hs

noncomputable def addP : List Value → LHeap → Option (Value × LHeap)
 | [.pointer (some ⟨b, o, none⟩), .int .i64 d], h => match h.load1 b o with
  | some (.int .i64 n) => (h.storeCells b o [.int .i64 (IntKind.i64.wrap (n + d))]).map (.int .i64 (IntKind.i64.wrap (n + d)), ·)
  | _ => none
 | _, _ => none

theorem addP_sound {args : List Value} {h h' : LHeap} {v : Value} (hx : addP args h = some (v, h')) : Sound Tryz.prog 250 args h v h' := by
 refine ⟨⟨_, Tryz.func250, of_decide_eq_true (by kernel_rfl), by kernel_rfl⟩, fun ν w args' hr hargs => ?_⟩
 unfold addP at hx
 split at hx
 ·rename_i b o d
  split at hx
  ·rename_i n hl
   simp only [Option.map_eq_some_iff, Prod.mk.injEq] at hx
   obtain ⟨h2, hs, rfl, rfl⟩ := hx
   obtain ⟨p', l1, e1, hp, hl1⟩ := hargs.cons_inv
   obtain ⟨d', l2, rfl, hd, hl2⟩ := hl1.cons_inv
   have := hl2.nil_inv
   subst this
   cases hd
   cases hp with
   | ptr hb =>
    rename_i pl
    obtain ⟨⟨x', hc, hxr⟩, hf, hr', hst⟩ := cell_one hr hb hl hs (.int _ _)
    cases hxr
    have he : args' = #[.pointer (some ⟨pl.B, pl.base + o, none⟩), .int .i64 d] := by
     apply Array.ext'
     simpa using e1
    rw [he]
    refine (Once.add_any pl.B (pl.base + o) n d _ w hc hf rfl).mono ?_
    rintro e w' ⟨rfl, rfl⟩
    exact ⟨ν, _, rfl, .int _ _, hr', hst⟩
  ·cases hx
 ·cases hx

noncomputable def onceP (call : CallF) : List Value → LHeap → Option (Value × LHeap)
 | [.pointer (some ⟨b, o, none⟩), .func (.func 247) first cap], h => if first.size = 0 then
  match h.load1 b o, h.load1 b (o + 1), h.storeCells b (o + 1) [.int .i32 1] with
  | some (.int .u32 0), some (.int .i32 0), some h1 => match call 247 cap.toList h1 with
   | some (_, h2) => match h2.load1 b o, h2.load1 b (o + 1), h2.storeCells b o [.int .u32 1] with
    | some (.int .u32 0), some (.int .i32 1), some h3 => match h3.load1 b (o + 1), h3.storeCells b (o + 1) [.int .i32 0], h2.storeCells b (o + 1) [.int .i32 1] with
     | some _, some h4, some _ => some (.tuple #[], h4)
     | _, _, _ => none
    | _, _, _ => none
   | none => none
  | _, _, _ => none
  else none
 | _, _ => none

theorem onceP_sound {call : CallF} (hcall : CallOk Tryz.prog call) {args : List Value} {h h' : LHeap} {v : Value} (hx : onceP call args h = some (v, h')) : Sound Tryz.prog 246 args h v h' := by
 refine ⟨⟨_, Tryz.func246, of_decide_eq_true (by kernel_rfl), by kernel_rfl⟩, fun ν w args' hr hargs => ?_⟩
 unfold onceP at hx
 split at hx
 rotate_left
 ·cases hx
 rename_i b o first cap
 split at hx
 rotate_left
 ·cases hx
 rename_i hfirst
 split at hx
 rotate_left
 ·cases hx
 rename_i h1 hl0 hl1 hs1
 split at hx
 rotate_left
 ·cases hx
 rename_i u h2 hcl
 split at hx
 rotate_left
 ·cases hx
 rename_i h3 hm0 hm1 hs2
 split at hx
 rotate_left
 ·cases hx
 rename_i y h4 h5 hn1 hs3 hs4
 simp only [Option.some.injEq, Prod.mk.injEq] at hx
 obtain ⟨rfl, rfl⟩ := hx
 obtain ⟨p', l1, e1, hp, hl1'⟩ := hargs.cons_inv
 obtain ⟨d', l2, rfl, hd, hl2⟩ := hl1'.cons_inv
 have := hl2.nil_inv
 subst this
 cases hd with
 | func hsz hh =>
  rename_i cap'
  cases hp with
  | ptr hb =>
   rename_i pl
   have hcapr : VRs ν cap.toList cap'.toList := ⟨by simpa using hsz, fun i v v' a b => hh i v v' (by simpa using a) (by simpa using b)⟩
   have he : args' = #[.pointer (some ⟨pl.B, pl.base + o, none⟩), .func (.func 247) #[] cap'] := by
    apply Array.ext'
    simpa using e1
   rw [he]
   obtain ⟨c0, hc0, hv0⟩ := hr.load1 hl0 hb
   cases hv0
   obtain ⟨⟨x', hc1, hxr⟩, hf1, hr1, hst1⟩ := cell_one hr hb hl1 hs1 (.int _ _)
   cases hxr
   obtain ⟨_, hsound⟩ := hcall _ _ _ _ _ hcl
   refine (Once.do_first pl.B (pl.base + o) cap' w (fun w2 => ∃ ν', ν.le ν' ∧ HR ν' h2 w2 ∧ Step ν h1 (w.setCell ⟨pl.B, pl.base + o + 1, none⟩ (.int .i32 1)) ν' h2 w2) hc0 hc1 hf1 ?_ ?_).mono ?_
   ·refine (hsound ν _ cap' hr1 hcapr).mono ?_
    rintro e w' ⟨ν', v', rfl, _, k1, k2⟩
    exact ⟨⟨v', rfl⟩, ν', k2.le, k1, k2⟩
   ·rintro w2 ⟨ν', hle, k1, k2⟩
    have hb' := hle b pl hb
    obtain ⟨⟨z0, hz0, hzr0⟩, hzf0, _⟩ := cell_one k1 hb' hm0 hs2 (.int _ _)
    obtain ⟨⟨z1, hz1, hzr1⟩, hzf1, _⟩ := cell_one k1 hb' hm1 hs4 (.int _ _)
    cases hzr0
    cases hzr1
    exact ⟨hz0, hz1, hzf0, hzf1⟩
   ·rintro e w' ⟨rfl, w2, ⟨ν', hle, k1, k2⟩, rfl⟩
    have hb' := hle b pl hb
    have k1d : HR ν' h2 w2.drew := k1.drew _
    obtain ⟨_, _, k3, k4⟩ := cell_one k1d hb' hm0 hs2 (.int _ _)
    obtain ⟨_, _, k5, k6⟩ := cell_one k3 hb' hn1 hs3 (.int _ _)
    exact ⟨ν', _, rfl, VRs.tuple (.nil _), k5, hst1.trans (k2.trans ((Step.drew _).trans (k4.trans k6)))⟩

end Go.E1

/-
 The code's lengths, and how symbols are ordered.
-/
namespace Go.E1
open Go Go.Proofs

/-- How many bits each symbol has. -/
def huffLens : List Nat := [13, 23, 28, 28, 28, 28, 28, 28, 28, 24, 30, 28, 28, 30, 28, 28, 28, 28, 28, 28, 28, 28, 30, 28, 28, 28, 28, 28, 28, 28, 28, 28, 6, 10, 10, 12, 13, 6, 8, 11, 10, 10, 8, 11, 8, 6, 6, 6, 5, 5, 5, 6, 6, 6, 6, 6, 6, 6, 7, 8, 15, 6, 12, 10, 13, 6, 7, 7, 7, 7, 7, 7, 7, 7, 7, 7, 7, 7, 7, 7, 7, 7, 7, 7, 7, 7, 7, 7, 8, 7, 8, 13, 19, 13, 14, 6, 15, 5, 6, 5, 6, 5, 6, 6, 6, 5, 7, 7, 6, 6, 6, 5, 6, 7, 6, 5, 5, 6, 7, 7, 7, 7, 7, 15, 11, 14, 13, 28, 20, 22, 20, 20, 22, 22, 22, 23, 22, 23, 23, 23, 23, 23, 24, 23, 24, 24, 22, 23, 24, 23, 23, 23, 23, 21, 22, 23, 22, 23, 23, 24, 22, 21, 20, 22, 22, 23, 23, 21, 23, 22, 22, 24, 21, 22, 23, 23, 21, 21, 22, 21, 23, 22, 23, 23, 20, 22, 22, 22, 23, 22, 22, 23, 26, 26, 20, 19, 22, 23, 22, 25, 26, 26, 26, 27, 27, 26, 24, 25, 19, 21, 26, 27, 27, 26, 27, 24, 21, 21, 26, 26, 28, 27, 27, 27, 20, 24, 20, 21, 22, 21, 21, 23, 22, 22, 25, 25, 24, 24, 26, 23, 26, 27, 26, 26, 27, 27, 27, 27, 27, 28, 27, 27, 27, 27, 27, 26, 30]
noncomputable def lenOf (n : Nat) : Nat := (nthR huffLens n).getD 0

noncomputable def E0 : Env := { code := tabR tabA, prim := fun _ => none, q := qOf [] }
theorem E0_ok : EnvOk Tryz.prog E0 where
 orders := by kernel_rfl
 q := show QOk Tryz.prog (qOf []) from qOf_ok (by kernel_rfl)
 code := tabR_ok tabA_ok
 prim := fun _ _ h => (nomatch h)

noncomputable def gLong : List Value → Option Value
 | [.int .i64 i] => if 0 ≤ i ∧ i < 257 then some (.int .i64 (lenOf i.toNat)) else none
 | _ => none
theorem runLong : (List.range 257).all (fun n => isRun E0 4 225 [.int .i64 n] (.int .i64 (lenOf n))) = true := by kernel_rfl

def gNaN : List Value → Option Value
 | [.int .i64 _] => some (.bool false)
 | _ => none
def gCmp : List Value → Option Value
 | [.int .i64 a, .int .i64 b] => some (.int .i64 (if a < b then -1 else if b < a then 1 else 0))
 | _ => none
noncomputable def gLess : List Value → Option Value
 | [.int .i64 a, .int .i64 b] => if 0 ≤ a ∧ a < 257 ∧ 0 ≤ b ∧ b < 257 then some (.int .i64 (if lenOf a.toNat < lenOf b.toNat then -1 else if lenOf b.toNat < lenOf a.toNat then 1 else 0)) else none
 | _ => none

noncomputable def E0a : Env := (E0.add 225 gLong).add 256 gNaN
theorem E0a_ok : EnvOk Tryz.prog E0a := by
 have e1 : EnvOk Tryz.prog (E0.add 225 gLong) := E0_ok.add' _ gLong fun args v h => by
  unfold gLong at h
  split at h
  ·rename_i i
   split at h
   ·rename_i hi
    cases h
    have := all_range runLong (i := i.toNat) (by omega)
    rw [show ((i.toNat : Nat) : Int) = i by omega] at this
    exact ⟨rfl, rfl, isRun_sound E0_ok this⟩
   ·cases h
  ·cases h
 refine e1.add _ gNaN fun args v h => ?_
 unfold gNaN at h
 split at h
 ·cases h
  refine ⟨rfl, rfl, ?_⟩
  refine LCalls.enter (lf := lf256) rfl rfl (by simp [lf256]) ?_
  simp only [go_sem, lf256, ↓reduceIte]
  simp
 ·cases h
@[go_sem] theorem E0_prim (i : FuncId) : E0.prim i = none := Eq.trans rfl rfl
@[go_sem] theorem E0a_prim (i : FuncId) : E0a.prim i = ((E0.add 225 gLong).add 256 gNaN).prim i := Eq.trans rfl rfl

noncomputable def E0b : Env := E0a.add 239 gCmp
theorem E0b_ok : EnvOk Tryz.prog E0b := E0a_ok.add _ gCmp fun args v h => by
 unfold gCmp at h
 split at h
 ·rename_i a b
  cases h
  refine ⟨rfl, rfl, ?_⟩
  refine LCalls.enter (lf := lf239) rfl rfl (by simp [lf239]) ?_
  by_cases h1 : a < b
  ·simp only [go_sem, lf239, ↓reduceIte, gNaN, h1]
  ·by_cases h2 : b < a
   ·simp only [go_sem, lf239, ↓reduceIte, gNaN, h1, h2]
   ·simp only [go_sem, lf239, ↓reduceIte, gNaN, h1, h2]
 ·cases h
@[go_sem] theorem E0b_prim (i : FuncId) : E0b.prim i = (E0a.add 239 gCmp).prim i := Eq.trans rfl rfl

noncomputable def E0c : Env := E0b.add 249 gLess
theorem E0c_ok : EnvOk Tryz.prog E0c := E0b_ok.add _ gLess fun args v h => by
 unfold gLess at h
 split at h
 ·rename_i a b
  split at h
  ·rename_i hr
   cases h
   refine ⟨rfl, rfl, ?_⟩
   refine LCalls.enter (lf := lf249) rfl rfl (by simp [lf249]) ?_
   simp only [go_sem, lf249, ↓reduceIte, gLong, gCmp, hr.1, hr.2.1, hr.2.2.1, hr.2.2.2]
   simp
  ·cases h
 ·cases h

end Go.E1
