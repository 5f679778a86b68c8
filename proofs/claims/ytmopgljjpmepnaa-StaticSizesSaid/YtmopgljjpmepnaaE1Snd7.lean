/-
  Making slices, lengths, appending, copying, the least and the greatest; all operations together.
-/
import Derived.Test.YtmopgljjpmepnaaE1Snd6
import Derived.IntWalk
namespace Go.E1
open Go

section
variable {P : Program} {q : EqF} {o : Oper} {ρ : Operand → Value} {ν : Inj} {h h' : LHeap} {w : World} {v : Value} {rd : LO → Option Value}

theorem replicate_flatten_get {z : List Value} {n : Nat} : ∀ (m : Nat) (i : Nat) (v : Value), z.length = n → ((List.replicate m z).flatten)[i]? = some v → v ∈ z := by
  intro m
  induction m with
  | zero => intro i v _ h; simp at h
  | succ m ih =>
    intro i v hz h
    rw [List.replicate_succ, List.flatten_cons, List.getElem?_append] at h
    split at h
    · exact List.mem_of_getElem? h
    · exact ih _ _ hz h

theorem good_makeSlice {t : TypeId} {n c : Operand} (ho : o.op = .makeSlice t n c) {lo : LOp LO} {lv : LOp Value} (hc : cOp P (.makeSlice t n c) = some lo) (hs : lo.sub rd = some lv) (hx : lexec q lv h = some (v, h'))
    (hr : HR ν h w) (hv : OpsR ν (.makeSlice t n c) rd ρ) : Good P o ρ ν h w v h' := by
  simp only [cOp] at hc
  split at hc
  · rename_i e hu
    split at hc
    · rename_i i z ln lc hi hz hn hcc
      split at hc
      · rename_i hzn
        obtain ⟨hzn, hpos⟩ := hzn
        cases hc
        obtain ⟨y1, y2, hy1, hy2, rfl⟩ := sub_makeSlice hs
        have hvn := hv n (by simp [Op.operands]) ln y1 hn hy1
        have hvc := hv c (by simp [Op.operands]) lc y2 hcc hy2
        obtain ⟨i2, u, hi2, hiu, rfl, hall⟩ := zeroOf_spec hz
        rw [hi] at hi2
        cases hi2
        simp only [lexec] at hx
        split at hx
        · rename_i k1 a k2 b
          split at hx
          · rename_i hb
            obtain ⟨h0, h1, h2, _⟩ := hb
            simp only [roomOk, Bool.and_eq_true, decide_eq_true_eq] at h2
            obtain ⟨h2, h3⟩ := h2
            simp only [Option.some.injEq, Prod.mk.injEq] at hx
            obtain ⟨rfl, rfl⟩ := hx
            obtain ⟨a, rfl⟩ := Int.eq_ofNat_of_zero_le h0
            obtain ⟨b, rfl⟩ := Int.eq_ofNat_of_zero_le (Int.le_trans h0 h1)
            simp only [Int.toNat_natCast] at *
            have hab : a ≤ b := by omega
            have hcells : (Array.range (b * i.size)).map (u.cells[· % u.cells.size]!) = ((List.replicate b u.cells.toList).flatten).toArray := by
              have := range_flatten u.cells.toList b i.size hzn hpos
              apply Array.ext'
              simpa using this
            have hsplit : (List.replicate b u.cells.toList).flatten = (List.replicate a u.cells.toList).flatten ++ (List.replicate (b - a) u.cells.toList).flatten := by
              rw [← List.flatten_append, List.replicate_append_replicate, show a + (b - a) = b by omega]
            have hlenb : ((List.replicate b u.cells.toList).flatten).length = b * i.size := by simp [List.length_flatten, ← hzn]
            have hlena : ((List.replicate a u.cells.toList).flatten).length = a * i.size := by simp [List.length_flatten, ← hzn]
            have hal := hr.alloc (List.replicate a u.cells.toList).flatten ((List.replicate b u.cells.toList).flatten).toArray e (0, 0) (by simp only [List.size_toArray]; rw [hlena, hlenb]; exact Nat.mul_le_mul_right _ hab)
              (fun j x hj => by
                refine ⟨x, ?_, ?_⟩
                · simp only [List.getElem?_toArray]
                  rw [hsplit, List.getElem?_append_left ?_]
                  · exact hj
                  · rcases Nat.lt_or_ge j ((List.replicate a u.cells.toList).flatten).length with hl | hl
                    · exact hl
                    · rw [List.getElem?_eq_none hl] at hj; cases hj
                · exact constOk_VR (List.all_eq_true.1 hall x (replicate_flatten_get a j x hzn hj)) ν) (fun k _ => by simp)
            refine ⟨_, .slice (some ⟨w.heap.size, 0, none⟩) a b, _, .inl ?_, VR.slice (o := 0) (Inj.put_same ν h.size _) hab (by simp only [List.size_toArray]; rw [hlenb]; omega), hal.1, hal.2⟩
            have hw1 : IntKind.i64.wrap (a : Int) = a := IntWalk.i64_in _ (by omega)
            have hw2 : IntKind.i64.wrap (b : Int) = b := IntWalk.i64_in _ (by omega)
            have hby : ¬ (281474976710656 < (i.bytes : Int) * (b : Int)) := by
              have : ((b * i.bytes : Nat) : Int) ≤ 140737488355328 := by omega
              rw [Nat.mul_comm] at this
              push_cast at this
              omega
            have hab' : ¬ ((b : Int) < (a : Int)) := by omega
            have hnn : ¬ ((b : Int) < 0) := by omega
            have hnn2 : ¬ ((a : Int) < 0) := by omega
            by_cases hb0 : b * i.size = 0
            · have hA : ∀ f : Nat → Value, Array.map f (Array.range 0) = #[] := fun f => by apply Array.eq_empty_of_size_eq_zero; simp
              have hE : ((List.replicate b u.cells.toList).flatten).toArray = #[] := by
                apply Array.eq_empty_of_size_eq_zero
                simp only [List.size_toArray]; omega
              rw [hE]
              simp [execOp, ho, Instr.makeSlice, run_underlying hu, asInt, asIntOf, hvn.int_inv, hvc.int_inv, typeInfo, hi, hw1, hw2, hby, hab', hnn, hnn2, sizeOf, hb0, newRow, hA]
            · simp [execOp, ho, Instr.makeSlice, run_underlying hu, asInt, asIntOf, hvn.int_inv, hvc.int_inv, typeInfo, hi, hw1, hw2, hby, hab', hnn, hnn2, sizeOf, hb0, newRow, run_zeroValue hi hiu, hcells]
          · cases hx
        · cases hx
      · cases hc
    · cases hc
  · cases hc

/-! ### Built-in functions -/

theorem bi_run {b : Builtin} {args : Array Operand} {ts : Array TypeId} {s : Sem Value} {v' : Value} {w' : World} (ho : o.op = .call { callee := .builtin b, args, argTypes := ts })
    (hb : ∀ c, builtin b ts o.type c (args.map ρ) = (do pure (.value (← s)))) (hs : s.run P w = .ok v' w') : (execOp ρ o).run P w = .ok (.value v') w' := by
  simp [execOp, ho, resolve, invoke, hb, hs]

theorem listM1 {args : Array Operand} {x : LO} (hl : LOp.listM cLO args.toList = some [x]) : ∃ X, args = #[X] ∧ cLO X = some x := by
  cases hA : args.toList with
  | nil => rw [hA] at hl; simp [LOp.listM] at hl
  | cons X r =>
    rw [hA] at hl
    simp only [LOp.listM] at hl
    split at hl
    · rename_i y m hy hm
      simp only [Option.some.injEq, List.cons.injEq] at hl
      obtain ⟨rfl, rfl⟩ := hl
      cases r with
      | nil => exact ⟨X, by apply Array.ext'; simpa using hA, hy⟩
      | cons Y r =>
        simp only [LOp.listM] at hm
        split at hm <;> simp at hm
    · cases hl

theorem listM2 {args : Array Operand} {x y : LO} (hl : LOp.listM cLO args.toList = some [x, y]) : ∃ X Y, args = #[X, Y] ∧ cLO X = some x ∧ cLO Y = some y := by
  cases hA : args.toList with
  | nil => rw [hA] at hl; simp [LOp.listM] at hl
  | cons X r =>
    rw [hA] at hl
    simp only [LOp.listM] at hl
    split at hl
    · rename_i z m hz hm
      simp only [Option.some.injEq, List.cons.injEq] at hl
      obtain ⟨rfl, rfl⟩ := hl
      have := listM1 (args := r.toArray) (by simpa using hm)
      obtain ⟨Y, hY, hy⟩ := this
      have hr : r = [Y] := by simpa using congrArg Array.toList hY
      subst hr
      exact ⟨X, Y, by apply Array.ext'; simpa using hA, hz, hy⟩
    · cases hl

theorem good_len (hrc : ∀ v, rd (.c v) = some v) {args : Array Operand} {ts : Array TypeId} (ho : o.op = .call { callee := .builtin .len, args, argTypes := ts }) {l : List LO} {lo : LOp LO} {lv : LOp Value} (hl : LOp.listM cLO args.toList = some l)
    (hc : cBuiltin P .len ts l = some lo) (hs : lo.sub rd = some lv) (hx : lexec q lv h = some (v, h')) (hr : HR ν h w) (hv : OpsR ν o.op rd ρ) : Good P o ρ ν h w v h' := by
  rcases l with _ | ⟨x, _ | ⟨y, l⟩⟩
  · simp [cBuiltin] at hc
  · obtain ⟨X, rfl, hX⟩ := listM1 hl
    have hvX := hv X (by rw [ho]; simp [Op.operands, Call.operands]) x
    simp only [cBuiltin] at hc
    cases ht : ts[0]? with
    | none => simp [ht] at hc
    | some t =>
      have hb : ∀ c, builtin .len ts o.type c (#[X].map ρ) = (do pure (.value (← Builtin.len_ ts o.type #[ρ X]))) := fun c => by simp [builtin]
      split at hc
      · rename_i hu
        rw [ht] at hu
        replace hu : P.underlying t = some .string := hu
        cases hc
        obtain ⟨y, hy, rfl⟩ := rd1 hs
        have hva := hvX y hX hy
        simp only [lexec] at hx
        split at hx
        · simp only [Option.some.injEq, Prod.mk.injEq] at hx
          obtain ⟨rfl, rfl⟩ := hx
          refine Good.pure hr (bi_run ho hb ?_) (.int _ _)
          simp [Builtin.len_, ht, hva.str_inv, run_underlying hu, goInt]
        · cases hx
      · rename_i e hu
        rw [ht] at hu
        replace hu : P.underlying t = some (.slice e) := hu
        cases hc
        obtain ⟨y, hy, rfl⟩ := rd1 hs
        have hva := hvX y hX hy
        simp only [lexec] at hx
        split at hx
        · simp only [Option.some.injEq, Prod.mk.injEq] at hx
          obtain ⟨rfl, rfl⟩ := hx
          obtain ⟨a', cap, he, _⟩ := hva.slice_inv
          refine Good.pure hr (bi_run ho hb ?_) (.int _ _)
          simp [Builtin.len_, ht, he, run_underlying hu, goInt]
        · cases hx
      · rename_i n e hu
        rw [ht] at hu
        replace hu : P.underlying t = some (.array n e) := hu
        cases hc
        simp only [LOp.sub] at hs
        rw [hrc] at hs
        simp only [Option.map_some, Option.some.injEq] at hs
        subst hs
        simp only [lexec, Option.some.injEq, Prod.mk.injEq] at hx
        obtain ⟨rfl, rfl⟩ := hx
        refine Good.pure hr (bi_run ho hb ?_) (.int _ _)
        simp [Builtin.len_, ht, run_underlying hu, goInt]
      · cases hc
  · simp [cBuiltin] at hc

theorem byteCells_one (s : ByteArray) : ∀ u ∈ byteCells s, u.oneCell' = true := fun u hu => by
  obtain ⟨_, _, rfl⟩ := List.mem_map.1 hu
  rfl

theorem loadCells_len {b k n : Nat} {vs : List Value} (hl : h.loadCells b k n = some vs) : vs.length = n := by
  unfold LHeap.loadCells at hl
  split at hl
  · split at hl
    · cases hl; simp; omega
    · cases hl
  · cases hl

theorem firstCells_len {e : Nat} {x : Value} {m : Nat} {news : List Value} (hf : h.firstCells e x = some (m, news)) : news.length = m * e := by
  unfold LHeap.firstCells at hf
  split at hf
  · cases hf; simp
  · split at hf
    · split at hf
      · cases hf; simp
      · obtain ⟨vs, hvs, hh⟩ := map_some hf
        cases hh
        rename_i hE _
        subst hE
        exact loadCells_len hvs
    · cases hf
  · rename_i s
    split at hf
    · rename_i he
      subst he
      cases hf
      simp
    · cases hf
  · cases hf

theorem HR.congr {h₁ h₂ : LHeap} (hr : HR ν h₁ w) (hg : ∀ c, h₁.get c = h₂.get c) (hs : h₁.size = h₂.size) : HR ν h₂ w :=
  ⟨fun b pl hb => hs ▸ hr.dom b pl hb, fun b pl hb => hg b ▸ hr.obj b pl hb, fun b c pl ql hb hc hne hB => by rw [← hg b, ← hg c]; exact hr.sep b c pl ql hb hc hne hB, hr.real⟩

theorem Step.congr {ν' : Inj} {w' : World} {h₁ h₂ : LHeap} (st : Step ν h w ν' h₁ w') (hg : ∀ c, h₁.get c = h₂.get c) (hs : h₁.size = h₂.size) : Step ν h w ν' h₂ w' :=
  ⟨st.le, st.os, st.tape, st.output, st.size, hs ▸ st.lsize, st.frame, fun b pl hb hw => st.back b pl hb (by rw [hg b]; exact hw)⟩

/-- Where what is appended comes from. -/
theorem HR.src (hr : HR ν h w) {e : Nat} {x x' : Value} {m : Nat} {news : List Value} (hf : h.firstCells e x = some (m, news)) (hx : VR ν x x') (hone : oneCells news = true) {tx : TypeId}
    (hk : (∃ e', P.underlying tx = some (.slice e')) ∨ P.underlying tx = some .string) : ∃ news', VRs ν news news' ∧ Src P e tx x' m news' w ∧ news.length = m * e := by
  unfold LHeap.firstCells at hf
  split at hf
  · cases hf
    cases hx
    exact ⟨[], .nil ν, ⟨hk, fun _ => rfl, run_firstCells_none w e 0 0 0, run_firstCells_none w.drew e 0 0 0, by simp, fun _ h => by cases h⟩, by simp⟩
  · rename_i b k n E
    split at hf
    · rename_i hE
      subst hE
      split at hf
      · rename_i h0
        subst h0
        cases hf
        obtain ⟨a', cap, he, hn⟩ := hx.slice_inv
        cases a' with
        | none => simp at hn
        | some a' =>
          subst he
          exact ⟨[], .nil ν, ⟨hk, fun _ => rfl, run_firstCells_some w E 0 a' 0 cap [] (by simp) (by simp), run_firstCells_some w.drew E 0 a' 0 cap [] (by simp) (by simp), by simp, fun _ h => by cases h⟩, by simp⟩
      · rename_i h0
        obtain ⟨vs, hvs, hh⟩ := map_some hf
        cases hh
        cases hx with
        | slice hb hle hfin =>
          rename_i cap pl
          obtain ⟨hl, vs', hvr, hcell⟩ := hr.loadCells hvs hb
          refine ⟨vs', hvr, ⟨hk, fun _ => rfl, ?_, ?_, by rw [← hvr.1, hl], hvr.oneCells hone⟩, hl⟩
          · exact run_firstCells_some w E m _ m cap vs' (by rw [← hvr.1, hl]) (fun j x hj => by rw [add_plain]; exact hcell j x hj)
          · exact run_firstCells_some w.drew E m _ m cap vs' (by rw [← hvr.1, hl]) (fun j x hj => by rw [add_plain]; have := hcell j x hj; simpa using this)
        | sempty => exact absurd rfl h0
    · cases hf
  · rename_i s
    split at hf
    · rename_i he
      subst he
      cases hf
      rw [hx.str_inv]
      refine ⟨byteCells s, ?_, ⟨hk, fun _ => rfl, firstCells_string s w, firstCells_string s w.drew, by rw [byteCells_length, Nat.mul_one], byteCells_one s⟩, ?_⟩
      · refine ⟨by simp [byteCells], ?_⟩
        intro i v v' h1 h2
        have : (byteCells s)[i]? = some v := h1
        rw [this] at h2
        cases h2
        simp only [List.getElem?_map, Option.map_eq_some_iff] at h1
        obtain ⟨b, _, rfl⟩ := h1
        exact .int _ _
      · simp
    · cases hf
  · cases hf

theorem zeroLen {e : TypeId} {i : TypeInfo} (hi : P.info? e = some i) (hz : (zeroOf P e).map (·.length) = some i.size) : ∃ z, i.zero = some z ∧ z.cells.size = i.size := by
  obtain ⟨l, hl, hh⟩ := map_some hz
  obtain ⟨i2, u, hi2, hu, rfl, _⟩ := zeroOf_spec hl
  rw [hi] at hi2
  cases hi2
  exact ⟨u, hu, by simpa using hh⟩

theorem grownCap_need (w : World) (n c : Nat) (e : TypeId) : n ≤ grownCap w n c e := by
  simp [grownCap, Question.cut]

theorem size_zeroCells (z : Array Value) (n : Nat) : (Builtin.zeroCells z n).size = n * z.size := by simp [Builtin.zeroCells]

/-- A growing append, as the two heaps see it. -/
theorem grow_good (hr : HR ν h w) {olds olds' news news' : List Value} (h1 : VRs ν olds olds') (h2 : VRs ν news news') {n m E cap : Nat} {z : Array Value} {e : TypeId} (hol : olds.length = n * E) (hnl : news.length = m * E) (hz : z.size = E) (hcap : n + m ≤ cap) :
    ∃ ν', HR ν' (h.push (.cells (olds ++ news) true true)) (w.drew.alloc (.cells ((olds' ++ news').toArray ++ Builtin.zeroCells z (cap - (n + m))) e)) ∧
      Step ν h w ν' (h.push (.cells (olds ++ news) true true)) (w.drew.alloc (.cells ((olds' ++ news').toArray ++ Builtin.zeroCells z (cap - (n + m))) e)) ∧
      VR ν' (.slice (some ⟨h.size, 0, none⟩) (n + m) E) (.slice (some ⟨w.heap.size, 0, none⟩) (n + m) cap) := by
  have hvr := h1.append h2
  have hlen := hvr.1
  have hsz : ((olds' ++ news').toArray ++ Builtin.zeroCells z (cap - (n + m))).size = cap * E := by
    rw [Array.size_append, size_zeroCells, hz, List.size_toArray, ← hlen, List.length_append, hol, hnl, ← Nat.add_mul, ← Nat.add_mul]
    rw [show n + m + (cap - (n + m)) = cap by omega]
  have hd : HR ν h w.drew := hr.drew _
  have hal := hd.alloc (olds ++ news) ((olds' ++ news').toArray ++ Builtin.zeroCells z (cap - (n + m))) e (0, 0) (by
      rw [hsz, List.length_append, hol, hnl, ← Nat.add_mul]; exact Nat.mul_le_mul_right _ hcap)
    (fun j v hj => by
      obtain ⟨v', hv', hh⟩ := hvr.get hj
      refine ⟨v', ?_, hh⟩
      have hlt : j < (olds' ++ news').length := by
        rcases Nat.lt_or_ge j (olds' ++ news').length with q | q
        · exact q
        · rw [List.getElem?_eq_none q] at hv'; cases hv'
      rw [Array.getElem?_append_left (by simpa using hlt)]
      simpa using hv') (fun k _ => by simp)
  refine ⟨_, hal.1, Step.trans (Step.drew _) hal.2, VR.slice (o := 0) (Inj.put_same ν h.size _) hcap ?_⟩
  simp only [hsz]
  omega

theorem good_append {args : Array Operand} {ts : Array TypeId} (ho : o.op = .call { callee := .builtin .append, args, argTypes := ts }) {l : List LO} {lo : LOp LO} {lv : LOp Value} (hl : LOp.listM cLO args.toList = some l)
    (hc : cBuiltin P .append ts l = some lo) (hs : lo.sub rd = some lv) (hx : lexec q lv h = some (v, h')) (hr : HR ν h w) (hv : OpsR ν o.op rd ρ) : Good P o ρ ν h w v h' := by
  rcases l with _ | ⟨x, _ | ⟨y, _ | ⟨z, l⟩⟩⟩
  · simp [cBuiltin] at hc
  · simp [cBuiltin] at hc
  · obtain ⟨S, X, rfl, hS, hX⟩ := listM2 hl
    have hvS := hv S (by rw [ho]; simp [Op.operands, Call.operands]) x
    have hvX := hv X (by rw [ho]; simp [Op.operands, Call.operands]) y
    have hb : ∀ c, builtin .append ts o.type c (#[S, X].map ρ) = (do pure (.value (← Builtin.append_ ts o.type #[ρ S, ρ X]))) := fun c => by simp [builtin]
    have key : ∃ t tx e i, ts[0]? = some t ∧ ts[1]? = some tx ∧ P.underlying t = some (.slice e) ∧ P.info? e = some i ∧ i.size ≠ 0 ∧ (zeroOf P e).map (·.length) = some i.size ∧
        ((∃ e', P.underlying tx = some (.slice e')) ∨ P.underlying tx = some .string) ∧ lo = .append i.size i.bytes x y := by
      simp only [cBuiltin] at hc
      cases h0 : ts[0]? with
      | none => simp [h0] at hc
      | some t =>
        cases h1 : ts[1]? with
        | none => simp [h0, h1] at hc; split at hc <;> simp at hc
        | some tx =>
          rw [h0, h1] at hc
          simp only [Option.bind_some] at hc
          split at hc
          · rename_i e hu
            split at hc
            · rename_i i e' hi hk
              split at hc
              · rename_i hcond
                cases hc
                exact ⟨t, tx, e, i, rfl, rfl, hu, hi, hcond.1, hcond.2, .inl ⟨_, hk⟩, rfl⟩
              · cases hc
            · rename_i i hi hk
              split at hc
              · rename_i hcond
                cases hc
                exact ⟨t, tx, e, i, rfl, rfl, hu, hi, hcond.1, hcond.2, .inr hk, rfl⟩
              · cases hc
            · cases hc
          · cases hc
    obtain ⟨t, tx, e, i, ht0, ht1, hu, hi, hpos, hzl, hk, rfl⟩ := key
    obtain ⟨zz, hiz, hzs⟩ := zeroLen hi hzl
    obtain ⟨s, xv, hs1, hs2, rfl⟩ := sub_append hs
    have hvs := hvS s hS hs1
    have hvx := hvX xv hX hs2
    have hts : ∀ ty vs, Builtin.append_ ts ty vs = Builtin.append_ #[t, tx] ty vs := fun ty vs => by
      unfold Builtin.append_
      simp [ht0, ht1]
    simp only [lexec] at hx
    split at hx
    · -- onto nothing
      rename_i E m news hf
      split at hx
      · rename_i hm
        subst hm
        simp only [Option.some.injEq, Prod.mk.injEq] at hx
        obtain ⟨rfl, rfl⟩ := hx
        have hnews : news = [] := by
          have := firstCells_len hf
          simpa using this
        subst hnews
        obtain ⟨news', hn1, hsrc, _⟩ := hr.src (P := P) hf hvx rfl hk
        have := hn1.nil_inv
        subst this
        have he : ρ S = .slice none 0 0 := by
          generalize ρ S = u at hvs ⊢
          cases hvs; rfl
        refine Good.pure hr (bi_run ho hb ?_) (.snil)
        rw [hts, he]
        exact run_append_nothing w t tx _ e i hu hi none 0 0 (Nat.le_refl _) _ hsrc
      · rename_i hm
        split at hx
        · rename_i hcond
          obtain ⟨hroom, hone⟩ := hcond
          simp only [roomOk, Bool.and_eq_true, decide_eq_true_eq] at hroom
          obtain ⟨hroom, hroom2⟩ := hroom
          simp only [Option.some.injEq, Prod.mk.injEq] at hx
          obtain ⟨rfl, rfl⟩ := hx
          obtain ⟨news', hn1, hsrc, hnl⟩ := hr.src (P := P) hf hvx hone hk
          have he : ρ S = .slice none 0 0 := by
            generalize ρ S = u at hvs ⊢
            cases hvs; rfl
          have hrun := run_append_grow_src (P := P) w t tx o.type e i zz hu hi hiz none 0 0 [] (run_firstCells_none w.drew i.size 0 0 0) (ρ X) m news' hsrc (by omega) (by omega) (growslice_fits (by omega) (by simpa using hroom))
          simp only [Nat.zero_add, List.nil_append] at hrun
          obtain ⟨ν', g1, g2, g3⟩ := grow_good (h := h) (e := e) hr (VRs.nil ν) hn1 (n := 0) (m := m) (E := i.size) (by simp) hnl hzs (cap := grownCap w m 0 e) (by rw [Nat.zero_add]; exact grownCap_need _ _ _ _)
          simp only [Nat.zero_add, List.nil_append] at g1 g2 g3
          refine ⟨ν', _, _, .inl (bi_run ho hb ?_), g3, g1, g2⟩
          rw [hts, he]
          exact hrun
        · cases hx
    · -- onto a slice
      rename_i b k n E m news hf
      split at hx
      · rename_i hcond
        obtain ⟨hE, hone, hroom⟩ := hcond
        subst hE
        simp only [roomOk, Bool.and_eq_true, decide_eq_true_eq] at hroom
        obtain ⟨hroom, hroom2⟩ := hroom
        split at hx
        · rename_i cs tip rw' hg
          split at hx
          · rename_i htip
            split at hx
            · rename_i hm
              subst hm
              have hnews : news = [] := by
                have := firstCells_len hf
                simpa using this
              subst hnews
              simp only [Option.some.injEq, Prod.mk.injEq] at hx
              obtain ⟨rfl, rfl⟩ := hx
              obtain ⟨news', hn1, hsrc, _⟩ := hr.src (P := P) hf hvx rfl hk
              have := hn1.nil_inv
              subst this
              have hcapx : ∃ a' cap, ρ S = .slice (some a') n cap ∧ n ≤ cap := by
                generalize ρ S = u at hvs ⊢
                cases hvs with
                | slice _ hle _ => exact ⟨_, _, rfl, hle⟩
                | sempty => exact ⟨_, _, rfl, Nat.le_refl _⟩
              obtain ⟨a', cap, he, hle⟩ := hcapx
              refine Good.pure hr (bi_run ho hb ?_) hvs
              rw [hts, he]
              exact run_append_nothing w t tx _ e i hu hi (some a') n cap hle _ hsrc
            · rename_i hm
              simp only [Option.some.injEq, Prod.mk.injEq] at hx
              obtain ⟨rfl, rfl⟩ := hx
              obtain ⟨htip, hend⟩ := htip.resolve_right hm
              subst htip
              obtain ⟨news', hn1, hsrc, hnl⟩ := hr.src (P := P) hf hvx hone hk
              have hbs : ∀ {pl}, ν b = some pl → b < h.size := fun hb => hr.dom b _ hb
              have grows : ∀ (a' : Addr) (cap : Nat) (olds' : List Value), ρ S = .slice (some a') n cap → cap < n + m → VRs ν (cs.drop k) olds' → olds'.length = n * i.size →
                  (∀ (j : Nat) u, olds'[j]? = some u → w.cell? (a'.add j) = some u) → Good P o ρ ν h w (.slice (some ⟨h.size, 0, none⟩) (n + m) i.size) ((h.set b .dead).push (.cells (cs.drop k ++ news) true true)) := by
                intro a' cap olds' he hlt hvo hol hcell
                have hrun := run_append_grow_src (P := P) w t tx o.type e i zz hu hi hiz (some a') n cap olds' (run_firstCells_some w.drew i.size n a' n cap olds' hol (fun j u hj => by simpa using hcell j u hj)) (ρ X) m news' hsrc hlt (by omega) (growslice_fits hlt (by simpa using hroom))
                obtain ⟨k1, k2⟩ := hr.kill b
                obtain ⟨ν', g1, g2, g3⟩ := grow_good (e := e) k1 hvo hn1 (n := n) (m := m) (E := i.size) (by rw [hvo.1, hol]) hnl hzs (cap := grownCap w (n + m) cap e) (grownCap_need _ _ _ _)
                refine ⟨ν', _, _, .inl (bi_run ho hb ?_), g3, g1, k2.trans g2⟩
                rw [hts, he]
                exact hrun
              have hdl : (cs.drop k).length = n * i.size := by simp; omega
              have hvs0 := hvs
              generalize hρ : ρ S = u at hvs
              cases hvs with
              | slice hbp hle hfin =>
                rename_i cap pl
                by_cases hcap : n + m ≤ cap
                · obtain ⟨c, ee, fz, c1, c2, c3, c4, c5, c6⟩ := hr.cells hbp hg
                  have hrw : rw' = true := c4 rfl
                  subst hrw
                  have hmul : (n + m) * i.size ≤ cap * i.size := Nat.mul_le_mul_right _ hcap
                  rw [Nat.add_mul] at hmul
                  have hfit : pl.base + cs.length + news.length ≤ pl.fin := by omega
                  have hn1l := hn1.1
                  have hrun := run_append_room_src (P := P) w t tx o.type e i hu hi pl.B (pl.base + k) n cap (ρ X) m news' hsrc hcap (fun j hj => by
                      rw [cell?_of_heap c1]; simp; omega) (fun j hj => frozen?_of_heap c1 (c6 rfl _ (by omega)))
                  rw [show pl.base + k + n * i.size = pl.base + cs.length by omega] at hrun
                  obtain ⟨g1, g2⟩ := hr.grow hbp hg hfit hn1
                  obtain ⟨m1, m2⟩ := g1.move (o := k) (cs := cs ++ news) hbp (by simp) (by rw [List.length_append]; omega)
                  have hget : ∀ c, ((((h.set b (.cells (cs ++ news) true true)).set b .dead).push (.cells ((cs ++ news).drop k) true true)).get c) = (((h.set b .dead).push (.cells (cs.drop k ++ news) true true)).get c) := by
                    intro c
                    have hkl : k ≤ cs.length := by omega
                    simp only [LHeap.get_push, LHeap.get_set, LHeap.size_set]
                    rw [List.drop_append_of_le_length hkl]
                    split
                    · rfl
                    · split <;> rfl
                  refine ⟨_, .slice (some ⟨pl.B, pl.base + k, none⟩) (n + m) cap, _, .inl (bi_run ho hb ?_), ?_, m1.congr hget rfl, (g2.trans m2).congr hget rfl⟩
                  · rw [hts]
                    simp only [hρ]
                    exact hrun
                  · refine VR.slice (o := 0) (Inj.put_same ν h.size _) hcap ?_
                    simp only []
                    omega
                · have hvo : ∃ olds', VRs ν (cs.drop k) olds' ∧ ∀ (j : Nat) u, olds'[j]? = some u → w.cell? ⟨pl.B, pl.base + k + j, none⟩ = some u := by
                    have hld : h.loadCells b k (n * i.size) = some (cs.drop k) := by
                      unfold LHeap.loadCells
                      rw [hg]
                      simp only
                      rw [if_pos (by omega), List.take_of_length_le (by omega)]
                    obtain ⟨_, olds', hvo, hcell⟩ := hr.loadCells hld hbp
                    exact ⟨olds', hvo, hcell⟩
                  obtain ⟨olds', hvo, hcell⟩ := hvo
                  exact grows _ cap olds' hρ (by omega) hvo (by rw [← hvo.1, hdl]) (fun j u hj => by rw [add_plain]; exact hcell j u hj)
              | sempty =>
                rename_i a'
                have : cs.drop k = [] := List.eq_nil_of_length_eq_zero (by simpa using hdl)
                exact grows a' 0 [] hρ (by omega) (by rw [this]; exact .nil ν) (by simp) (by simp)
          · cases hx
        · cases hx
      · cases hx
    · cases hx
  · simp [cBuiltin] at hc

end
end Go.E1
