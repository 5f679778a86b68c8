/-
  Equality of structs and arrays whose cells are truth values, numbers and strings.
-/
import Derived.Test.YtmopgljjpmepnaaE1Wp
import Derived.Laws.StructEq
import Derived.ChangeKeysEq
namespace Go.E1
open Go

inductive Leaf where
  | bool | int | str
  deriving DecidableEq

def leafEq : Leaf → Value → Value → Option Bool
  | .bool, .bool a, .bool b => some (a == b)
  | .int, .int k a, .int l b => if k = l then some (a == b) else none
  | .str, .string a, .string b => some (a.data.toList == b.data.toList)
  | _, _, _ => none

def cellsEq : List Leaf → List Value → List Value → Option Bool
  | [], _, _ => some true
  | l :: ls, x :: xs, y :: ys => match leafEq l x y, cellsEq ls xs ys with
    | some a, some b => some (a && b)
    | _, _ => none
  | _, _, _ => none

theorem cellsEq_append : ∀ {L M : List Leaf} {xs ys : List Value} {b : Bool}, cellsEq (L ++ M) xs ys = some b →
    ∃ p q, cellsEq L (xs.take L.length) (ys.take L.length) = some p ∧ cellsEq M (xs.drop L.length) (ys.drop L.length) = some q ∧ b = (p && q)
  | [], M, xs, ys, b, h => ⟨true, b, by simp [cellsEq], by simpa using h, by simp⟩
  | l :: L, M, xs, ys, b, h => by
    cases xs with
    | nil => simp [cellsEq] at h
    | cons x xs =>
      cases ys with
      | nil => simp [cellsEq] at h
      | cons y ys =>
        simp only [List.cons_append, cellsEq] at h
        split at h
        · rename_i p q h1 h2
          cases h
          obtain ⟨p', q', h3, h4, rfl⟩ := cellsEq_append h2
          exact ⟨p && p', q', by simp [cellsEq, h1, h3], by simpa using h4, by simp [Bool.and_assoc]⟩
        · cases h

section
variable (P : Program)
mutual
def flatT : Nat → TypeId → Option (List Leaf)
  | 0, _ => none
  | d + 1, t => match P.underlying t with
    | some .bool => some [.bool]
    | some (.int _) => some [.int]
    | some .string => some [.str]
    | some (.struct fs) => if P.stoodInHeld t then none else flatFs d 0 fs.toList
    | some (.array n e) => match flatT d e, P.info? e with
      | some L, some i => if i.size = L.length ∧ L.length ≠ 0 then some (List.replicate n L).flatten else none
      | _, _ => none
    | _ => none
def flatFs : Nat → Nat → List Field → Option (List Leaf)
  | 0, _, _ => none
  | _ + 1, _, [] => some []
  | d + 1, off, f :: fs => if f.name ≠ "_" ∧ f.offset = off then
      match flatT d f.type, P.info? f.type with
      | some L, some i => if i.size = L.length ∧ L.length ≠ 0 then (flatFs d (off + L.length) fs).map (L ++ ·) else none
      | _, _ => none
    else none
end
end

def Formed (P : Program) (t : TypeId) (x : Value) : Prop :=
  (∃ a, x = .agg a ∧ isAggP P t = some true) ∨ (isAggP P t = some false ∧ x.cells = #[x])

variable {P : Program}

theorem leafAgg {t : TypeId} {d : TypeDesc} (hu : P.underlying t = some d) (h : d = .bool ∨ (∃ k, d = .int k) ∨ d = .string) : isAggP P t = some false := by
  rcases h with rfl | ⟨k, rfl⟩ | rfl <;> simp [isAggP, hu]

/-- A part of an aggregate, and its cells. -/
theorem part_formed {t : TypeId} {d : Nat} {L : List Leaf} (hf : flatT P d t = some L) {i : TypeInfo} (hi : P.info? t = some i) (hsz : i.size = L.length) {xs : Array Value} {off : Nat} (w : World) (hlen : off + L.length ≤ xs.size) :
    ∃ v, (part t xs off).run P w = .ok v w ∧ Formed P t v ∧ v.cells.toList = (xs.toList.drop off).take L.length ∨ (∃ x, xs[off]? = some x ∧ isAggP P t = some false ∧ L.length = 1 ∧ (part t xs off).run P w = .ok x w) := by
  cases d with
  | zero => simp [flatT] at hf
  | succ d =>
    have leaf : ∀ l, isAggP P t = some false → L = [l] → ∃ x, xs[off]? = some x ∧ isAggP P t = some false ∧ L.length = 1 ∧ (part t xs off).run P w = .ok x w := by
      intro l ha hL
      subst hL
      simp only [List.length_singleton] at hlen
      exact ⟨xs[off], by simp [show off < xs.size by omega], ha, rfl, run_part1 ha (by simp [show off < xs.size by omega]) w⟩
    have agg : isAggP P t = some true → ∃ v, (part t xs off).run P w = .ok v w ∧ Formed P t v ∧ v.cells.toList = (xs.toList.drop off).take L.length := by
      intro ha
      refine ⟨_, run_partN ha (n := L.length) (by simp [sizeP, hi, hsz]) w, .inl ⟨_, rfl, ha⟩, ?_⟩
      simp [Value.cells, Array.toList_extract, List.extract]
    unfold flatT at hf
    split at hf
    · rename_i hu; cases hf; exact ⟨.bool true, .inr (leaf _ (leafAgg hu (.inl rfl)) rfl)⟩
    · rename_i hu; cases hf; exact ⟨.bool true, .inr (leaf _ (leafAgg hu (.inr (.inl ⟨_, rfl⟩))) rfl)⟩
    · rename_i hu; cases hf; exact ⟨.bool true, .inr (leaf _ (leafAgg hu (.inr (.inr rfl))) rfl)⟩
    · rename_i hu; obtain ⟨v, hv⟩ := agg (by simp [isAggP, hu]); exact ⟨v, .inl hv⟩
    · rename_i hu; obtain ⟨v, hv⟩ := agg (by simp [isAggP, hu]); exact ⟨v, .inl hv⟩
    · cases hf

/-- What is shown of a type: its values are equal just if their cells are. -/
def EqAll (P : Program) (D : Nat) (t : TypeId) (L : List Leaf) : Prop :=
  (isAggP P t = some true → ∀ xs ys b w, cellsEq L xs.toList ys.toList = some b → (Op.equalIn D t (.agg xs) (.agg ys)).run P w = .ok b w) ∧
  (isAggP P t = some false → ∀ x y b w, cellsEq L [x] [y] = some b → (Op.equalIn D t x y).run P w = .ok b w)

theorem take_cells {L : List Leaf} {xs ys : List Value} {b : Bool} (h : cellsEq L xs ys = some b) : L.length ≤ xs.length ∧ L.length ≤ ys.length := by
  induction L generalizing xs ys b with
  | nil => simp
  | cons l L ih =>
    cases xs with
    | nil => simp [cellsEq] at h
    | cons x xs =>
      cases ys with
      | nil => simp [cellsEq] at h
      | cons y ys =>
        simp only [cellsEq] at h
        split at h
        · rename_i h2
          have := ih h2
          simp; omega
        · cases h

/-- One part on both sides. -/
theorem part_eq {D d off : Nat} {t : TypeId} {L : List Leaf} (hE : EqAll P D t L) (hf : flatT P d t = some L) {i : TypeInfo} (hi : P.info? t = some i) (hsz : i.size = L.length) {xs ys : Array Value} {p : Bool}
    (hp : cellsEq L ((xs.toList.drop off).take L.length) ((ys.toList.drop off).take L.length) = some p) (hx : off + L.length ≤ xs.size) (hy : off + L.length ≤ ys.size) (w : World) :
    ∃ a b, (part t xs off).run P w = .ok a w ∧ (part t ys off).run P w = .ok b w ∧ (Op.equalIn D t a b).run P w = .ok p w := by
  cases hagg : isAggP P t with
  | none =>
    obtain ⟨v, h | ⟨x, _, h, _⟩⟩ := part_formed hf hi hsz (xs := xs) w hx
    · rcases h.2.1 with ⟨a, _, h⟩ | ⟨h, _⟩ <;> simp [hagg] at h
    · simp [hagg] at h
  | some g =>
    cases g
    · obtain ⟨v, h | ⟨x, h1, _, h3, h4⟩⟩ := part_formed hf hi hsz (xs := xs) w hx
      · rcases h.2.1 with ⟨a, _, h⟩ | ⟨h', hc⟩
        · simp [hagg] at h
        · obtain ⟨u, k | ⟨y, k1, _, k3, k4⟩⟩ := part_formed hf hi hsz (xs := ys) w hy
          · rcases k.2.1 with ⟨a, _, k⟩ | ⟨k', kc⟩
            · simp [hagg] at k
            · refine ⟨v, u, h.1, k.1, hE.2 hagg v u p w ?_⟩
              rw [← h.2.2, ← k.2.2, hc, kc] at hp
              simpa using hp
          · refine ⟨v, y, h.1, k4, hE.2 hagg v y p w ?_⟩
            rw [← h.2.2, hc, k3] at hp
            have : (ys.toList.drop off).take 1 = [y] := by
              obtain ⟨hlt, rfl⟩ := Array.getElem?_eq_some_iff.1 k1
              rw [List.drop_eq_getElem_cons (by simpa using hlt)]
              simp
            rw [this] at hp
            simpa using hp
      · obtain ⟨u, k | ⟨y, k1, _, k3, k4⟩⟩ := part_formed hf hi hsz (xs := ys) w hy
        · rcases k.2.1 with ⟨a, _, k⟩ | ⟨k', kc⟩
          · simp [hagg] at k
          · refine ⟨x, u, h4, k.1, hE.2 hagg x u p w ?_⟩
            rw [← k.2.2, kc, h3] at hp
            have : (xs.toList.drop off).take 1 = [x] := by
              obtain ⟨hlt, rfl⟩ := Array.getElem?_eq_some_iff.1 h1
              rw [List.drop_eq_getElem_cons (by simpa using hlt)]
              simp
            rw [this] at hp
            simpa using hp
        · refine ⟨x, y, h4, k4, hE.2 hagg x y p w ?_⟩
          rw [h3] at hp
          have e1 : (xs.toList.drop off).take 1 = [x] := by
            obtain ⟨hlt, rfl⟩ := Array.getElem?_eq_some_iff.1 h1
            rw [List.drop_eq_getElem_cons (by simpa using hlt)]
            simp
          have e2 : (ys.toList.drop off).take 1 = [y] := by
            obtain ⟨hlt, rfl⟩ := Array.getElem?_eq_some_iff.1 k1
            rw [List.drop_eq_getElem_cons (by simpa using hlt)]
            simp
          rw [e1, e2] at hp
          exact hp
    · refine ⟨_, _, run_partN hagg (n := L.length) (by simp [sizeP, hi, hsz]) w, run_partN hagg (n := L.length) (by simp [sizeP, hi, hsz]) w, hE.1 hagg _ _ p w ?_⟩
      simpa [Array.toList_extract, List.extract] using hp

theorem fields_eq {D : Nat} (xs ys : Array Value) : ∀ (fs : List Field) (d off : Nat) (L : List Leaf), (∀ d' t L, flatT P d' t = some L → d' < d → EqAll P D t L) → flatFs P d off fs = some L →
    ∀ b w, cellsEq L (xs.toList.drop off) (ys.toList.drop off) = some b → (Op.eqFields D xs ys fs).run P w = .ok b w
  | [], d, off, L, hE, hf, b, w, hb => by
    cases d with
    | zero => simp [flatFs] at hf
    | succ d =>
      simp only [flatFs, Option.some.injEq] at hf
      subst hf
      simp only [cellsEq, Option.some.injEq] at hb
      subst hb
      simp [Op.eqFields]
  | f :: fs, d, off, L, hE, hf, b, w, hb => by
    cases d with
    | zero => simp [flatFs] at hf
    | succ d =>
      simp only [flatFs] at hf
      split at hf
      · rename_i hn
        split at hf
        · rename_i L₁ i hL hi
          split at hf
          · rename_i hsz
            obtain ⟨M, hM, rfl⟩ := map_some hf
            obtain ⟨p, q, h1, h2, rfl⟩ := cellsEq_append hb
            have hlen := take_cells h1
            simp only [List.length_take, List.length_drop, Array.length_toList] at hlen
            have hlen2 := take_cells hb
            simp only [List.length_append, List.length_drop, Array.length_toList] at hlen2
            obtain ⟨x, y, g1, g2, g3⟩ := part_eq (hE d f.type L₁ hL (Nat.lt_succ_self _)) hL hi hsz.1 (xs := xs) (ys := ys) (off := off) h1 (by have := hsz.2; omega) (by have := hsz.2; omega) w
            simp only [Op.eqFields, hn.1, ne_eq, not_false_eq_true, if_true, hn.2, Sem.run_bind, g1, g2, g3, Result.andThen_ok]
            cases p
            · simp
            · simp only [Bool.not_true, Bool.false_eq_true, if_false, Bool.true_and]
              exact fields_eq xs ys fs d (off + L₁.length) M (fun d' t L h hd => hE d' t L h (Nat.lt_succ_of_lt hd)) hM q w (by simpa [List.drop_drop] using h2)
          · cases hf
        · cases hf
      · cases hf

theorem items_eq {D d : Nat} {e : TypeId} {L : List Leaf} (hE : EqAll P D e L) (hL : flatT P d e = some L) {i : TypeInfo} (hi : P.info? e = some i) (hsz : i.size = L.length) (h0 : L.length ≠ 0) (xs ys : Array Value) :
    ∀ (n k : Nat) (b : Bool) (w : World), cellsEq (List.replicate n L).flatten (xs.toList.drop (k * L.length)) (ys.toList.drop (k * L.length)) = some b → (Op.eqItems D e L.length xs ys (List.range' k n)).run P w = .ok b w
  | 0, k, b, w, hb => by
    simp only [List.replicate_zero, List.flatten_nil, cellsEq, Option.some.injEq] at hb
    subst hb
    simp [Op.eqItems]
  | n + 1, k, b, w, hb => by
    simp only [List.replicate_succ, List.flatten_cons] at hb
    obtain ⟨p, q, h1, h2, rfl⟩ := cellsEq_append hb
    have hlen := take_cells h1
    simp only [List.length_take, List.length_drop, Array.length_toList] at hlen
    obtain ⟨x, y, g1, g2, g3⟩ := part_eq hE hL hi hsz (xs := xs) (ys := ys) (off := k * L.length) h1 (by omega) (by omega) w
    simp only [List.range'_succ, Op.eqItems, Sem.run_bind, g1, g2, g3, Result.andThen_ok]
    cases p
    · simp
    · simp only [Bool.not_true, Bool.false_eq_true, if_false, Bool.true_and]
      refine items_eq hE hL hi hsz h0 xs ys n (k + 1) q w ?_
      simpa [List.drop_drop, Nat.add_mul, Nat.add_comm] using h2

theorem flat_eq : ∀ (d : Nat) (t : TypeId) (L : List Leaf), flatT P d t = some L → ∀ D, d ≤ D → EqAll P D t L := by
  intro d
  induction d using Nat.strongRecOn with
  | ind d ih =>
    intro t L hf D hD
    cases d with
    | zero => simp [flatT] at hf
    | succ d =>
      obtain ⟨D, rfl⟩ : ∃ D', D = D' + 1 := ⟨D - 1, by omega⟩
      have single : ∀ {l : Leaf} {x y : Value} {b : Bool}, cellsEq [l] [x] [y] = some b → leafEq l x y = some b := by
        intro l x y b h
        simp only [cellsEq] at h
        split at h
        · rename_i h1 h2
          cases h2
          cases h
          simpa using h1
        · cases h
      unfold flatT at hf
      split at hf
      · rename_i hu
        cases hf
        refine ⟨fun h => by simp [isAggP, hu] at h, fun _ x y b w hb => ?_⟩
        have hb := single hb
        cases x <;> cases y <;> simp [leafEq] at hb
        subst hb
        exact run_equalIn_bool w D t _ _ hu
      · rename_i hu
        cases hf
        refine ⟨fun h => by simp [isAggP, hu] at h, fun _ x y b w hb => ?_⟩
        have hb := single hb
        cases x <;> cases y <;> simp [leafEq] at hb
        obtain ⟨e1, e2⟩ := hb
        subst e1
        subst e2
        exact run_equalIn_int w D t _ _ _ _ hu
      · rename_i hu
        cases hf
        refine ⟨fun h => by simp [isAggP, hu] at h, fun _ x y b w hb => ?_⟩
        have hb := single hb
        cases x <;> cases y <;> simp only [leafEq, Option.some.injEq] at hb <;> first | (cases hb; done) | skip
        subst hb
        rw [← ByteArray.toList_eq, ← ByteArray.toList_eq]
        exact run_equalIn_string w D t _ _ hu
      · rename_i fs hu
        split at hf
        · cases hf
        · rename_i hs
          refine ⟨fun _ xs ys b w hb => ?_, fun h => by simp [isAggP, hu] at h⟩
          have hfs : P.fieldsOf t = fs := by simp [Program.fieldsOf, hu]
          rw [run_equalIn_struct w D t xs ys (by rw [hfs]; exact hu) (by simpa using hs), hfs]
          exact fields_eq xs ys fs.toList d 0 L (fun d' t L h hd => ih d' (by omega) t L h D (by omega)) hf b w (by simpa using hb)
      · rename_i n e hu
        split at hf
        · rename_i M i hM hi
          split at hf
          · rename_i hsz
            cases hf
            refine ⟨fun _ xs ys b w hb => ?_, fun h => by simp [isAggP, hu] at h⟩
            rw [run_equalIn_array w D xs ys hu hi, List.range_eq_range']
            have hc : P.cellsOf e = M.length := by simp [Program.cellsOf, hi, hsz.1]
            rw [hc]
            exact items_eq (ih d (by omega) e M hM D (by omega)) hM hi hsz.1 hsz.2 xs ys n 0 b w (by simpa using hb)
          · cases hf
        · cases hf
      · cases hf

theorem cellsEq_VR {ν : Inj} : ∀ {L : List Leaf} {xs ys xs' ys' : List Value} {b : Bool}, cellsEq L xs ys = some b → VRs ν xs xs' → VRs ν ys ys' → cellsEq L xs' ys' = some b
  | [], _, _, _, _, b, h, _, _ => by simpa [cellsEq] using h
  | l :: L, xs, ys, xs', ys', b, h, hx, hy => by
    cases xs with
    | nil => simp [cellsEq] at h
    | cons x xs =>
      cases ys with
      | nil => simp [cellsEq] at h
      | cons y ys =>
        simp only [cellsEq] at h
        split at h
        · rename_i p q h1 h2
          cases h
          obtain ⟨x', xs', rfl, hx1, hx2⟩ := hx.cons_inv
          obtain ⟨y', ys', rfl, hy1, hy2⟩ := hy.cons_inv
          have e : leafEq l x' y' = some p := by
            cases l <;> cases hx1 <;> cases hy1 <;> simp only [leafEq] at h1 ⊢ <;> first | exact h1 | (cases h1; done)
          simp only [cellsEq, e, cellsEq_VR h2 hx2 hy2]
        · cases h

/-- The seat's table of such types. -/
def qOf (tab : List (TypeId × List Leaf)) : EqF := fun t x y =>
  match tab.lookup t, x, y with
  | some L, .agg xs, .agg ys => cellsEq L xs.toList ys.toList
  | _, _, _ => none

theorem qOf_ok {tab : List (TypeId × List Leaf)} (h : tab.all (fun p => decide (flatT P 50 p.1 = some p.2 ∧ isAggP P p.1 = some true ∧ P.eqGuardType P.depth p.1 = false)) = true) : QOk P (qOf tab) := by
  have look : ∀ {t L}, tab.lookup t = some L → flatT P 50 t = some L ∧ isAggP P t = some true ∧ P.eqGuardType P.depth t = false := by
    intro t L hl
    induction tab with
    | nil => simp at hl
    | cons p tab ih =>
      simp only [List.all_cons, Bool.and_eq_true, decide_eq_true_eq] at h
      simp only [List.lookup] at hl
      split at hl
      · rename_i e
        cases hl
        have : t = p.1 := by simpa using e
        subst this
        exact h.1
      · exact ih h.2 hl
  constructor
  · intro t x y b hq ν x' y' w hx hy
    simp only [qOf] at hq
    split at hq
    · rename_i L xs ys hl
      obtain ⟨h1, h2, h3⟩ := look hl
      cases hx with
      | agg hs hx =>
        cases hy with
        | agg hs2 hy =>
          exact (flat_eq 50 t L h1 10000 (by omega)).1 h2 _ _ b w (cellsEq_VR hq (VRs.of_agg (.agg hs hx)) (VRs.of_agg (.agg hs2 hy)))
    · cases hq
  · intro t x y b hq
    simp only [qOf] at hq
    split at hq
    · rename_i hl
      exact (look hl).2.2
    · cases hq

end Go.E1
