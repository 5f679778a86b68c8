/-
  Texts joined: EV, Awk.
-/
import Derived.Test.YtmafdmpmilhnfaaGreatDoorKk
import Derived.Test.YtmafdmpmilhnfaaGreatDoorKh
import Derived.Test.YtmafdmpmilhnfaaGreatDoorKe
/-
 The environment with slices.Delete and slices.Sorted; the fixed answer of layer 26 is a closed run.
-/
namespace Go.E1
open Go Go.Proofs

noncomputable def EV : Env := ((EI.put 195 (delP 3 zcA)).put 212 (delP 11 zcB)).put 163 sortedP
theorem EV_ok : EnvOk Tryz.prog EV :=
 ((EI_ok.put 195 (delP 3 zcA) fun _ _ _ _ => delP_sound_A).put 212 (delP 11 zcB) fun _ _ _ _ => delP_sound_B).put 163 sortedP fun _ _ _ _ => sortedP_sound

theorem runAwake26 : isRun EV 100 8 [] (.bool true) = true := by
 unfold isRun
 rw [← F.ev_eq]
 kernel_rfl
end Go.E1

/-
 Layer 26: the environment of the walks; the fixed answer is a primitive.
-/
namespace Go.E1
open Go Go.Proofs

def gAwake : List Value → Option Value
 | [] => some (.bool true)
 | _ => none
noncomputable def EC : Env := EV.add 8 gAwake
theorem EC_ok : EnvOk Tryz.prog EC :=
 add_run (f := 8) (g := gAwake) EV_ok EV_ok fun args v h => by
  unfold gAwake at h
  split at h
  ·cases h
   exact ⟨rfl, rfl, .inl ⟨_, runAwake26⟩⟩
  ·cases h
@[go_sem] theorem EC_prim (i : FuncId) : EC.prim i = (EV.add 8 gAwake).prim i := Eq.trans rfl rfl
@[go_sem] theorem EV_prim (i : FuncId) : EV.prim i = (((EI.put 195 (delP 3 zcA)).put 212 (delP 11 zcB)).put 163 sortedP).prim i := Eq.trans rfl rfl
attribute [go_sem] gAwake
end Go.E1
