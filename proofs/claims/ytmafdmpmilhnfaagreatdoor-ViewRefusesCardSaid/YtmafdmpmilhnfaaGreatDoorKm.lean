/-
 The environment with slices.Delete and slices.Sorted; the fixed answer of layer 26 is a closed run.
-/
import Derived.Test.YtmafdmpmilhnfaaGreatDoorKk
import Derived.Test.YtmafdmpmilhnfaaGreatDoorKh
namespace Go.E1
open Go Go.Proofs

noncomputable def EV : Env := ((EI.put 195 (delP 3 zcA)).put 212 (delP 11 zcB)).put 163 sortedP
theorem EV_ok : EnvOk Tryz.prog EV :=
 ((EI_ok.put 195 (delP 3 zcA) fun _ _ _ _ => delP_sound_A).put 212 (delP 11 zcB) fun _ _ _ _ => delP_sound_B).put 163 sortedP fun _ _ _ _ => sortedP_sound

theorem runAwake26 : isRun EV 100 8 [] (.bool true) = true := by
 unfold isRun
 rw [← F.ev_eq]
 kernel_rfl
end Go.E1
