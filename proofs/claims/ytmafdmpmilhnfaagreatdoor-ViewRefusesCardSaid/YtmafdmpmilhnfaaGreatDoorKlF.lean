/-
  The engine's code of some functions, printed by a small program, and that it is what the loaded functions become.
-/
import Derived.Test.YtmafdmpmilhnfaaGreatDoorProg
import Derived.Test.YtmafdmpmilhnfaaGreatDoorKlQ
namespace Go.E1
open Go Go.Proofs
def lf30 : LFunc := ⟨26,[.tmp 4,.tmp 5],.seq (.region [⟨some 4,.op (.mov (.c (.int .i64 0))),none⟩,⟨some 5,.op (.mov (.c (.bool false))),none⟩] [0,1]) (.seq (.seq (.region [⟨some 6,.op (.mov (.t 0)),none⟩,⟨some 7,.op (.bin .lss .basic (.t 6) (.c (.int .i64 1))),none⟩,⟨some 8,.op (.mov (.t 7)),none⟩,⟨some 9,.op (.mov (.t 0)),some (8,false)⟩,⟨some 10,.op (.bin .gtr .basic (.t 9) (.c (.int .i64 2147483647))),some (8,false)⟩,⟨some 11,.pick (.t 8) (.c (.bool true)) (.t 10),none⟩,⟨some 12,.op (.mov (.t 11)),none⟩,⟨some 13,.op (.mov (.t 0)),some (12,false)⟩,⟨some 14,.op (.bin .and .basic (.t 13) (.c (.int .i64 1))),some (12,false)⟩,⟨some 15,.op (.bin .eql .basic (.t 14) (.c (.int .i64 0))),some (12,false)⟩,⟨some 16,.pick (.t 12) (.c (.bool true)) (.t 15),none⟩,⟨some 17,.op (.mov (.t 16)),none⟩,⟨some 18,.op (.mov (.t 1)),some (17,false)⟩,⟨some 19,.call (.c (.func (.func 55) #[] #[])) [.t 18],some (17,false)⟩,⟨some 20,.op (.un .not (.t 19)),some (17,false)⟩,⟨some 21,.pick (.t 17) (.c (.bool true)) (.t 20),none⟩] [0,1,21]) (.cond (.t 21) (.seq (.region [⟨some 4,.op (.mov (.c (.int .i64 0))),none⟩,⟨some 5,.op (.mov (.c (.bool false))),none⟩] [4,5]) (.ret)) (.skip))) (.seq (.region [⟨some 22,.op (.mov (.t 0)),none⟩,⟨some 23,.op (.bin .quo .basic (.t 22) (.c (.int .i64 2))),none⟩,⟨some 24,.op (.mov (.t 1)),none⟩,⟨some 25,.op (.bin .rem .basic (.t 23) (.t 24)),none⟩,⟨some 4,.op (.mov (.t 25)),none⟩,⟨some 5,.op (.mov (.c (.bool true))),none⟩] [4,5]) (.ret)))⟩
theorem lf30_ok : cFunc Tryz.prog Tryz.f30 [[0,1],[0,1,21],[4,5],[4,5]] = some lf30 := by kernel_rfl
def lf55 : LFunc := ⟨9,[.tmp 2],.seq (.region [⟨some 2,.op (.mov (.c (.bool false))),none⟩] [0]) (.seq (.region [⟨some 3,.op (.mov (.t 0)),none⟩,⟨some 4,.op (.bin .geq .basic (.t 3) (.c (.int .i64 1))),none⟩,⟨some 5,.op (.mov (.t 4)),none⟩,⟨some 6,.op (.mov (.t 0)),some (5,true)⟩,⟨some 7,.op (.bin .leq .basic (.t 6) (.c (.int .i64 64))),some (5,true)⟩,⟨some 8,.pick (.t 5) (.t 7) (.c (.bool false)),none⟩,⟨some 2,.op (.mov (.t 8)),none⟩] [2]) (.ret))⟩
theorem lf55_ok : cFunc Tryz.prog Tryz.f55 [[0],[2]] = some lf55 := by kernel_rfl
def ks56 : List (List Nat) := [[0,1,2],[0,1,2,29],[6,7],[6,7]]
noncomputable def cf56 : LFunc := cq (cFunc Tryz.prog Tryz.f56 ks56)
theorem cf56_ok : cFunc Tryz.prog Tryz.f56 ks56 = some cf56 := cq_ok (by kernel_rfl)
def ks57 : List (List Nat) := [[0,1],[0,1,16],[4,5],[4,5]]
noncomputable def cf57 : LFunc := cq (cFunc Tryz.prog Tryz.f57 ks57)
theorem cf57_ok : cFunc Tryz.prog Tryz.f57 ks57 = some cf57 := cq_ok (by kernel_rfl)
def ks58 : List (List Nat) := [[0],[4],[4,13],[2,3],[4,5],[4,5],[5,23,24,25],[5,23,24,25,26],[5,7,23,24,25],[5,8,23,24,25],[5,23,24,25],[5,23,24,25],[2,3]]
noncomputable def cf58 : LFunc := cq (cFunc Tryz.prog Tryz.f58 ks58)
theorem cf58_ok : cFunc Tryz.prog Tryz.f58 ks58 = some cf58 := cq_ok (by kernel_rfl)
def ks63 : List (List Nat) := [[0,1,5],[0,5,7],[0,5,7,11],[6],[5,7,14],[6],[5,7],[],[6]]
noncomputable def cf63 : LFunc := cq (cFunc Tryz.prog Tryz.f63 ks63)
theorem cf63_ok : cFunc Tryz.prog Tryz.f63 ks63 = some cf63 := cq_ok (by kernel_rfl)
def ks64 : List (List Nat) := [[0,1],[0,1,13],[4,5],[4,5]]
noncomputable def cf64 : LFunc := cq (cFunc Tryz.prog Tryz.f64 ks64)
theorem cf64_ok : cFunc Tryz.prog Tryz.f64 ks64 = some cf64 := cq_ok (by kernel_rfl)
def ks66 : List (List Nat) := [[0,1],[0,1,6],[1,6,11,12,13],[1,6,11,12,13,14],[1,6,8,11,12,13],[1,6,9,10,11,12,13],[1,6,9,10,11,12,13,23],[4,5],[1,6,11,12,13],[1,6,11,12,13],[4,5]]
noncomputable def cf66 : LFunc := cq (cFunc Tryz.prog Tryz.f66 ks66)
theorem cf66_ok : cFunc Tryz.prog Tryz.f66 ks66 = some cf66 := cq_ok (by kernel_rfl)
def ks82 : List (List Nat) := [[0,1],[0,1,16],[4],[0,1,5],[0,1,5,20,21],[0,1,5,20,21,22],[0,1,5,6,20,21],[0,1,5,6,20,21],[0,1,5,6,20,21,34],[0,1,5,20,21],[0,1,5,20,21],[4]]
noncomputable def cf82 : LFunc := cq (cFunc Tryz.prog Tryz.f82 ks82)
theorem cf82_ok : cFunc Tryz.prog Tryz.f82 ks82 = some cf82 := cq_ok (by kernel_rfl)
def ks83 : List (List Nat) := [[0,2],[0,2,6],[2,3],[2,3]]
noncomputable def cf83 : LFunc := cq (cFunc Tryz.prog Tryz.f83 ks83)
theorem cf83_ok : cFunc Tryz.prog Tryz.f83 ks83 = some cf83 := cq_ok (by kernel_rfl)
def ks88 : List (List Nat) := [[0,1],[0,1,15],[4],[4]]
noncomputable def cf88 : LFunc := cq (cFunc Tryz.prog Tryz.f88 ks88)
theorem cf88_ok : cFunc Tryz.prog Tryz.f88 ks88 = some cf88 := cq_ok (by kernel_rfl)
def ks89 : List (List Nat) := [[1],[2]]
noncomputable def cf89 : LFunc := cq (cFunc Tryz.prog Tryz.f89 ks89)
theorem cf89_ok : cFunc Tryz.prog Tryz.f89 ks89 = some cf89 := cq_ok (by kernel_rfl)
def ks90 : List (List Nat) := [[1,2],[2]]
noncomputable def cf90 : LFunc := cq (cFunc Tryz.prog Tryz.f90 ks90)
theorem cf90_ok : cFunc Tryz.prog Tryz.f90 ks90 = some cf90 := cq_ok (by kernel_rfl)
def ks91 : List (List Nat) := [[0],[2]]
noncomputable def cf91 : LFunc := cq (cFunc Tryz.prog Tryz.f91 ks91)
theorem cf91_ok : cFunc Tryz.prog Tryz.f91 ks91 = some cf91 := cq_ok (by kernel_rfl)
def ks92 : List (List Nat) := [[0],[2]]
noncomputable def cf92 : LFunc := cq (cFunc Tryz.prog Tryz.f92 ks92)
theorem cf92_ok : cFunc Tryz.prog Tryz.f92 ks92 = some cf92 := cq_ok (by kernel_rfl)
def ks97 : List (List Nat) := [[0,1],[0,1,8],[4,5],[0,1,12],[4,5],[0,6,7],[4,5]]
noncomputable def cf97 : LFunc := cq (cFunc Tryz.prog Tryz.f97 ks97)
theorem cf97_ok : cFunc Tryz.prog Tryz.f97 ks97 = some cf97 := cq_ok (by kernel_rfl)
def ks114 : List (List Nat) := [[0],[2]]
noncomputable def cf114 : LFunc := cq (cFunc Tryz.prog Tryz.f114 ks114)
theorem cf114_ok : cFunc Tryz.prog Tryz.f114 ks114 = some cf114 := cq_ok (by kernel_rfl)
def ks129 : List (List Nat) := [[1,2],[4]]
noncomputable def cf129 : LFunc := cq (cFunc Tryz.prog Tryz.f129 ks129)
theorem cf129_ok : cFunc Tryz.prog Tryz.f129 ks129 = some cf129 := cq_ok (by kernel_rfl)
def ks130 : List (List Nat) := [[0,1],[0,1,8],[4],[4]]
noncomputable def cf130 : LFunc := cq (cFunc Tryz.prog Tryz.f130 ks130)
theorem cf130_ok : cFunc Tryz.prog Tryz.f130 ks130 = some cf130 := cq_ok (by kernel_rfl)
def ks131 : List (List Nat) := [[0,1,2,3,8],[0,1,2,3,8,10],[0,1,2,3,8,10,17],[8,9],[0,1,2,3,8,10,33],[8,9],[1,2,3,8,10,11],[1,3,8,10,11,43],[1,3,8,10,11],[1,8,10,11],[1,8,11],[8,11],[8,9]]
noncomputable def cf131 : LFunc := cq (cFunc Tryz.prog Tryz.f131 ks131)
theorem cf131_ok : cFunc Tryz.prog Tryz.f131 ks131 = some cf131 := cq_ok (by kernel_rfl)
def ks132 : List (List Nat) := [[0,1],[0,1,5],[4],[0,1,9],[4],[4]]
noncomputable def cf132 : LFunc := cq (cFunc Tryz.prog Tryz.f132 ks132)
theorem cf132_ok : cFunc Tryz.prog Tryz.f132 ks132 = some cf132 := cq_ok (by kernel_rfl)
def ks133 : List (List Nat) := [[0,1,2],[0,1,2,11],[6],[0,2,7],[0,2,7,21],[6],[6]]
noncomputable def cf133 : LFunc := cq (cFunc Tryz.prog Tryz.f133 ks133)
theorem cf133_ok : cFunc Tryz.prog Tryz.f133 ks133 = some cf133 := cq_ok (by kernel_rfl)
def ks135 : List (List Nat) := [[0,1],[0,1,14],[4],[4]]
noncomputable def cf135 : LFunc := cq (cFunc Tryz.prog Tryz.f135 ks135)
theorem cf135_ok : cFunc Tryz.prog Tryz.f135 ks135 = some cf135 := cq_ok (by kernel_rfl)
def ks136 : List (List Nat) := [[0,1],[5],[5,10],[4],[4]]
noncomputable def cf136 : LFunc := cq (cFunc Tryz.prog Tryz.f136 ks136)
theorem cf136_ok : cFunc Tryz.prog Tryz.f136 ks136 = some cf136 := cq_ok (by kernel_rfl)
def ks137 : List (List Nat) := [[0,1],[0,6],[0,6,10],[4,5],[0,6,13],[4,5],[0,6,20],[4,5],[0,6,7],[0,6,7],[0,6],[0,6],[6],[4,5]]
noncomputable def cf137 : LFunc := cq (cFunc Tryz.prog Tryz.f137 ks137)
theorem cf137_ok : cFunc Tryz.prog Tryz.f137 ks137 = some cf137 := cq_ok (by kernel_rfl)
def ks138 : List (List Nat) := [[0,1,4],[0,1,4,9],[4,5],[4,5]]
noncomputable def cf138 : LFunc := cq (cFunc Tryz.prog Tryz.f138 ks138)
theorem cf138_ok : cFunc Tryz.prog Tryz.f138 ks138 = some cf138 := cq_ok (by kernel_rfl)
def ks139 : List (List Nat) := [[0],[2]]
noncomputable def cf139 : LFunc := cq (cFunc Tryz.prog Tryz.f139 ks139)
theorem cf139_ok : cFunc Tryz.prog Tryz.f139 ks139 = some cf139 := cq_ok (by kernel_rfl)
def ks140 : List (List Nat) := [[0],[0,5],[2],[2]]
noncomputable def cf140 : LFunc := cq (cFunc Tryz.prog Tryz.f140 ks140)
theorem cf140_ok : cFunc Tryz.prog Tryz.f140 ks140 = some cf140 := cq_ok (by kernel_rfl)
def ks165 : List (List Nat) := [[0,1],[4]]
noncomputable def cf165 : LFunc := cq (cFunc Tryz.prog Tryz.f165 ks165)
theorem cf165_ok : cFunc Tryz.prog Tryz.f165 ks165 = some cf165 := cq_ok (by kernel_rfl)
def ks166 : List (List Nat) := [[1],[2]]
noncomputable def cf166 : LFunc := cq (cFunc Tryz.prog Tryz.f166 ks166)
theorem cf166_ok : cFunc Tryz.prog Tryz.f166 ks166 = some cf166 := cq_ok (by kernel_rfl)
def ks167 : List (List Nat) := [[0,1],[0,1,5],[4],[0,1,8],[4],[],[4]]
noncomputable def cf167 : LFunc := cq (cFunc Tryz.prog Tryz.f167 ks167)
theorem cf167_ok : cFunc Tryz.prog Tryz.f167 ks167 = some cf167 := cq_ok (by kernel_rfl)
def ks169 : List (List Nat) := [[0],[0,8],[2],[2]]
noncomputable def cf169 : LFunc := cq (cFunc Tryz.prog Tryz.f169 ks169)
theorem cf169_ok : cFunc Tryz.prog Tryz.f169 ks169 = some cf169 := cq_ok (by kernel_rfl)
def ks170 : List (List Nat) := [[0,1],[5],[4]]
noncomputable def cf170 : LFunc := cq (cFunc Tryz.prog Tryz.f170 ks170)
theorem cf170_ok : cFunc Tryz.prog Tryz.f170 ks170 = some cf170 := cq_ok (by kernel_rfl)
def ks171 : List (List Nat) := [[0,1,5],[0,1,5,17],[4,5],[0,1,5,20],[0,1,5,6,7],[0,1,5,6,7,31],[4,5],[0,1,5],[5],[4,5],[0,1,5,8,9],[0,1,5,9],[0,1,5,9,63],[5,9],[4,5]]
noncomputable def cf171 : LFunc := cq (cFunc Tryz.prog Tryz.f171 ks171)
theorem cf171_ok : cFunc Tryz.prog Tryz.f171 ks171 = some cf171 := cq_ok (by kernel_rfl)
def ks172 : List (List Nat) := [[0,1,4],[0,1,4,5],[0,4,5],[4,5],[4]]
noncomputable def cf172 : LFunc := cq (cFunc Tryz.prog Tryz.f172 ks172)
theorem cf172_ok : cFunc Tryz.prog Tryz.f172 ks172 = some cf172 := cq_ok (by kernel_rfl)
def ks188 : List (List Nat) := [[0,1,2,7],[0,1,2,7,8,9],[0,1,2,7,8,20],[6,7],[0,1,2,7,8,10],[0,1,7,8,10,11,12],[0,1,7,8,11,12,40],[0,7,8,11,12],[7,11,12],[6,7]]
noncomputable def cf188 : LFunc := cq (cFunc Tryz.prog Tryz.f188 ks188)
theorem cf188_ok : cFunc Tryz.prog Tryz.f188 ks188 = some cf188 := cq_ok (by kernel_rfl)
def ks189 : List (List Nat) := [[0,1,4],[0,4,6,7],[0,4,6,15],[4,5],[4,5]]
noncomputable def cf189 : LFunc := cq (cFunc Tryz.prog Tryz.f189 ks189)
theorem cf189_ok : cFunc Tryz.prog Tryz.f189 ks189 = some cf189 := cq_ok (by kernel_rfl)
def ks191 : List (List Nat) := [[0],[2]]
noncomputable def cf191 : LFunc := cq (cFunc Tryz.prog Tryz.f191 ks191)
theorem cf191_ok : cFunc Tryz.prog Tryz.f191 ks191 = some cf191 := cq_ok (by kernel_rfl)
def ks192 : List (List Nat) := [[0],[2]]
noncomputable def cf192 : LFunc := cq (cFunc Tryz.prog Tryz.f192 ks192)
theorem cf192_ok : cFunc Tryz.prog Tryz.f192 ks192 = some cf192 := cq_ok (by kernel_rfl)
def ks193 : List (List Nat) := [[0,1],[0,1,14],[4,5],[6],[6,21],[4,5],[4,5]]
noncomputable def cf193 : LFunc := cq (cFunc Tryz.prog Tryz.f193 ks193)
theorem cf193_ok : cFunc Tryz.prog Tryz.f193 ks193 = some cf193 := cq_ok (by kernel_rfl)
def ks194 : List (List Nat) := [[0,1,5],[0,1,5,14],[4,5],[0,5,6],[0,5,6,21],[0,5,6,21,24],[4,5],[5,6,28],[4,5],[4,5]]
noncomputable def cf194 : LFunc := cq (cFunc Tryz.prog Tryz.f194 ks194)
theorem cf194_ok : cFunc Tryz.prog Tryz.f194 ks194 = some cf194 := cq_ok (by kernel_rfl)
def ks209 : List (List Nat) := [[0,1],[4,5]]
noncomputable def cf209 : LFunc := cq (cFunc Tryz.prog Tryz.f209 ks209)
theorem cf209_ok : cFunc Tryz.prog Tryz.f209 ks209 = some cf209 := cq_ok (by kernel_rfl)
def ks210 : List (List Nat) := [[0],[2]]
noncomputable def cf210 : LFunc := cq (cFunc Tryz.prog Tryz.f210 ks210)
theorem cf210_ok : cFunc Tryz.prog Tryz.f210 ks210 = some cf210 := cq_ok (by kernel_rfl)
def ks211 : List (List Nat) := [[0],[2]]
noncomputable def cf211 : LFunc := cq (cFunc Tryz.prog Tryz.f211 ks211)
theorem cf211_ok : cFunc Tryz.prog Tryz.f211 ks211 = some cf211 := cq_ok (by kernel_rfl)
def ks213 : List (List Nat) := [[0,3,4],[4]]
noncomputable def cf213 : LFunc := cq (cFunc Tryz.prog Tryz.f213 ks213)
theorem cf213_ok : cFunc Tryz.prog Tryz.f213 ks213 = some cf213 := cq_ok (by kernel_rfl)
def ks216 : List (List Nat) := [[0],[2]]
noncomputable def cf216 : LFunc := cq (cFunc Tryz.prog Tryz.f216 ks216)
theorem cf216_ok : cFunc Tryz.prog Tryz.f216 ks216 = some cf216 := cq_ok (by kernel_rfl)
def ks238 : List (List Nat) := [[1,2],[4]]
noncomputable def cf238 : LFunc := cq (cFunc Tryz.prog Tryz.f238 ks238)
theorem cf238_ok : cFunc Tryz.prog Tryz.f238 ks238 = some cf238 := cq_ok (by kernel_rfl)
noncomputable def tabF : List (FuncId × LFunc) := [(30, lf30), (55, lf55), (56, cf56), (57, cf57), (58, cf58), (63, cf63), (64, cf64), (66, cf66), (82, cf82), (83, cf83), (88, cf88), (89, cf89), (90, cf90), (91, cf91), (92, cf92), (97, cf97), (114, cf114), (129, cf129), (130, cf130), (131, cf131), (132, cf132), (133, cf133), (135, cf135), (136, cf136), (137, cf137), (138, cf138), (139, cf139), (140, cf140), (165, cf165), (166, cf166), (167, cf167), (169, cf169), (170, cf170), (171, cf171), (172, cf172), (188, cf188), (189, cf189), (191, cf191), (192, cf192), (193, cf193), (194, cf194), (209, cf209), (210, cf210), (211, cf211), (213, cf213), (216, cf216), (238, cf238)]
theorem tabF_ok : ∀ p ∈ tabF, ∃ fn ks nt, Tryz.prog.funcs[p.1]? = some fn ∧ cFunc Tryz.prog fn ks nt = some p.2 := by
 unfold tabF
 refine tcons Tryz.func30 lf30_ok ?_
 refine tcons Tryz.func55 lf55_ok ?_
 refine tcons Tryz.func56 cf56_ok ?_
 refine tcons Tryz.func57 cf57_ok ?_
 refine tcons Tryz.func58 cf58_ok ?_
 refine tcons Tryz.func63 cf63_ok ?_
 refine tcons Tryz.func64 cf64_ok ?_
 refine tcons Tryz.func66 cf66_ok ?_
 refine tcons Tryz.func82 cf82_ok ?_
 refine tcons Tryz.func83 cf83_ok ?_
 refine tcons Tryz.func88 cf88_ok ?_
 refine tcons Tryz.func89 cf89_ok ?_
 refine tcons Tryz.func90 cf90_ok ?_
 refine tcons Tryz.func91 cf91_ok ?_
 refine tcons Tryz.func92 cf92_ok ?_
 refine tcons Tryz.func97 cf97_ok ?_
 refine tcons Tryz.func114 cf114_ok ?_
 refine tcons Tryz.func129 cf129_ok ?_
 refine tcons Tryz.func130 cf130_ok ?_
 refine tcons Tryz.func131 cf131_ok ?_
 refine tcons Tryz.func132 cf132_ok ?_
 refine tcons Tryz.func133 cf133_ok ?_
 refine tcons Tryz.func135 cf135_ok ?_
 refine tcons Tryz.func136 cf136_ok ?_
 refine tcons Tryz.func137 cf137_ok ?_
 refine tcons Tryz.func138 cf138_ok ?_
 refine tcons Tryz.func139 cf139_ok ?_
 refine tcons Tryz.func140 cf140_ok ?_
 refine tcons Tryz.func165 cf165_ok ?_
 refine tcons Tryz.func166 cf166_ok ?_
 refine tcons Tryz.func167 cf167_ok ?_
 refine tcons Tryz.func169 cf169_ok ?_
 refine tcons Tryz.func170 cf170_ok ?_
 refine tcons Tryz.func171 cf171_ok ?_
 refine tcons Tryz.func172 cf172_ok ?_
 refine tcons Tryz.func188 cf188_ok ?_
 refine tcons Tryz.func189 cf189_ok ?_
 refine tcons Tryz.func191 cf191_ok ?_
 refine tcons Tryz.func192 cf192_ok ?_
 refine tcons Tryz.func193 cf193_ok ?_
 refine tcons Tryz.func194 cf194_ok ?_
 refine tcons Tryz.func209 cf209_ok ?_
 refine tcons Tryz.func210 cf210_ok ?_
 refine tcons Tryz.func211 cf211_ok ?_
 refine tcons Tryz.func213 cf213_ok ?_
 refine tcons Tryz.func216 cf216_ok ?_
 refine tcons Tryz.func238 cf238_ok ?_
 intro p hp; cases hp
end Go.E1
