/-
  The engine's code of some functions, printed by a small program, and that it is what the loaded functions become.
-/
import Derived.Test.YtmafdmpmilhnfaaGreatDoorProg
import Derived.Test.YtmafdmpmilhnfaaGreatDoorKlQ
namespace Go.E1
open Go Go.Proofs
def ks9 : List (List Nat) := [[0,1,2],[0,1,2,25],[6],[0,1,2,7],[0,1,2,7,8],[1,2,7,8,26,27,28],[1,2,7,8,26,27,28,29],[1,2,7,8,10,26,27,28],[1,2,7,8,10,26,27,28],[1,2,7,8,10,26,27,28,48],[1,2,7,8,10,26,27,28],[1,2,7,8,26,27,28],[1,2,7,8,26,27,28],[6]]
noncomputable def cf9 : LFunc := cq (cFunc Tryz.prog Tryz.f9 ks9)
theorem cf9_ok : cFunc Tryz.prog Tryz.f9 ks9 = some cf9 := cq_ok (by kernel_rfl)
def lf10 : LFunc := ⟨21,[.tmp 2],.seq (.region [⟨some 2,.op (.mov (.c (.slice none 0 0))),none⟩] [0]) (.seq (.region [⟨some 3,.op (.mov (.c (.slice none 0 0))),none⟩] [0,3]) (.seq (.seq (.region [⟨some 6,.op (.mov (.t 0)),none⟩,⟨some 7,.op (.lenS (.t 6)),none⟩,⟨some 8,.op (.mov (.c (.int .i64 0))),none⟩] [3,6,7,8]) (.block 0 (.loop (.seq (.region [⟨some 9,.op (.bin .lss .basic (.t 8) (.t 7)),none⟩] [3,6,7,8,9]) (.seq (.cond (.t 9) (.skip) (.exit 0)) (.seq (.block 1 (.seq (.region [⟨some 10,.op (.idxAddrS 8 (.t 6) (.t 8)),none⟩,⟨some 11,.op (.loadN 8 (.t 10)),none⟩,⟨some 5,.op (.alloc [.int .i64 0,.slice none 0 0,.slice none 0 0,.int .i64 0,.int .i64 0,.int .i64 0,.int .i64 0,.int .i64 0]),none⟩,⟨none,.op (.store 8 (.t 5) (.t 11)),none⟩] [3,5,6,7,8]) (.dregion [(⟨some 12,.op (.mov (.t 3)),none⟩,0,0),(⟨some 13,.op (.fieldAddr 1 (.t 5)),none⟩,0,0),(⟨some 14,.op (.load1 (.t 13)),none⟩,0,0),(⟨some 15,.op (.append 1 1 (.t 12) (.t 14)),none⟩,0,1),(⟨some 16,.op (.fieldAddr 2 (.t 5)),none⟩,0,1),(⟨some 17,.op (.load1 (.t 16)),none⟩,0,1),(⟨some 18,.op (.append 1 1 (.t 15) (.t 17)),none⟩,1,2),(⟨some 3,.op (.mov (.t 18)),none⟩,2,2)] [3,6,7,8]))) (.region [⟨some 19,.op (.bin .add .basic (.t 8) (.c (.int .i64 1))),none⟩,⟨some 8,.op (.mov (.t 19)),none⟩] [3,6,7,8]))))))) (.seq (.region [⟨some 20,.op (.mov (.t 3)),none⟩,⟨some 2,.op (.mov (.t 20)),none⟩] [2]) (.ret))))⟩
theorem lf10_ok : cFunc Tryz.prog Tryz.f10 [[0],[0,3],[3,6,7,8],[3,6,7,8,9],[3,5,6,7,8],[3,6,7,8],[3,6,7,8],[2]] = some lf10 := by kernel_rfl
def ks12 : List (List Nat) := [[0],[2]]
noncomputable def cf12 : LFunc := cq (cFunc Tryz.prog Tryz.f12 ks12)
theorem cf12_ok : cFunc Tryz.prog Tryz.f12 ks12 = some cf12 := cq_ok (by kernel_rfl)
def lf13 : LFunc := ⟨58,[.tmp 2,.tmp 3],.seq (.region [⟨some 2,.op (.mov (.c (.slice none 0 0))),none⟩,⟨some 3,.op (.mov (.c (.int .i64 0))),none⟩] [0]) (.seq (.region [⟨some 13,.op (.mov (.t 0)),none⟩,⟨some 14,.call (.c (.func (.func 10) #[] #[])) [.t 13],none⟩,⟨some 15,.call (.c (.func (.func 14) #[] #[])) [],none⟩,⟨some 16,.call (.c (.func (.func 21) #[] #[])) [.t 14,.t 15],none⟩,⟨some 12,.op (.mov (.t 16)),none⟩,⟨some 17,.op (.extract 0 (.t 12)),none⟩,⟨some 18,.op (.extract 1 (.t 12)),none⟩,⟨some 4,.op (.mov (.t 17)),none⟩,⟨some 5,.op (.mov (.t 18)),none⟩] [4,5]) (.seq (.seq (.region [⟨some 19,.op (.mov (.t 5)),none⟩,⟨some 20,.op (.un .not (.t 19)),none⟩] [4,20]) (.cond (.t 20) (.seq (.region [⟨some 2,.op (.mov (.c (.slice none 0 0))),none⟩,⟨some 3,.op (.mov (.c (.int .i64 10))),none⟩] [2,3]) (.ret)) (.skip))) (.seq (.region [⟨some 22,.op (.mov (.t 4)),none⟩,⟨some 23,.call (.c (.func (.func 22) #[] #[])) [.t 22,.c (.int .i64 16384)],none⟩,⟨some 21,.op (.mov (.t 23)),none⟩,⟨some 24,.op (.extract 0 (.t 21)),none⟩,⟨some 25,.op (.extract 1 (.t 21)),none⟩,⟨some 26,.op (.extract 2 (.t 21)),none⟩,⟨some 6,.op (.mov (.t 24)),none⟩,⟨some 7,.op (.mov (.t 25)),none⟩,⟨some 8,.op (.mov (.t 26)),none⟩] [6,7,8]) (.seq (.seq (.region [⟨some 27,.op (.mov (.t 8)),none⟩,⟨some 28,.op (.bin .neq .basic (.t 27) (.c (.int .i64 0))),none⟩,⟨some 29,.op (.mov (.t 28)),none⟩,⟨some 30,.op (.mov (.t 7)),some (29,false)⟩,⟨some 31,.op (.lenS (.t 30)),some (29,false)⟩,⟨some 32,.op (.bin .gtr .basic (.t 31) (.c (.int .i64 0))),some (29,false)⟩,⟨some 33,.pick (.t 29) (.c (.bool true)) (.t 32),none⟩] [6,33]) (.cond (.t 33) (.seq (.region [⟨some 2,.op (.mov (.c (.slice none 0 0))),none⟩,⟨some 3,.op (.mov (.c (.int .i64 10))),none⟩] [2,3]) (.ret)) (.skip))) (.seq (.region [⟨some 34,.op (.build [.slice none 0 0,.pointer none] []),none⟩,⟨some 35,.op (.box (.t 34)),none⟩,⟨some 9,.op (.mov (.t 35)),none⟩] [6,9]) (.seq (.region [⟨some 37,.op (.mov (.t 9)),none⟩,⟨some 38,.call (.c (.func (.func 23) #[] #[])) [.c (.int .i64 0),.c (.int .i64 16384)],none⟩,⟨some 36,.op (.mov (.t 38)),none⟩,⟨some 39,.op (.extract 0 (.t 36)),none⟩,⟨some 40,.op (.extract 1 (.t 36)),none⟩,⟨some 41,.op (.nilCheck (.t 37)),none⟩,⟨some 42,.op (.fieldAddr 1 (.t 41)),none⟩,⟨none,.op (.store 1 (.t 42) (.t 39)),none⟩] [6,9]) (.seq (.seq (.region [⟨some 43,.op (.mov (.t 6)),none⟩,⟨some 44,.op (.lenS (.t 43)),none⟩,⟨some 45,.op (.mov (.c (.int .i64 0))),none⟩] [9,43,44,45]) (.block 0 (.loop (.seq (.region [⟨some 46,.op (.bin .lss .basic (.t 45) (.t 44)),none⟩] [9,43,44,45,46]) (.seq (.cond (.t 46) (.skip) (.exit 0)) (.seq (.block 1 (.seq (.region [⟨some 47,.op (.idxAddrS 4 (.t 43) (.t 45)),none⟩,⟨some 48,.op (.loadN 4 (.t 47)),none⟩,⟨some 11,.op (.alloc [.int .i64 0,.int .i64 0,.int .i64 0,.slice none 0 0]),none⟩,⟨none,.op (.store 4 (.t 11) (.t 48)),none⟩] [9,11,43,44,45]) (.seq (.region [⟨some 49,.op (.mov (.t 9)),none⟩,⟨some 50,.op (.loadN 4 (.t 11)),none⟩,⟨some 51,.call (.c (.func (.func 24) #[] #[])) [.t 49,.t 50],none⟩,⟨some 52,.op (.un .not (.t 51)),none⟩] [9,43,44,45,52]) (.cond (.t 52) (.seq (.region [⟨some 2,.op (.mov (.c (.slice none 0 0))),none⟩,⟨some 3,.op (.mov (.c (.int .i64 10))),none⟩] [2,3]) (.ret)) (.skip))))) (.region [⟨some 53,.op (.bin .add .basic (.t 45) (.c (.int .i64 1))),none⟩,⟨some 45,.op (.mov (.t 53)),none⟩] [9,43,44,45]))))))) (.seq (.region [⟨some 54,.op (.mov (.t 9)),none⟩,⟨some 55,.op (.nilCheck (.t 54)),none⟩,⟨some 56,.op (.fieldAddr 0 (.t 55)),none⟩,⟨some 57,.op (.load1 (.t 56)),none⟩,⟨some 2,.op (.mov (.t 57)),none⟩,⟨some 3,.op (.mov (.c (.int .i64 0))),none⟩] [2,3]) (.ret)))))))))⟩
theorem lf13_ok : cFunc Tryz.prog Tryz.f13 [[0],[4,5],[4,20],[2,3],[6,7,8],[6,33],[2,3],[6,9],[6,9],[9,43,44,45],[9,43,44,45,46],[9,11,43,44,45],[9,43,44,45,52],[2,3],[9,43,44,45],[2,3]] = some lf13 := by kernel_rfl
def ks14 : List (List Nat) := [[],[1],[3],[0]]
noncomputable def cf14 : LFunc := cq (cFunc Tryz.prog Tryz.f14 ks14)
theorem cf14_ok : cFunc Tryz.prog Tryz.f14 ks14 = some cf14 := cq_ok (by kernel_rfl)
def ks18 : List (List Nat) := [[1],[1,4,5],[1,4,12],[2,3],[2,3]]
noncomputable def cf18 : LFunc := cq (cFunc Tryz.prog Tryz.f18 ks18)
theorem cf18_ok : cFunc Tryz.prog Tryz.f18 ks18 = some cf18 := cq_ok (by kernel_rfl)
def ks19 : List (List Nat) := [[0,1,5],[0,1,5,12],[6,7],[0,1,5,17],[6,7],[0,1,5,8,9],[0,1,5,8,9,40],[6,7],[0,1,5,8,10],[0,1,10,11],[0,1,10,11,61],[6,7],[10],[6,7]]
noncomputable def cf19 : LFunc := cq (cFunc Tryz.prog Tryz.f19 ks19)
theorem cf19_ok : cFunc Tryz.prog Tryz.f19 ks19 = some cf19 := cq_ok (by kernel_rfl)
def ks20 : List (List Nat) := [[0,2],[0,2,13],[2,3],[0,2,4],[0,2,4,24],[0,2,4],[0,2,4,30,31,32],[0,2,4,30,31,32,33],[0,2,4,6,30,31,32],[0,2,4,7,30,31,32],[0,2,4,30,31,32],[0,2,4,30,31,32],[0,2,4],[0,2,4,54],[0,2,4],[0,2,4,81],[0,2,4],[2,4],[2,3]]
noncomputable def cf20 : LFunc := cq (cFunc Tryz.prog Tryz.f20 ks20)
theorem cf20_ok : cFunc Tryz.prog Tryz.f20 ks20 = some cf20 := cq_ok (by kernel_rfl)
def lf24 : LFunc := ⟨75,[.tmp 4],.seq (.region [⟨some 3,.op (.box (.t 1)),none⟩,⟨some 4,.op (.mov (.c (.bool false))),none⟩] [0,3]) (.seq (.region [⟨some 12,.op (.loadN 4 (.t 3)),none⟩,⟨some 13,.call (.c (.func (.func 45) #[] #[])) [.t 12],none⟩,⟨some 11,.op (.mov (.t 13)),none⟩,⟨some 14,.op (.extract 0 (.t 11)),none⟩,⟨some 15,.op (.extract 1 (.t 11)),none⟩,⟨some 5,.op (.alloc [.int .i64 0,.int .i64 0,.slice none 0 0,.bool false,.bool false,.bool false,.int .i64 0,.int .i64 0,.int .i64 0,.int .i64 0,.int .i64 0,.int .i64 0,.bool false,.bool false,.slice none 0 0]),none⟩,⟨some 6,.op (.alloc [.int .i64 0,.bool false]),none⟩,⟨none,.op (.store 15 (.t 5) (.t 14)),none⟩,⟨none,.op (.store 2 (.t 6) (.t 15)),none⟩] [0,5,6]) (.seq (.seq (.region [⟨some 16,.op (.loadN 2 (.t 6)),none⟩,⟨some 17,.call (.c (.func (.func 46) #[] #[])) [.t 16],none⟩,⟨some 18,.op (.un .not (.t 17)),none⟩] [0,5,18]) (.cond (.t 18) (.seq (.region [⟨some 4,.op (.mov (.c (.bool false))),none⟩] [4]) (.ret)) (.skip))) (.seq (.seq (.region [⟨some 19,.op (.fieldAddr 0 (.t 5)),none⟩,⟨some 20,.op (.load1 (.t 19)),none⟩] [0,5,20]) (.block 0 (.seq (.region [⟨some 22,.op (.bin .eql .basic (.t 20) (.c (.int .i64 1))),none⟩,⟨some 21,.op (.mov (.t 22)),none⟩] [0,5,20,21]) (.cond (.t 21) (.seq (.region [⟨some 23,.op (.mov (.t 0)),none⟩,⟨some 24,.op (.loadN 15 (.t 5)),none⟩,⟨some 25,.call (.c (.func (.func 47) #[] #[])) [.t 23,.t 24],none⟩,⟨some 4,.op (.mov (.t 25)),none⟩] [4]) (.ret)) (.seq (.region [⟨some 27,.op (.bin .eql .basic (.t 20) (.c (.int .i64 0))),none⟩,⟨some 26,.op (.mov (.t 27)),none⟩] [0,5,20,26]) (.cond (.t 26) (.seq (.region [⟨some 29,.op (.mov (.t 0)),none⟩,⟨some 30,.op (.fieldAddr 1 (.t 5)),none⟩,⟨some 31,.op (.load1 (.t 30)),none⟩,⟨some 32,.call (.c (.func (.func 48) #[] #[])) [.t 29,.t 31],none⟩,⟨some 28,.op (.mov (.t 32)),none⟩,⟨some 33,.op (.extract 0 (.t 28)),none⟩,⟨some 34,.op (.extract 1 (.t 28)),none⟩,⟨some 7,.op (.mov (.t 33)),none⟩,⟨some 8,.op (.mov (.t 34)),none⟩] [5,7,8]) (.seq (.seq (.region [⟨some 35,.op (.mov (.t 8)),none⟩,⟨some 36,.op (.un .not (.t 35)),none⟩,⟨some 37,.op (.mov (.t 36)),none⟩,⟨some 38,.op (.mov (.t 7)),some (37,false)⟩,⟨some 39,.op (.nilCheck (.t 38)),some (37,false)⟩,⟨some 40,.op (.fieldAddr 7 (.t 39)),some (37,false)⟩,⟨some 41,.op (.load1 (.t 40)),some (37,false)⟩,⟨some 42,.pick (.t 37) (.c (.bool true)) (.t 41),none⟩] [5,7,42]) (.cond (.t 42) (.seq (.region [⟨some 4,.op (.mov (.c (.bool false))),none⟩] [4]) (.ret)) (.skip))) (.seq (.dregion [(⟨some 43,.op (.mov (.t 7)),none⟩,0,2),(⟨some 44,.op (.mov (.t 7)),none⟩,0,0),(⟨some 45,.op (.nilCheck (.t 44)),none⟩,0,0),(⟨some 46,.op (.fieldAddr 1 (.t 45)),none⟩,0,0),(⟨some 47,.op (.fieldAddr 5 (.t 46)),none⟩,0,0),(⟨some 48,.op (.load1 (.t 47)),none⟩,0,0),(⟨some 49,.op (.fieldAddr 2 (.t 5)),none⟩,0,0),(⟨some 50,.op (.load1 (.t 49)),none⟩,0,0),(⟨some 51,.op (.buildSlice 2 1 [.slice none 0 0,.slice none 0 0] [(0,1,.t 48),(1,1,.t 50)]),none⟩,0,1),(⟨some 52,.call (.c (.func (.func 27) #[] #[])) [.t 51],none⟩,1,2),(⟨some 53,.op (.nilCheck (.t 43)),none⟩,2,2),(⟨some 54,.op (.fieldAddr 1 (.t 53)),none⟩,2,2),(⟨some 55,.op (.fieldAddr 5 (.t 54)),none⟩,2,2),(⟨none,.op (.store 1 (.t 55) (.t 52)),none⟩,2,3)] [5,7]) (.region [⟨some 56,.op (.mov (.t 7)),none⟩,⟨some 57,.op (.fieldAddr 3 (.t 5)),none⟩,⟨some 58,.op (.load1 (.t 57)),none⟩,⟨some 59,.op (.nilCheck (.t 56)),none⟩,⟨some 60,.op (.fieldAddr 7 (.t 59)),none⟩,⟨none,.op (.store 1 (.t 60) (.t 58)),none⟩] [])))) (.seq (.region [⟨some 62,.op (.bin .eql .basic (.t 20) (.c (.int .i64 3))),none⟩,⟨some 61,.op (.mov (.t 62)),none⟩] [0,5,61]) (.cond (.t 61) (.seq (.region [⟨some 64,.op (.mov (.t 0)),none⟩,⟨some 65,.op (.fieldAddr 1 (.t 5)),none⟩,⟨some 66,.op (.load1 (.t 65)),none⟩,⟨some 67,.call (.c (.func (.func 48) #[] #[])) [.t 64,.t 66],none⟩,⟨some 63,.op (.mov (.t 67)),none⟩,⟨some 68,.op (.extract 0 (.t 63)),none⟩,⟨some 69,.op (.extract 1 (.t 63)),none⟩,⟨some 9,.op (.mov (.t 68)),none⟩,⟨some 10,.op (.mov (.t 69)),none⟩] [9,10]) (.seq (.seq (.region [⟨some 70,.op (.mov (.t 10)),none⟩,⟨some 71,.op (.un .not (.t 70)),none⟩] [9,71]) (.cond (.t 71) (.seq (.region [⟨some 4,.op (.mov (.c (.bool false))),none⟩] [4]) (.ret)) (.skip))) (.region [⟨some 72,.op (.mov (.t 9)),none⟩,⟨some 73,.op (.nilCheck (.t 72)),none⟩,⟨some 74,.op (.fieldAddr 8 (.t 73)),none⟩,⟨none,.op (.store 1 (.t 74) (.c (.bool true))),none⟩] []))) (.skip))))))))) (.seq (.region [⟨some 4,.op (.mov (.c (.bool true))),none⟩] [4]) (.ret)))))⟩
theorem lf24_ok : cFunc Tryz.prog Tryz.f24 [[0,3],[0,5,6],[0,5,18],[4],[0,5,20],[0,5,20,21],[4],[0,5,20,26],[5,7,8],[5,7,42],[4],[5,7],[],[0,5,61],[9,10],[9,71],[4],[],[4]] = some lf24 := by kernel_rfl
def ks32 : List (List Nat) := [[1],[1,4],[1,4,5],[1,4,5],[1,4,5],[1,4,5],[1,4,60],[2,3],[4],[2,3]]
noncomputable def cf32 : LFunc := cq (cFunc Tryz.prog Tryz.f32 ks32)
theorem cf32_ok : cFunc Tryz.prog Tryz.f32 ks32 = some cf32 := cq_ok (by kernel_rfl)
def ks35 : List (List Nat) := [[0,1],[4]]
noncomputable def cf35 : LFunc := cq (cFunc Tryz.prog Tryz.f35 ks35)
theorem cf35_ok : cFunc Tryz.prog Tryz.f35 ks35 = some cf35 := cq_ok (by kernel_rfl)
def ks37 : List (List Nat) := [[0,1,5],[0,1,5,21],[6],[6]]
noncomputable def cf37 : LFunc := cq (cFunc Tryz.prog Tryz.f37 ks37)
theorem cf37_ok : cFunc Tryz.prog Tryz.f37 ks37 = some cf37 := cq_ok (by kernel_rfl)
def ks38 : List (List Nat) := [[0,1,5],[0,1,5,7,8],[0,1,5,7,8,23],[4,5,6],[0,1,5,7,28],[4,5,6],[0,1,5,7],[0,1,5,7,9],[0,5,7,9,10,11],[0,5,7,9,10,47],[0,5,9,10],[0,5,9,10],[5,8,10,12],[4,5,6]]
noncomputable def cf38 : LFunc := cq (cFunc Tryz.prog Tryz.f38 ks38)
theorem cf38_ok : cFunc Tryz.prog Tryz.f38 ks38 = some cf38 := cq_ok (by kernel_rfl)
def ks39 : List (List Nat) := [[0,1],[7],[4]]
noncomputable def cf39 : LFunc := cq (cFunc Tryz.prog Tryz.f39 ks39)
theorem cf39_ok : cFunc Tryz.prog Tryz.f39 ks39 = some cf39 := cq_ok (by kernel_rfl)
def ks40 : List (List Nat) := [[0,1],[]]
noncomputable def cf40 : LFunc := cq (cFunc Tryz.prog Tryz.f40 ks40)
theorem cf40_ok : cFunc Tryz.prog Tryz.f40 ks40 = some cf40 := cq_ok (by kernel_rfl)
def lf47 : LFunc := ⟨57,[.tmp 4],.seq (.region [⟨some 3,.op (.box (.t 1)),none⟩,⟨some 4,.op (.mov (.c (.bool false))),none⟩] [0,3]) (.seq (.seq (.region [⟨some 11,.op (.mov (.t 0)),none⟩,⟨some 12,.op (.fieldAddr 1 (.t 3)),none⟩,⟨some 13,.op (.load1 (.t 12)),none⟩,⟨some 14,.call (.c (.func (.func 48) #[] #[])) [.t 11,.t 13],none⟩,⟨some 10,.op (.mov (.t 14)),none⟩,⟨some 15,.op (.extract 0 (.t 10)),none⟩,⟨some 16,.op (.extract 1 (.t 10)),none⟩,⟨some 5,.op (.mov (.t 15)),none⟩,⟨some 6,.op (.mov (.t 16)),none⟩] [0,3,6]) (.seq (.region [⟨some 17,.op (.mov (.t 6)),none⟩,⟨some 18,.op (.mov (.t 17)),none⟩,⟨some 19,.op (.fieldAddr 4 (.t 3)),some (18,false)⟩,⟨some 20,.op (.load1 (.t 19)),some (18,false)⟩,⟨some 21,.op (.un .not (.t 20)),some (18,false)⟩,⟨some 22,.pick (.t 18) (.c (.bool true)) (.t 21),none⟩] [0,3,22]) (.cond (.t 22) (.seq (.region [⟨some 4,.op (.mov (.c (.bool false))),none⟩] [4]) (.ret)) (.skip)))) (.seq (.dregion [(⟨some 24,.op (.mov (.t 0)),none⟩,0,0),(⟨some 25,.op (.nilCheck (.t 24)),none⟩,0,0),(⟨some 26,.op (.fieldAddr 1 (.t 25)),none⟩,0,0),(⟨some 27,.op (.load1 (.t 26)),none⟩,0,0),(⟨some 28,.op (.fieldAddr 2 (.t 3)),none⟩,0,0),(⟨some 29,.op (.load1 (.t 28)),none⟩,0,0),(⟨some 30,.call (.c (.func (.func 77) #[] #[])) [.t 27,.t 29],none⟩,0,1),(⟨some 23,.op (.mov (.t 30)),none⟩,1,1),(⟨some 31,.op (.extract 0 (.t 23)),none⟩,1,1),(⟨some 32,.op (.extract 1 (.t 23)),none⟩,1,1),(⟨some 7,.op (.mov (.t 31)),none⟩,1,1),(⟨some 8,.op (.mov (.t 32)),none⟩,1,1)] [0,3,7,8]) (.seq (.seq (.region [⟨some 33,.op (.mov (.t 8)),none⟩,⟨some 34,.op (.bin .neq .basic (.t 33) (.c (.int .i64 0))),none⟩] [0,3,7,34]) (.cond (.t 34) (.seq (.region [⟨some 4,.op (.mov (.c (.bool false))),none⟩] [4]) (.ret)) (.skip))) (.seq (.region [⟨some 36,.op (.mov (.t 7)),none⟩,⟨some 37,.call (.c (.func (.func 78) #[] #[])) [.t 36],none⟩,⟨some 35,.op (.mov (.t 37)),none⟩,⟨some 38,.op (.extract 0 (.t 35)),none⟩,⟨some 39,.op (.extract 1 (.t 35)),none⟩,⟨some 9,.op (.alloc [.string ⟨#[]⟩,.string ⟨#[]⟩,.string ⟨#[]⟩,.string ⟨#[]⟩,.slice none 0 0,.slice none 0 0]),none⟩,⟨none,.op (.store 6 (.t 9) (.t 38)),none⟩,⟨some 8,.op (.mov (.t 39)),none⟩] [0,3,8,9]) (.seq (.dregion [(⟨some 40,.op (.mov (.t 0)),none⟩,0,2),(⟨some 41,.op (.mov (.t 0)),none⟩,0,1),(⟨some 42,.op (.nilCheck (.t 41)),none⟩,0,1),(⟨some 43,.op (.fieldAddr 0 (.t 42)),none⟩,0,1),(⟨some 44,.op (.load1 (.t 43)),none⟩,0,1),(⟨some 45,.op (.fieldAddr 1 (.t 3)),none⟩,0,0),(⟨some 46,.op (.load1 (.t 45)),none⟩,0,0),(⟨some 47,.op (.loadN 6 (.t 9)),none⟩,0,0),(⟨some 48,.op (.fieldAddr 3 (.t 3)),none⟩,0,0),(⟨some 49,.op (.load1 (.t 48)),none⟩,0,0),(⟨some 50,.op (.build [.int .i64 0,.string ⟨#[]⟩,.string ⟨#[]⟩,.string ⟨#[]⟩,.string ⟨#[]⟩,.slice none 0 0,.slice none 0 0,.bool false,.bool false] [(0,1,.t 46),(1,6,.t 47),(7,1,.t 49)]),none⟩,0,0),(⟨some 51,.op (.buildSlice 1 9 [.int .i64 0,.string ⟨#[]⟩,.string ⟨#[]⟩,.string ⟨#[]⟩,.string ⟨#[]⟩,.slice none 0 0,.slice none 0 0,.bool false,.bool false] [(0,9,.t 50)]),none⟩,0,1),(⟨some 52,.op (.append 9 128 (.t 44) (.t 51)),none⟩,1,2),(⟨some 53,.op (.nilCheck (.t 40)),none⟩,2,2),(⟨some 54,.op (.fieldAddr 0 (.t 53)),none⟩,2,2),(⟨none,.op (.store 1 (.t 54) (.t 52)),none⟩,2,3)] [8]) (.seq (.region [⟨some 55,.op (.mov (.t 8)),none⟩,⟨some 56,.op (.bin .eql .basic (.t 55) (.c (.int .i64 0))),none⟩,⟨some 4,.op (.mov (.t 56)),none⟩] [4]) (.ret)))))))⟩
theorem lf47_ok : cFunc Tryz.prog Tryz.f47 [[0,3],[0,3,6],[0,3,22],[4],[0,3,7,8],[0,3,7,34],[4],[0,3,8,9],[8],[4]] = some lf47 := by kernel_rfl
def lf48 : LFunc := ⟨31,[.tmp 4,.tmp 5],.seq (.region [⟨some 3,.op (.box (.t 1)),none⟩,⟨some 4,.op (.mov (.c (.pointer none))),none⟩,⟨some 5,.op (.mov (.c (.bool false))),none⟩] [0,3]) (.seq (.region [⟨some 7,.op (.mov (.t 0)),none⟩,⟨some 8,.op (.nilCheck (.t 7)),none⟩,⟨some 9,.op (.fieldAddr 0 (.t 8)),none⟩,⟨some 10,.op (.load1 (.t 9)),none⟩,⟨some 11,.op (.makeFunc (.func 80) [.t 3]),none⟩,⟨some 12,.call (.c (.func (.func 79) #[] #[])) [.t 10,.t 11],none⟩,⟨some 6,.op (.mov (.t 12)),none⟩] [0,6]) (.seq (.seq (.region [⟨some 13,.op (.mov (.t 6)),none⟩,⟨some 14,.op (.bin .lss .basic (.t 13) (.c (.int .i64 0))),none⟩,⟨some 15,.op (.mov (.t 14)),none⟩,⟨some 16,.op (.mov (.t 0)),some (15,false)⟩,⟨some 17,.op (.nilCheck (.t 16)),some (15,false)⟩,⟨some 18,.op (.fieldAddr 0 (.t 17)),some (15,false)⟩,⟨some 19,.op (.load1 (.t 18)),some (15,false)⟩,⟨some 20,.op (.mov (.t 6)),some (15,false)⟩,⟨some 21,.op (.idxAddrS 9 (.t 19) (.t 20)),some (15,false)⟩,⟨some 22,.op (.fieldAddr 8 (.t 21)),some (15,false)⟩,⟨some 23,.op (.load1 (.t 22)),some (15,false)⟩,⟨some 24,.pick (.t 15) (.c (.bool true)) (.t 23),none⟩] [0,6,24]) (.cond (.t 24) (.seq (.region [⟨some 4,.op (.mov (.c (.pointer none))),none⟩,⟨some 5,.op (.mov (.c (.bool false))),none⟩] [4,5]) (.ret)) (.skip))) (.seq (.region [⟨some 25,.op (.mov (.t 0)),none⟩,⟨some 26,.op (.nilCheck (.t 25)),none⟩,⟨some 27,.op (.fieldAddr 0 (.t 26)),none⟩,⟨some 28,.op (.load1 (.t 27)),none⟩,⟨some 29,.op (.mov (.t 6)),none⟩,⟨some 30,.op (.idxAddrS 9 (.t 28) (.t 29)),none⟩,⟨some 4,.op (.mov (.t 30)),none⟩,⟨some 5,.op (.mov (.c (.bool true))),none⟩] [4,5]) (.ret))))⟩
theorem lf48_ok : cFunc Tryz.prog Tryz.f48 [[0,3],[0,6],[0,6,24],[4,5],[4,5]] = some lf48 := by kernel_rfl
def ks65 : List (List Nat) := [[0,1,2,6],[0,1,2,6,8,9],[0,1,2,6,8,20],[6,7],[0,1,2,6,10,11],[0,1,2,6,10,28],[6,7],[0,1,2,6,12,13],[0,1,2,6,12,36],[6,7],[6,7]]
noncomputable def cf65 : LFunc := cq (cFunc Tryz.prog Tryz.f65 ks65)
theorem cf65_ok : cFunc Tryz.prog Tryz.f65 ks65 = some cf65 := cq_ok (by kernel_rfl)
def ks67 : List (List Nat) := [[0,1],[0,1,7],[0,1,7,15],[4,5,6],[4,5,6]]
noncomputable def cf67 : LFunc := cq (cFunc Tryz.prog Tryz.f67 ks67)
theorem cf67_ok : cFunc Tryz.prog Tryz.f67 ks67 = some cf67 := cq_ok (by kernel_rfl)
def lf80 : LFunc := ⟨8,[.tmp 3],.seq (.region [⟨some 2,.op (.box (.t 0)),none⟩,⟨some 3,.op (.mov (.c (.bool false))),none⟩] [1,2]) (.seq (.region [⟨some 4,.op (.fieldAddr 0 (.t 2)),none⟩,⟨some 5,.op (.load1 (.t 4)),none⟩,⟨some 6,.op (.load1 (.t 1)),none⟩,⟨some 7,.op (.bin .eql .basic (.t 5) (.t 6)),none⟩,⟨some 3,.op (.mov (.t 7)),none⟩] [3]) (.ret))⟩
theorem lf80_ok : cFunc Tryz.prog Tryz.f80 [[1,2],[3]] = some lf80 := by kernel_rfl
def ks93 : List (List Nat) := [[0,1,4],[1,4,6,7],[1,4,6,7,8],[4,5]]
noncomputable def cf93 : LFunc := cq (cFunc Tryz.prog Tryz.f93 ks93)
theorem cf93_ok : cFunc Tryz.prog Tryz.f93 ks93 = some cf93 := cq_ok (by kernel_rfl)
def ks94 : List (List Nat) := [[0,1,4],[1,4,6,7],[1,4,6,7,8],[4,5]]
noncomputable def cf94 : LFunc := cq (cFunc Tryz.prog Tryz.f94 ks94)
theorem cf94_ok : cFunc Tryz.prog Tryz.f94 ks94 = some cf94 := cq_ok (by kernel_rfl)
def ks95 : List (List Nat) := [[0,1,4],[0,1,4,6],[0,1,4,6,21,22,23],[0,1,4,6,21,22,23,24],[0,1,4,6,8,21,22,23],[0,1,4,6,8,9,21,22,23],[0,1,4,6,8,9,21,22,23,56],[0,1,4,6,8,9,10],[0,1,4,6,8,9,10,11],[0,1,4,6,8,9,10,11],[0,1,4,6,8,9,10,11],[0,1,4,8,9,10,11],[0,4,8,9,11,13],[0,4,8,11,13,118],[0,4,8,11,13],[4,11,13],[4,5],[0,1,4,6,21,22,23],[4,5]]
noncomputable def cf95 : LFunc := cq (cFunc Tryz.prog Tryz.f95 ks95)
theorem cf95_ok : cFunc Tryz.prog Tryz.f95 ks95 = some cf95 := cq_ok (by kernel_rfl)
def ks96 : List (List Nat) := [[0,1,2,6],[0,1,2,6,35],[6,7],[0,1,6,8,9],[0,1,6,8,47],[6,7],[0,1,6,8,10],[0,1,6,8,10,12],[0,1,6,8,10],[0,1,6,8,10,14],[0,6,8,10,14,15],[0,6,8,14,15,94],[0,6,8,14,15],[0,6,8,14,15],[6,14,15],[6,7]]
noncomputable def cf96 : LFunc := cq (cFunc Tryz.prog Tryz.f96 ks96)
theorem cf96_ok : cFunc Tryz.prog Tryz.f96 ks96 = some cf96 := cq_ok (by kernel_rfl)
def lf98 : LFunc := ⟨18,[.tmp 4],.seq (.region [⟨some 4,.op (.mov (.c (.int .i64 0))),none⟩] [0,1]) (.seq (.region [⟨some 8,.op (.mov (.t 1)),none⟩,⟨some 9,.op (.mov (.t 0)),none⟩,⟨some 10,.op (.nilCheck (.t 9)),none⟩,⟨some 11,.op (.fieldAddr 0 (.t 10)),none⟩,⟨some 12,.op (.fieldAddr 0 (.t 11)),none⟩,⟨some 13,.op (.load1 (.t 12)),none⟩,⟨some 14,.call (.c (.func (.func 30) #[] #[])) [.t 8,.t 13],none⟩,⟨some 7,.op (.mov (.t 14)),none⟩,⟨some 15,.op (.extract 0 (.t 7)),none⟩,⟨some 16,.op (.extract 1 (.t 7)),none⟩,⟨some 5,.op (.mov (.t 15)),none⟩,⟨some 6,.op (.mov (.t 16)),none⟩] [5]) (.seq (.region [⟨some 17,.op (.mov (.t 5)),none⟩,⟨some 4,.op (.mov (.t 17)),none⟩] [4]) (.ret)))⟩
theorem lf98_ok : cFunc Tryz.prog Tryz.f98 [[0,1],[5],[4]] = some lf98 := by kernel_rfl
def ks127 : List (List Nat) := [[0,2],[0,2,9],[2,3],[0,2,4],[2,4],[2,3]]
noncomputable def cf127 : LFunc := cq (cFunc Tryz.prog Tryz.f127 ks127)
theorem cf127_ok : cFunc Tryz.prog Tryz.f127 ks127 = some cf127 := cq_ok (by kernel_rfl)
def ks128 : List (List Nat) := [[2,3],[4]]
noncomputable def cf128 : LFunc := cq (cFunc Tryz.prog Tryz.f128 ks128)
theorem cf128_ok : cFunc Tryz.prog Tryz.f128 ks128 = some cf128 := cq_ok (by kernel_rfl)
def ks134 : List (List Nat) := [[0,1,4],[0,1,4,12],[0,1],[]]
noncomputable def cf134 : LFunc := cq (cFunc Tryz.prog Tryz.f134 ks134)
theorem cf134_ok : cFunc Tryz.prog Tryz.f134 ks134 = some cf134 := cq_ok (by kernel_rfl)
def ks164 : List (List Nat) := [[0,1,2],[0,1,2,11],[0,1,2,4],[0,1,2,24]]
noncomputable def cf164 : LFunc := cq (cFunc Tryz.prog Tryz.f164 ks164)
theorem cf164_ok : cFunc Tryz.prog Tryz.f164 ks164 = some cf164 := cq_ok (by kernel_rfl)
def ks168 : List (List Nat) := [[0,1,2,7],[0,1,7,8,9],[0,1,7,8,9,11],[0,1,7,8,9,41],[7,8,9],[6,7]]
noncomputable def cf168 : LFunc := cq (cFunc Tryz.prog Tryz.f168 ks168)
theorem cf168_ok : cFunc Tryz.prog Tryz.f168 ks168 = some cf168 := cq_ok (by kernel_rfl)
def ks190 : List (List Nat) := [[0,3],[0,3,4],[0,3,4],[]]
noncomputable def cf190 : LFunc := cq (cFunc Tryz.prog Tryz.f190 ks190)
theorem cf190_ok : cFunc Tryz.prog Tryz.f190 ks190 = some cf190 := cq_ok (by kernel_rfl)
def ks215 : List (List Nat) := [[1,2],[3]]
noncomputable def cf215 : LFunc := cq (cFunc Tryz.prog Tryz.f215 ks215)
theorem cf215_ok : cFunc Tryz.prog Tryz.f215 ks215 = some cf215 := cq_ok (by kernel_rfl)
noncomputable def tabG : List (FuncId × LFunc) := [(9, cf9), (10, lf10), (12, cf12), (13, lf13), (14, cf14), (18, cf18), (19, cf19), (20, cf20), (24, lf24), (32, cf32), (35, cf35), (37, cf37), (38, cf38), (39, cf39), (40, cf40), (47, lf47), (48, lf48), (65, cf65), (67, cf67), (80, lf80), (93, cf93), (94, cf94), (95, cf95), (96, cf96), (98, lf98), (127, cf127), (128, cf128), (134, cf134), (164, cf164), (168, cf168), (190, cf190), (215, cf215)]
theorem tabG_ok : ∀ p ∈ tabG, ∃ fn ks nt, Tryz.prog.funcs[p.1]? = some fn ∧ cFunc Tryz.prog fn ks nt = some p.2 := by
 unfold tabG
 refine tcons Tryz.func9 cf9_ok ?_
 refine tcons Tryz.func10 lf10_ok ?_
 refine tcons Tryz.func12 cf12_ok ?_
 refine tcons Tryz.func13 lf13_ok ?_
 refine tcons Tryz.func14 cf14_ok ?_
 refine tcons Tryz.func18 cf18_ok ?_
 refine tcons Tryz.func19 cf19_ok ?_
 refine tcons Tryz.func20 cf20_ok ?_
 refine tcons Tryz.func24 lf24_ok ?_
 refine tcons Tryz.func32 cf32_ok ?_
 refine tcons Tryz.func35 cf35_ok ?_
 refine tcons Tryz.func37 cf37_ok ?_
 refine tcons Tryz.func38 cf38_ok ?_
 refine tcons Tryz.func39 cf39_ok ?_
 refine tcons Tryz.func40 cf40_ok ?_
 refine tcons Tryz.func47 lf47_ok ?_
 refine tcons Tryz.func48 lf48_ok ?_
 refine tcons Tryz.func65 cf65_ok ?_
 refine tcons Tryz.func67 cf67_ok ?_
 refine tcons Tryz.func80 lf80_ok ?_
 refine tcons Tryz.func93 cf93_ok ?_
 refine tcons Tryz.func94 cf94_ok ?_
 refine tcons Tryz.func95 cf95_ok ?_
 refine tcons Tryz.func96 cf96_ok ?_
 refine tcons Tryz.func98 lf98_ok ?_
 refine tcons Tryz.func127 cf127_ok ?_
 refine tcons Tryz.func128 cf128_ok ?_
 refine tcons Tryz.func134 cf134_ok ?_
 refine tcons Tryz.func164 cf164_ok ?_
 refine tcons Tryz.func168 cf168_ok ?_
 refine tcons Tryz.func190 cf190_ok ?_
 refine tcons Tryz.func215 cf215_ok ?_
 intro p hp; cases hp
end Go.E1
