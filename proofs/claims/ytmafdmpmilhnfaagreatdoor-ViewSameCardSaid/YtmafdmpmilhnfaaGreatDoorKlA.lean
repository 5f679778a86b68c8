/-
  The engine's code of some functions, printed by a small program, and that it is what the loaded functions become.
-/
import Derived.Test.YtmafdmpmilhnfaaGreatDoorProg
import Derived.Test.YtmafdmpmilhnfaaGreatDoorKd
namespace Go.E1
open Go Go.Proofs

/-- bytes.CutPrefix -/
def lf21 : LFunc := ⟨15, [.tmp 4, .tmp 5],
 .seq (.region [⟨some 4, .op (.mov (.c (.slice none 0 0))), none⟩,
 ⟨some 5, .op (.mov (.c (.bool false))), none⟩] [0, 1])
 (.seq (.seq (.region [⟨some 6, .op (.mov (.t 0)), none⟩,
 ⟨some 7, .op (.mov (.t 1)), none⟩,
 ⟨some 8, .call (.c (.func (.func 41) #[] #[])) [.t 6, .t 7], none⟩,
 ⟨some 9, .op (.un .not (.t 8)), none⟩] [0, 1, 9])
 (.cond (.t 9)
 (.seq (.region [⟨some 10, .op (.mov (.t 0)), none⟩,
 ⟨some 4, .op (.mov (.t 10)), none⟩,
 ⟨some 5, .op (.mov (.c (.bool false))), none⟩] [4, 5])
 (.ret))
 (.skip)))
 (.seq (.region [⟨some 11, .op (.mov (.t 0)), none⟩,
 ⟨some 12, .op (.mov (.t 1)), none⟩,
 ⟨some 13, .op (.lenS (.t 12)), none⟩,
 ⟨some 14, .op (.slice 1 (.t 11) (some (.t 13)) none none), none⟩,
 ⟨some 4, .op (.mov (.t 14)), none⟩,
 ⟨some 5, .op (.mov (.c (.bool true))), none⟩] [4, 5])
 (.ret)))⟩

theorem lf21_ok : cFunc Tryz.prog Tryz.f21 [[0, 1], [0, 1, 9], [4, 5], [4, 5]] = some lf21 := by kernel_rfl

/-- slices.Concat[[]byte,byte] -/
def lf27 : LFunc := ⟨36, [.tmp 2],
 .seq (.region [⟨some 2, .op (.mov (.c (.slice none 0 0))), none⟩] [0])
 (.seq (.region [⟨some 3, .op (.mov (.c (.int .i64 0))), none⟩] [0, 3])
 (.seq (.seq (.region [⟨some 9, .op (.mov (.t 0)), none⟩,
 ⟨some 10, .op (.lenS (.t 9)), none⟩,
 ⟨some 11, .op (.mov (.c (.int .i64 0))), none⟩] [0, 3, 9, 10, 11])
 (.block 0 (.loop (.seq (.region [⟨some 12, .op (.bin .lss .basic (.t 11) (.t 10)), none⟩] [0, 3, 9, 10, 11, 12])
 (.seq (.cond (.t 12)
 (.skip)
 (.exit 0))
 (.seq (.block 1 (.seq (.region [⟨some 13, .op (.idxAddrS 1 (.t 9) (.t 11)), none⟩,
 ⟨some 14, .op (.load1 (.t 13)), none⟩,
 ⟨some 5, .op (.mov (.t 14)), none⟩] [0, 3, 5, 9, 10, 11])
 (.seq (.region [⟨some 15, .op (.mov (.t 3)), none⟩,
 ⟨some 16, .op (.mov (.t 5)), none⟩,
 ⟨some 17, .op (.lenS (.t 16)), none⟩,
 ⟨some 18, .op (.bin .add .basic (.t 15) (.t 17)), none⟩,
 ⟨some 3, .op (.mov (.t 18)), none⟩] [0, 3, 9, 10, 11])
 (.seq (.region [⟨some 19, .op (.mov (.t 3)), none⟩,
 ⟨some 20, .op (.bin .lss .basic (.t 19) (.c (.int .i64 0))), none⟩] [0, 3, 9, 10, 11, 20])
 (.cond (.t 20)
 (.region [⟨some 21, .op (.bad), none⟩,
 ⟨none, .op (.bad), none⟩] [0, 3, 9, 10, 11])
 (.skip))))))
 (.region [⟨some 22, .op (.bin .add .basic (.t 11) (.c (.int .i64 1))), none⟩,
 ⟨some 11, .op (.mov (.t 22)), none⟩] [0, 3, 9, 10, 11])))))))
 (.seq (.region [⟨some 23, .op (.mov (.t 3)), none⟩,
 ⟨some 24, .call (.c (.func (.func 54) #[] #[])) [.c (.slice none 0 0), .t 23], none⟩,
 ⟨some 6, .op (.mov (.t 24)), none⟩] [0, 6])
 (.seq (.seq (.region [⟨some 25, .op (.mov (.t 0)), none⟩,
 ⟨some 26, .op (.lenS (.t 25)), none⟩,
 ⟨some 27, .op (.mov (.c (.int .i64 0))), none⟩] [6, 25, 26, 27])
 (.block 2 (.loop (.seq (.region [⟨some 28, .op (.bin .lss .basic (.t 27) (.t 26)), none⟩] [6, 25, 26, 27, 28])
 (.seq (.cond (.t 28)
 (.skip)
 (.exit 2))
 (.seq (.block 3 (.seq (.region [⟨some 29, .op (.idxAddrS 1 (.t 25) (.t 27)), none⟩,
 ⟨some 30, .op (.load1 (.t 29)), none⟩,
 ⟨some 8, .op (.mov (.t 30)), none⟩] [6, 8, 25, 26, 27])
 (.region [⟨some 31, .op (.mov (.t 6)), none⟩,
 ⟨some 32, .op (.mov (.t 8)), none⟩,
 ⟨some 33, .op (.append 1 1 (.t 31) (.t 32)), none⟩,
 ⟨some 6, .op (.mov (.t 33)), none⟩] [6, 25, 26, 27])))
 (.region [⟨some 34, .op (.bin .add .basic (.t 27) (.c (.int .i64 1))), none⟩,
 ⟨some 27, .op (.mov (.t 34)), none⟩] [6, 25, 26, 27])))))))
 (.seq (.region [⟨some 35, .op (.mov (.t 6)), none⟩,
 ⟨some 2, .op (.mov (.t 35)), none⟩] [2])
 (.ret))))))⟩

theorem lf27_ok : cFunc Tryz.prog Tryz.f27 [[0], [0, 3], [0, 3, 9, 10, 11], [0, 3, 9, 10, 11, 12], [0, 3, 5, 9, 10, 11], [0, 3, 9, 10, 11], [0, 3, 9, 10, 11, 20], [0, 3, 9, 10, 11], [0, 3, 9, 10, 11], [0, 6], [6, 25, 26, 27], [6, 25, 26, 27, 28], [6, 8, 25, 26, 27], [6, 25, 26, 27], [6, 25, 26, 27], [2]] = some lf27 := by kernel_rfl

/-- slices.Equal[[]squint/static.Field,squint/static.Field] -/
def lf28 : LFunc := ⟨26, [.tmp 4],
 .seq (.region [⟨some 4, .op (.mov (.c (.bool false))), none⟩] [0, 1])
 (.seq (.seq (.region [⟨some 6, .op (.mov (.t 0)), none⟩,
 ⟨some 7, .op (.lenS (.t 6)), none⟩,
 ⟨some 8, .op (.mov (.t 1)), none⟩,
 ⟨some 9, .op (.lenS (.t 8)), none⟩,
 ⟨some 10, .op (.bin .neq .basic (.t 7) (.t 9)), none⟩] [0, 1, 10])
 (.cond (.t 10)
 (.seq (.region [⟨some 4, .op (.mov (.c (.bool false))), none⟩] [4])
 (.ret))
 (.skip)))
 (.seq (.seq (.region [⟨some 11, .op (.mov (.t 0)), none⟩,
 ⟨some 12, .op (.lenS (.t 11)), none⟩,
 ⟨some 13, .op (.mov (.c (.int .i64 0))), none⟩] [0, 1, 12, 13])
 (.block 0 (.loop (.seq (.region [⟨some 14, .op (.bin .lss .basic (.t 13) (.t 12)), none⟩] [0, 1, 12, 13, 14])
 (.seq (.cond (.t 14)
 (.skip)
 (.exit 0))
 (.seq (.block 1 (.seq (.region [⟨some 15, .op (.mov (.t 13)), none⟩,
 ⟨some 5, .op (.mov (.t 15)), none⟩] [0, 1, 5, 12, 13])
 (.seq (.dregion [(⟨some 16, .op (.mov (.t 0)), none⟩, 0, 0),
 (⟨some 17, .op (.mov (.t 5)), none⟩, 0, 0),
 (⟨some 18, .op (.idxAddrS 2 (.t 16) (.t 17)), none⟩, 0, 0),
 (⟨some 19, .op (.loadN 2 (.t 18)), none⟩, 0, 0),
 (⟨some 20, .op (.mov (.t 1)), none⟩, 0, 0),
 (⟨some 21, .op (.mov (.t 5)), none⟩, 0, 0),
 (⟨some 22, .op (.idxAddrS 2 (.t 20) (.t 21)), none⟩, 0, 0),
 (⟨some 23, .op (.loadN 2 (.t 22)), none⟩, 0, 0),
 (⟨some 24, .op (.bin .neq (.typed 95) (.t 19) (.t 23)), none⟩, 0, 0)] [0, 1, 12, 13, 24])
 (.cond (.t 24)
 (.seq (.region [⟨some 4, .op (.mov (.c (.bool false))), none⟩] [4])
 (.ret))
 (.skip)))))
 (.region [⟨some 25, .op (.bin .add .basic (.t 13) (.c (.int .i64 1))), none⟩,
 ⟨some 13, .op (.mov (.t 25)), none⟩] [0, 1, 12, 13])))))))
 (.seq (.region [⟨some 4, .op (.mov (.c (.bool true))), none⟩] [4])
 (.ret))))⟩

theorem lf28_ok : cFunc Tryz.prog Tryz.f28 [[0, 1], [0, 1, 10], [4], [0, 1, 12, 13], [0, 1, 12, 13, 14], [0, 1, 5, 12, 13], [0, 1, 12, 13, 24], [4], [0, 1, 12, 13], [4]] = some lf28 := by kernel_rfl

/-- bytes.Equal -/
def lf29 : LFunc := ⟨10, [.tmp 4],
 .seq (.region [⟨some 4, .op (.mov (.c (.bool false))), none⟩] [0, 1])
 (.seq (.region [⟨some 5, .op (.mov (.t 0)), none⟩,
 ⟨some 6, .op (.bytesStr (.t 5)), none⟩,
 ⟨some 7, .op (.mov (.t 1)), none⟩,
 ⟨some 8, .op (.bytesStr (.t 7)), none⟩,
 ⟨some 9, .op (.bin .eql .basic (.t 6) (.t 8)), none⟩,
 ⟨some 4, .op (.mov (.t 9)), none⟩] [4])
 (.ret))⟩

theorem lf29_ok : cFunc Tryz.prog Tryz.f29 [[0, 1], [4]] = some lf29 := by kernel_rfl

/-- slices.EqualFunc[[]squint/endpoint.Delivery,[]squint/endpoint.Delivery,squint/endpoint.Delivery,squint/endpoint.Delivery] -/
def lf31 : LFunc := ⟨32, [.tmp 6],
 .seq (.region [⟨some 6, .op (.mov (.c (.bool false))), none⟩] [0, 1, 2])
 (.seq (.seq (.region [⟨some 10, .op (.mov (.t 0)), none⟩,
 ⟨some 11, .op (.lenS (.t 10)), none⟩,
 ⟨some 12, .op (.mov (.t 1)), none⟩,
 ⟨some 13, .op (.lenS (.t 12)), none⟩,
 ⟨some 14, .op (.bin .neq .basic (.t 11) (.t 13)), none⟩] [0, 1, 2, 14])
 (.cond (.t 14)
 (.seq (.region [⟨some 6, .op (.mov (.c (.bool false))), none⟩] [6])
 (.ret))
 (.skip)))
 (.seq (.seq (.region [⟨some 15, .op (.mov (.t 0)), none⟩,
 ⟨some 16, .op (.lenS (.t 15)), none⟩,
 ⟨some 17, .op (.mov (.c (.int .i64 0))), none⟩] [1, 2, 15, 16, 17])
 (.block 0 (.loop (.seq (.region [⟨some 18, .op (.bin .lss .basic (.t 17) (.t 16)), none⟩] [1, 2, 15, 16, 17, 18])
 (.seq (.cond (.t 18)
 (.skip)
 (.exit 0))
 (.seq (.block 1 (.seq (.region [⟨some 19, .op (.mov (.t 17)), none⟩,
 ⟨some 20, .op (.idxAddrS 8 (.t 15) (.t 17)), none⟩,
 ⟨some 21, .op (.loadN 8 (.t 20)), none⟩,
 ⟨some 8, .op (.alloc [.int .i64 0, .int .i64 0, .int .i64 0, .int .i64 0, .int .i64 0, .slice none 0 0, .slice none 0 0, .int .i64 0]), none⟩,
 ⟨some 7, .op (.mov (.t 19)), none⟩,
 ⟨none, .op (.store 8 (.t 8) (.t 21)), none⟩] [1, 2, 7, 8, 15, 16, 17])
 (.seq (.region [⟨some 22, .op (.mov (.t 1)), none⟩,
 ⟨some 23, .op (.mov (.t 7)), none⟩,
 ⟨some 24, .op (.idxAddrS 8 (.t 22) (.t 23)), none⟩,
 ⟨some 25, .op (.loadN 8 (.t 24)), none⟩,
 ⟨some 9, .op (.alloc [.int .i64 0, .int .i64 0, .int .i64 0, .int .i64 0, .int .i64 0, .slice none 0 0, .slice none 0 0, .int .i64 0]), none⟩,
 ⟨none, .op (.store 8 (.t 9) (.t 25)), none⟩] [1, 2, 8, 9, 15, 16, 17])
 (.seq (.region [⟨some 26, .op (.mov (.t 2)), none⟩,
 ⟨some 27, .op (.loadN 8 (.t 8)), none⟩,
 ⟨some 28, .op (.loadN 8 (.t 9)), none⟩,
 ⟨some 29, .call (.t 26) [.t 27, .t 28], none⟩,
 ⟨some 30, .op (.un .not (.t 29)), none⟩] [1, 2, 15, 16, 17, 30])
 (.cond (.t 30)
 (.seq (.region [⟨some 6, .op (.mov (.c (.bool false))), none⟩] [6])
 (.ret))
 (.skip))))))
 (.region [⟨some 31, .op (.bin .add .basic (.t 17) (.c (.int .i64 1))), none⟩,
 ⟨some 17, .op (.mov (.t 31)), none⟩] [1, 2, 15, 16, 17])))))))
 (.seq (.region [⟨some 6, .op (.mov (.c (.bool true))), none⟩] [6])
 (.ret))))⟩

theorem lf31_ok : cFunc Tryz.prog Tryz.f31 [[0, 1, 2], [0, 1, 2, 14], [6], [1, 2, 15, 16, 17], [1, 2, 15, 16, 17, 18], [1, 2, 7, 8, 15, 16, 17], [1, 2, 8, 9, 15, 16, 17], [1, 2, 15, 16, 17, 30], [6], [1, 2, 15, 16, 17], [6]] = some lf31 := by kernel_rfl

/-- bytes.HasPrefix -/
def lf41 : LFunc := ⟨18, [.tmp 4],
 .seq (.region [⟨some 4, .op (.mov (.c (.bool false))), none⟩] [0, 1])
 (.seq (.region [⟨some 5, .op (.mov (.t 0)), none⟩,
 ⟨some 6, .op (.lenS (.t 5)), none⟩,
 ⟨some 7, .op (.mov (.t 1)), none⟩,
 ⟨some 8, .op (.lenS (.t 7)), none⟩,
 ⟨some 9, .op (.bin .geq .basic (.t 6) (.t 8)), none⟩,
 ⟨some 10, .op (.mov (.t 9)), none⟩,
 ⟨some 11, .op (.mov (.t 0)), some (10, true)⟩,
 ⟨some 12, .op (.mov (.t 1)), some (10, true)⟩,
 ⟨some 13, .op (.lenS (.t 12)), some (10, true)⟩,
 ⟨some 14, .op (.slice 1 (.t 11) none (some (.t 13)) none), some (10, true)⟩,
 ⟨some 15, .op (.mov (.t 1)), some (10, true)⟩,
 ⟨some 16, .call (.c (.func (.func 29) #[] #[])) [.t 14, .t 15], some (10, true)⟩,
 ⟨some 17, .pick (.t 10) (.t 16) (.c (.bool false)), none⟩,
 ⟨some 4, .op (.mov (.t 17)), none⟩] [4])
 (.ret))⟩

theorem lf41_ok : cFunc Tryz.prog Tryz.f41 [[0, 1], [4]] = some lf41 := by kernel_rfl

/-- bytes.Clone -/
def lf43 : LFunc := ⟨8, [.tmp 2],
 .seq (.region [⟨some 2, .op (.mov (.c (.slice none 0 0))), none⟩] [0])
 (.seq (.seq (.region [⟨some 3, .op (.mov (.t 0)), none⟩,
 ⟨some 4, .op (.bin .eql .slice (.t 3) (.c (.slice none 0 0))), none⟩] [0, 4])
 (.cond (.t 4)
 (.seq (.region [⟨some 2, .op (.mov (.c (.slice none 0 0))), none⟩] [2])
 (.ret))
 (.skip)))
 (.seq (.region [⟨some 5, .op (.buildSlice 0 1 [] []), none⟩,
 ⟨some 6, .op (.mov (.t 0)), none⟩,
 ⟨some 7, .op (.append 1 1 (.t 5) (.t 6)), none⟩,
 ⟨some 2, .op (.mov (.t 7)), none⟩] [2])
 (.ret)))⟩

theorem lf43_ok : cFunc Tryz.prog Tryz.f43 [[0], [0, 4], [2], [2]] = some lf43 := by kernel_rfl

/-- slices.ContainsFunc[[][2]int,[2]int] -/
def lf51 : LFunc := ⟨9, [.tmp 4],
 .seq (.region [⟨some 4, .op (.mov (.c (.bool false))), none⟩] [0, 1])
 (.seq (.region [⟨some 5, .op (.mov (.t 0)), none⟩,
 ⟨some 6, .op (.mov (.t 1)), none⟩,
 ⟨some 7, .call (.c (.func (.func 81) #[] #[])) [.t 5, .t 6], none⟩,
 ⟨some 8, .op (.bin .geq .basic (.t 7) (.c (.int .i64 0))), none⟩,
 ⟨some 4, .op (.mov (.t 8)), none⟩] [4])
 (.ret))⟩

theorem lf51_ok : cFunc Tryz.prog Tryz.f51 [[0, 1], [4]] = some lf51 := by kernel_rfl

/-- squint/octet.Big -/
def lf52 : LFunc := ⟨29, [.tmp 4],
 .seq (.region [⟨some 4, .op (.mov (.c (.slice none 0 0))), none⟩] [0, 1])
 (.seq (.seq (.region [⟨some 7, .op (.mov (.t 1)), none⟩,
 ⟨some 8, .op (.bin .lss .basic (.t 7) (.c (.int .i64 1))), none⟩,
 ⟨some 9, .op (.mov (.t 8)), none⟩,
 ⟨some 10, .op (.mov (.t 1)), some (9, false)⟩,
 ⟨some 11, .op (.bin .gtr .basic (.t 10) (.c (.int .i64 64))), some (9, false)⟩,
 ⟨some 12, .pick (.t 9) (.c (.bool true)) (.t 11), none⟩] [0, 1, 12])
 (.cond (.t 12)
 (.seq (.region [⟨some 4, .op (.mov (.c (.slice none 0 0))), none⟩] [4])
 (.ret))
 (.skip)))
 (.seq (.region [⟨some 13, .op (.mov (.t 1)), none⟩,
 ⟨some 14, .op (.makeSlice 1 1 [.int .u8 0] (.t 13) (.t 13)), none⟩,
 ⟨some 5, .op (.mov (.t 14)), none⟩] [0, 1, 5])
 (.seq (.seq (.region [⟨some 15, .op (.mov (.t 1)), none⟩,
 ⟨some 16, .op (.bin .sub .basic (.t 15) (.c (.int .i64 1))), none⟩,
 ⟨some 6, .op (.mov (.t 16)), none⟩] [0, 5, 6])
 (.block 0 (.loop (.seq (.seq (.region [⟨some 17, .op (.mov (.t 6)), none⟩,
 ⟨some 18, .op (.bin .geq .basic (.t 17) (.c (.int .i64 0))), none⟩] [0, 5, 6, 18])
 (.cond (.t 18)
 (.skip)
 (.exit 0)))
 (.seq (.block 1 (.seq (.region [⟨some 21, .op (.mov (.t 5)), none⟩,
 ⟨some 22, .op (.mov (.t 6)), none⟩,
 ⟨some 23, .op (.mov (.t 0)), none⟩,
 ⟨some 24, .op (.convInt .u8 (.t 23)), none⟩,
 ⟨some 25, .op (.idxAddrS 1 (.t 21) (.t 22)), none⟩,
 ⟨none, .op (.store 1 (.t 25) (.t 24)), none⟩] [0, 5, 6])
 (.region [⟨some 26, .op (.mov (.t 0)), none⟩,
 ⟨some 27, .op (.bin .shr .basic (.t 26) (.c (.int .u64 8))), none⟩,
 ⟨some 0, .op (.mov (.t 27)), none⟩] [0, 5, 6])))
 (.region [⟨some 19, .op (.mov (.t 6)), none⟩,
 ⟨some 20, .op (.bin .sub .basic (.t 19) (.c (.int .i64 1))), none⟩,
 ⟨some 6, .op (.mov (.t 20)), none⟩] [0, 5, 6]))))))
 (.seq (.region [⟨some 28, .op (.mov (.t 5)), none⟩,
 ⟨some 4, .op (.mov (.t 28)), none⟩] [4])
 (.ret)))))⟩

theorem lf52_ok : cFunc Tryz.prog Tryz.f52 [[0, 1], [0, 1, 12], [4], [0, 1, 5], [0, 5, 6], [0, 5, 6, 18], [0, 5, 6], [0, 5, 6], [0, 5, 6], [4]] = some lf52 := by kernel_rfl

/-- slices.Grow[[]byte,byte] -/
def lf54 : LFunc := ⟨27, [.tmp 4],
 .seq (.region [⟨some 4, .op (.mov (.c (.slice none 0 0))), none⟩] [0, 1])
 (.seq (.seq (.region [⟨some 5, .op (.mov (.t 1)), none⟩,
 ⟨some 6, .op (.bin .lss .basic (.t 5) (.c (.int .i64 0))), none⟩] [0, 1, 6])
 (.cond (.t 6)
 (.region [⟨some 7, .op (.bad), none⟩,
 ⟨none, .op (.bad), none⟩] [0, 1])
 (.skip)))
 (.seq (.seq (.region [⟨some 8, .op (.mov (.t 1)), none⟩,
 ⟨some 9, .op (.mov (.t 0)), none⟩,
 ⟨some 10, .op (.bad), none⟩,
 ⟨some 11, .op (.mov (.t 0)), none⟩,
 ⟨some 12, .op (.lenS (.t 11)), none⟩,
 ⟨some 13, .op (.bin .sub .basic (.t 10) (.t 12)), none⟩,
 ⟨some 14, .op (.bin .sub .basic (.t 8) (.t 13)), none⟩,
 ⟨some 1, .op (.mov (.t 14)), none⟩] [0, 1])
 (.seq (.region [⟨some 15, .op (.mov (.t 1)), none⟩,
 ⟨some 16, .op (.bin .gtr .basic (.t 15) (.c (.int .i64 0))), none⟩] [0, 1, 16])
 (.cond (.t 16)
 (.region [⟨some 17, .op (.mov (.t 0)), none⟩,
 ⟨some 18, .op (.mov (.t 0)), none⟩,
 ⟨some 19, .op (.bad), none⟩,
 ⟨some 20, .op (.slice 1 (.t 17) none (some (.t 19)) none), none⟩,
 ⟨some 21, .op (.mov (.t 1)), none⟩,
 ⟨some 22, .op (.bad), none⟩,
 ⟨some 23, .op (.mov (.t 0)), none⟩,
 ⟨some 24, .op (.lenS (.t 23)), none⟩,
 ⟨some 25, .op (.slice 1 (.t 22) none (some (.t 24)) none), none⟩,
 ⟨some 0, .op (.mov (.t 25)), none⟩] [0])
 (.skip))))
 (.seq (.region [⟨some 26, .op (.mov (.t 0)), none⟩,
 ⟨some 4, .op (.mov (.t 26)), none⟩] [4])
 (.ret))))⟩

theorem lf54_ok : cFunc Tryz.prog Tryz.f54 [[0, 1], [0, 1, 6], [0, 1], [0, 1], [0, 1, 16], [0], [4]] = some lf54 := by kernel_rfl

/-- squint/octet.New -/
def lf68 : LFunc := ⟨7, [.tmp 2],
 .seq (.region [⟨some 2, .op (.mov (.c (.pointer none))), none⟩] [0])
 (.seq (.region [⟨some 3, .op (.mov (.t 0)), none⟩,
 ⟨some 4, .call (.c (.func (.func 43) #[] #[])) [.t 3], none⟩,
 ⟨some 5, .op (.build [.slice none 0 0] [(0, 1, .t 4)]), none⟩,
 ⟨some 6, .op (.box (.t 5)), none⟩,
 ⟨some 2, .op (.mov (.t 6)), none⟩] [2])
 (.ret))⟩

theorem lf68_ok : cFunc Tryz.prog Tryz.f68 [[0], [2]] = some lf68 := by kernel_rfl

/-- slices.IndexFunc[[]squint/view.Got,squint/view.Got] -/
def lf79 : LFunc := ⟨19, [.tmp 4],
 .seq (.region [⟨some 4, .op (.mov (.c (.int .i64 0))), none⟩] [0, 1])
 (.seq (.seq (.region [⟨some 6, .op (.mov (.t 0)), none⟩,
 ⟨some 7, .op (.lenS (.t 6)), none⟩,
 ⟨some 8, .op (.mov (.c (.int .i64 0))), none⟩] [0, 1, 7, 8])
 (.block 0 (.loop (.seq (.region [⟨some 9, .op (.bin .lss .basic (.t 8) (.t 7)), none⟩] [0, 1, 7, 8, 9])
 (.seq (.cond (.t 9)
 (.skip)
 (.exit 0))
 (.seq (.block 1 (.seq (.region [⟨some 10, .op (.mov (.t 8)), none⟩,
 ⟨some 5, .op (.mov (.t 10)), none⟩] [0, 1, 5, 7, 8])
 (.seq (.region [⟨some 11, .op (.mov (.t 1)), none⟩,
 ⟨some 12, .op (.mov (.t 0)), none⟩,
 ⟨some 13, .op (.mov (.t 5)), none⟩,
 ⟨some 14, .op (.idxAddrS 9 (.t 12) (.t 13)), none⟩,
 ⟨some 15, .op (.loadN 9 (.t 14)), none⟩,
 ⟨some 16, .call (.t 11) [.t 15], none⟩] [0, 1, 5, 7, 8, 16])
 (.cond (.t 16)
 (.seq (.region [⟨some 17, .op (.mov (.t 5)), none⟩,
 ⟨some 4, .op (.mov (.t 17)), none⟩] [4])
 (.ret))
 (.skip)))))
 (.region [⟨some 18, .op (.bin .add .basic (.t 8) (.c (.int .i64 1))), none⟩,
 ⟨some 8, .op (.mov (.t 18)), none⟩] [0, 1, 7, 8])))))))
 (.seq (.region [⟨some 4, .op (.mov (.c (.int .i64 (-1)))), none⟩] [4])
 (.ret)))⟩

theorem lf79_ok : cFunc Tryz.prog Tryz.f79 [[0, 1], [0, 1, 7, 8], [0, 1, 7, 8, 9], [0, 1, 5, 7, 8], [0, 1, 5, 7, 8, 16], [4], [0, 1, 7, 8], [4]] = some lf79 := by kernel_rfl

/-- slices.IndexFunc[[][2]int,[2]int] -/
def lf81 : LFunc := ⟨19, [.tmp 4],
 .seq (.region [⟨some 4, .op (.mov (.c (.int .i64 0))), none⟩] [0, 1])
 (.seq (.seq (.region [⟨some 6, .op (.mov (.t 0)), none⟩,
 ⟨some 7, .op (.lenS (.t 6)), none⟩,
 ⟨some 8, .op (.mov (.c (.int .i64 0))), none⟩] [0, 1, 7, 8])
 (.block 0 (.loop (.seq (.region [⟨some 9, .op (.bin .lss .basic (.t 8) (.t 7)), none⟩] [0, 1, 7, 8, 9])
 (.seq (.cond (.t 9)
 (.skip)
 (.exit 0))
 (.seq (.block 1 (.seq (.region [⟨some 10, .op (.mov (.t 8)), none⟩,
 ⟨some 5, .op (.mov (.t 10)), none⟩] [0, 1, 5, 7, 8])
 (.seq (.region [⟨some 11, .op (.mov (.t 1)), none⟩,
 ⟨some 12, .op (.mov (.t 0)), none⟩,
 ⟨some 13, .op (.mov (.t 5)), none⟩,
 ⟨some 14, .op (.idxAddrS 2 (.t 12) (.t 13)), none⟩,
 ⟨some 15, .op (.loadN 2 (.t 14)), none⟩,
 ⟨some 16, .call (.t 11) [.t 15], none⟩] [0, 1, 5, 7, 8, 16])
 (.cond (.t 16)
 (.seq (.region [⟨some 17, .op (.mov (.t 5)), none⟩,
 ⟨some 4, .op (.mov (.t 17)), none⟩] [4])
 (.ret))
 (.skip)))))
 (.region [⟨some 18, .op (.bin .add .basic (.t 8) (.c (.int .i64 1))), none⟩,
 ⟨some 8, .op (.mov (.t 18)), none⟩] [0, 1, 7, 8])))))))
 (.seq (.region [⟨some 4, .op (.mov (.c (.int .i64 (-1)))), none⟩] [4])
 (.ret)))⟩

theorem lf81_ok : cFunc Tryz.prog Tryz.f81 [[0, 1], [0, 1, 7, 8], [0, 1, 7, 8, 9], [0, 1, 5, 7, 8], [0, 1, 5, 7, 8, 16], [4], [0, 1, 7, 8], [4]] = some lf81 := by kernel_rfl

/-- (*squint/octet.In).Num -/
def lf99 : LFunc := ⟨22, [.tmp 4, .tmp 5],
 .seq (.region [⟨some 4, .op (.mov (.c (.int .u64 0))), none⟩,
 ⟨some 5, .op (.mov (.c (.bool false))), none⟩] [0, 1])
 (.seq (.seq (.region [⟨some 8, .op (.mov (.t 1)), none⟩,
 ⟨some 9, .op (.bin .gtr .basic (.t 8) (.c (.int .i64 8))), none⟩] [0, 1, 9])
 (.cond (.t 9)
 (.seq (.region [⟨some 4, .op (.mov (.c (.int .u64 0))), none⟩,
 ⟨some 5, .op (.mov (.c (.bool false))), none⟩] [4, 5])
 (.ret))
 (.skip)))
 (.seq (.region [⟨some 11, .op (.mov (.t 0)), none⟩,
 ⟨some 12, .op (.mov (.t 1)), none⟩,
 ⟨some 13, .call (.c (.func (.func 141) #[] #[])) [.t 11, .t 12], none⟩,
 ⟨some 10, .op (.mov (.t 13)), none⟩,
 ⟨some 14, .op (.extract 0 (.t 10)), none⟩,
 ⟨some 15, .op (.extract 1 (.t 10)), none⟩,
 ⟨some 6, .op (.mov (.t 14)), none⟩,
 ⟨some 7, .op (.mov (.t 15)), none⟩] [6, 7])
 (.seq (.seq (.region [⟨some 16, .op (.mov (.t 7)), none⟩,
 ⟨some 17, .op (.un .not (.t 16)), none⟩] [6, 17])
 (.cond (.t 17)
 (.seq (.region [⟨some 4, .op (.mov (.c (.int .u64 0))), none⟩,
 ⟨some 5, .op (.mov (.c (.bool false))), none⟩] [4, 5])
 (.ret))
 (.skip)))
 (.seq (.region [⟨some 18, .op (.mov (.t 6)), none⟩,
 ⟨some 19, .call (.c (.func (.func 142) #[] #[])) [.t 18], none⟩,
 ⟨some 20, .op (.extract 0 (.t 19)), none⟩,
 ⟨some 21, .op (.extract 1 (.t 19)), none⟩,
 ⟨some 4, .op (.mov (.t 20)), none⟩,
 ⟨some 5, .op (.mov (.t 21)), none⟩] [4, 5])
 (.ret)))))⟩

theorem lf99_ok : cFunc Tryz.prog Tryz.f99 [[0, 1], [0, 1, 9], [4, 5], [6, 7], [6, 17], [4, 5], [4, 5]] = some lf99 := by kernel_rfl

/-- (*squint/octet.In).Left -/
def lf106 : LFunc := ⟨8, [.tmp 2],
 .seq (.region [⟨some 2, .op (.mov (.c (.int .i64 0))), none⟩] [0])
 (.seq (.region [⟨some 3, .op (.mov (.t 0)), none⟩,
 ⟨some 4, .op (.nilCheck (.t 3)), none⟩,
 ⟨some 5, .op (.fieldAddr 0 (.t 4)), none⟩,
 ⟨some 6, .op (.load1 (.t 5)), none⟩,
 ⟨some 7, .op (.lenS (.t 6)), none⟩,
 ⟨some 2, .op (.mov (.t 7)), none⟩] [2])
 (.ret))⟩

theorem lf106_ok : cFunc Tryz.prog Tryz.f106 [[0], [2]] = some lf106 := by kernel_rfl

/-- (*squint/octet.In).Rest -/
def lf107 : LFunc := ⟨16, [.tmp 2],
 .seq (.region [⟨some 2, .op (.mov (.c (.slice none 0 0))), none⟩] [0])
 (.seq (.region [⟨some 6, .op (.mov (.t 0)), none⟩,
 ⟨some 7, .op (.mov (.t 0)), none⟩,
 ⟨some 8, .op (.nilCheck (.t 7)), none⟩,
 ⟨some 9, .op (.fieldAddr 0 (.t 8)), none⟩,
 ⟨some 10, .op (.load1 (.t 9)), none⟩,
 ⟨some 11, .op (.lenS (.t 10)), none⟩,
 ⟨some 12, .call (.c (.func (.func 141) #[] #[])) [.t 6, .t 11], none⟩,
 ⟨some 5, .op (.mov (.t 12)), none⟩,
 ⟨some 13, .op (.extract 0 (.t 5)), none⟩,
 ⟨some 14, .op (.extract 1 (.t 5)), none⟩,
 ⟨some 3, .op (.mov (.t 13)), none⟩,
 ⟨some 4, .op (.mov (.t 14)), none⟩] [3])
 (.seq (.region [⟨some 15, .op (.mov (.t 3)), none⟩,
 ⟨some 2, .op (.mov (.t 15)), none⟩] [2])
 (.ret)))⟩

theorem lf107_ok : cFunc Tryz.prog Tryz.f107 [[0], [3], [2]] = some lf107 := by kernel_rfl

/-- (squint/static.Field).Size -/
def lf109 : LFunc := ⟨11, [.tmp 2],
 .seq (.region [⟨some 1, .op (.box (.t 0)), none⟩,
 ⟨some 2, .op (.mov (.c (.int .i64 0))), none⟩] [1])
 (.seq (.region [⟨some 3, .op (.fieldAddr 0 (.t 1)), none⟩,
 ⟨some 4, .op (.load1 (.t 3)), none⟩,
 ⟨some 5, .op (.lenStr (.t 4)), none⟩,
 ⟨some 6, .op (.fieldAddr 1 (.t 1)), none⟩,
 ⟨some 7, .op (.load1 (.t 6)), none⟩,
 ⟨some 8, .op (.lenStr (.t 7)), none⟩,
 ⟨some 9, .op (.bin .add .basic (.t 5) (.t 8)), none⟩,
 ⟨some 10, .op (.bin .add .basic (.t 9) (.c (.int .i64 32))), none⟩,
 ⟨some 2, .op (.mov (.t 10)), none⟩] [2])
 (.ret))⟩

theorem lf109_ok : cFunc Tryz.prog Tryz.f109 [[1], [2]] = some lf109 := by kernel_rfl

/-- slices.Equal[[]squint/decode.Line,squint/decode.Line] -/
def lf113 : LFunc := ⟨26, [.tmp 4],
 .seq (.region [⟨some 4, .op (.mov (.c (.bool false))), none⟩] [0, 1])
 (.seq (.seq (.region [⟨some 6, .op (.mov (.t 0)), none⟩,
 ⟨some 7, .op (.lenS (.t 6)), none⟩,
 ⟨some 8, .op (.mov (.t 1)), none⟩,
 ⟨some 9, .op (.lenS (.t 8)), none⟩,
 ⟨some 10, .op (.bin .neq .basic (.t 7) (.t 9)), none⟩] [0, 1, 10])
 (.cond (.t 10)
 (.seq (.region [⟨some 4, .op (.mov (.c (.bool false))), none⟩] [4])
 (.ret))
 (.skip)))
 (.seq (.seq (.region [⟨some 11, .op (.mov (.t 0)), none⟩,
 ⟨some 12, .op (.lenS (.t 11)), none⟩,
 ⟨some 13, .op (.mov (.c (.int .i64 0))), none⟩] [0, 1, 12, 13])
 (.block 0 (.loop (.seq (.region [⟨some 14, .op (.bin .lss .basic (.t 13) (.t 12)), none⟩] [0, 1, 12, 13, 14])
 (.seq (.cond (.t 14)
 (.skip)
 (.exit 0))
 (.seq (.block 1 (.seq (.region [⟨some 15, .op (.mov (.t 13)), none⟩,
 ⟨some 5, .op (.mov (.t 15)), none⟩] [0, 1, 5, 12, 13])
 (.seq (.dregion [(⟨some 16, .op (.mov (.t 0)), none⟩, 0, 0),
 (⟨some 17, .op (.mov (.t 5)), none⟩, 0, 0),
 (⟨some 18, .op (.idxAddrS 3 (.t 16) (.t 17)), none⟩, 0, 0),
 (⟨some 19, .op (.loadN 3 (.t 18)), none⟩, 0, 0),
 (⟨some 20, .op (.mov (.t 1)), none⟩, 0, 0),
 (⟨some 21, .op (.mov (.t 5)), none⟩, 0, 0),
 (⟨some 22, .op (.idxAddrS 3 (.t 20) (.t 21)), none⟩, 0, 0),
 (⟨some 23, .op (.loadN 3 (.t 22)), none⟩, 0, 0),
 (⟨some 24, .op (.bin .neq (.typed 220) (.t 19) (.t 23)), none⟩, 0, 0)] [0, 1, 12, 13, 24])
 (.cond (.t 24)
 (.seq (.region [⟨some 4, .op (.mov (.c (.bool false))), none⟩] [4])
 (.ret))
 (.skip)))))
 (.region [⟨some 25, .op (.bin .add .basic (.t 13) (.c (.int .i64 1))), none⟩,
 ⟨some 13, .op (.mov (.t 25)), none⟩] [0, 1, 12, 13])))))))
 (.seq (.region [⟨some 4, .op (.mov (.c (.bool true))), none⟩] [4])
 (.ret))))⟩

theorem lf113_ok : cFunc Tryz.prog Tryz.f113 [[0, 1], [0, 1, 10], [4], [0, 1, 12, 13], [0, 1, 12, 13, 14], [0, 1, 5, 12, 13], [0, 1, 12, 13, 24], [4], [0, 1, 12, 13], [4]] = some lf113 := by kernel_rfl

/-- squint/static.Find -/
def lf122 : LFunc := ⟨13, [.tmp 2, .tmp 3],
 .seq (.region [⟨some 1, .op (.box (.t 0)), none⟩,
 ⟨some 2, .op (.mov (.c (.int .i64 0))), none⟩,
 ⟨some 3, .op (.mov (.c (.bool false))), none⟩] [1])
 (.seq (.seq (.region [⟨some 5, .op (.makeFunc (.func 157) [.t 1]), none⟩,
 ⟨some 6, .call (.c (.func (.func 156) #[] #[])) [.t 5], none⟩,
 ⟨some 4, .op (.mov (.t 6)), none⟩] [1, 4])
 (.seq (.region [⟨some 7, .op (.mov (.t 4)), none⟩,
 ⟨some 8, .op (.bin .gtr .basic (.t 7) (.c (.int .i64 0))), none⟩] [1, 4, 8])
 (.cond (.t 8)
 (.seq (.region [⟨some 9, .op (.mov (.t 4)), none⟩,
 ⟨some 2, .op (.mov (.t 9)), none⟩,
 ⟨some 3, .op (.mov (.c (.bool true))), none⟩] [2, 3])
 (.ret))
 (.skip))))
 (.seq (.region [⟨some 10, .op (.fieldAddr 0 (.t 1)), none⟩,
 ⟨some 11, .op (.load1 (.t 10)), none⟩,
 ⟨some 12, .call (.c (.func (.func 124) #[] #[])) [.t 11], none⟩,
 ⟨some 2, .op (.mov (.t 12)), none⟩,
 ⟨some 3, .op (.mov (.c (.bool false))), none⟩] [2, 3])
 (.ret)))⟩

theorem lf122_ok : cFunc Tryz.prog Tryz.f122 [[1], [1, 4], [1, 4, 8], [2, 3], [2, 3]] = some lf122 := by kernel_rfl

/-- squint/prefix.Encode -/
def lf123 : LFunc := ⟨71, [.tmp 6, .tmp 7],
 .seq (.region [⟨some 6, .op (.mov (.c (.slice none 0 0))), none⟩,
 ⟨some 7, .op (.mov (.c (.int .i64 0))), none⟩] [0, 1, 2])
 (.seq (.seq (.region [⟨some 11, .op (.mov (.t 1)), none⟩,
 ⟨some 12, .call (.c (.func (.func 158) #[] #[])) [.t 11], none⟩,
 ⟨some 13, .op (.un .not (.t 12)), none⟩,
 ⟨some 14, .op (.mov (.t 13)), none⟩,
 ⟨some 15, .op (.mov (.t 0)), some (14, false)⟩,
 ⟨some 16, .op (.bin .lss .basic (.t 15) (.c (.int .i64 0))), some (14, false)⟩,
 ⟨some 17, .pick (.t 14) (.c (.bool true)) (.t 16), none⟩,
 ⟨some 18, .op (.mov (.t 17)), none⟩,
 ⟨some 19, .op (.mov (.t 0)), some (18, false)⟩,
 ⟨some 20, .op (.bin .gtr .basic (.t 19) (.c (.int .i64 2147483647))), some (18, false)⟩,
 ⟨some 21, .pick (.t 18) (.c (.bool true)) (.t 20), none⟩,
 ⟨some 22, .op (.mov (.t 21)), none⟩,
 ⟨some 23, .op (.mov (.t 2)), some (22, false)⟩,
 ⟨some 24, .op (.bin .lss .basic (.t 23) (.c (.int .i64 0))), some (22, false)⟩,
 ⟨some 25, .pick (.t 22) (.c (.bool true)) (.t 24), none⟩,
 ⟨some 26, .op (.mov (.t 25)), none⟩,
 ⟨some 27, .op (.mov (.t 2)), some (26, false)⟩,
 ⟨some 28, .op (.mov (.t 1)), some (26, false)⟩,
 ⟨some 29, .op (.bin .sub .basic (.c (.int .i64 8)) (.t 28)), some (26, false)⟩,
 ⟨some 30, .call (.c (.func (.func 159) #[] #[])) [.t 29], some (26, false)⟩,
 ⟨some 31, .op (.bin .gtr .basic (.t 27) (.t 30)), some (26, false)⟩,
 ⟨some 32, .pick (.t 26) (.c (.bool true)) (.t 31), none⟩] [0, 1, 2, 32])
 (.cond (.t 32)
 (.seq (.region [⟨some 6, .op (.mov (.c (.slice none 0 0))), none⟩,
 ⟨some 7, .op (.mov (.c (.int .i64 11))), none⟩] [6, 7])
 (.ret))
 (.skip)))
 (.seq (.region [⟨some 33, .op (.mov (.t 2)), none⟩,
 ⟨some 34, .op (.mov (.t 1)), none⟩,
 ⟨some 35, .op (.bin .shl .basic (.t 33) (.t 34)), none⟩,
 ⟨some 8, .op (.mov (.t 35)), none⟩] [0, 1, 8])
 (.seq (.seq (.region [⟨some 36, .op (.mov (.t 0)), none⟩,
 ⟨some 37, .op (.mov (.t 1)), none⟩,
 ⟨some 38, .call (.c (.func (.func 159) #[] #[])) [.t 37], none⟩,
 ⟨some 39, .op (.bin .lss .basic (.t 36) (.t 38)), none⟩] [0, 1, 8, 39])
 (.cond (.t 39)
 (.seq (.region [⟨some 40, .op (.mov (.t 8)), none⟩,
 ⟨some 41, .op (.mov (.t 0)), none⟩,
 ⟨some 42, .op (.bin .or .basic (.t 40) (.t 41)), none⟩,
 ⟨some 43, .op (.convInt .u8 (.t 42)), none⟩,
 ⟨some 44, .op (.buildSlice 1 1 [.int .u8 0] [(0, 1, .t 43)]), none⟩,
 ⟨some 6, .op (.mov (.t 44)), none⟩,
 ⟨some 7, .op (.mov (.c (.int .i64 0))), none⟩] [6, 7])
 (.ret))
 (.skip)))
 (.seq (.region [⟨some 45, .op (.mov (.t 8)), none⟩,
 ⟨some 46, .op (.mov (.t 1)), none⟩,
 ⟨some 47, .call (.c (.func (.func 159) #[] #[])) [.t 46], none⟩,
 ⟨some 48, .op (.bin .or .basic (.t 45) (.t 47)), none⟩,
 ⟨some 49, .op (.convInt .u8 (.t 48)), none⟩,
 ⟨some 50, .op (.buildSlice 1 1 [.int .u8 0] [(0, 1, .t 49)]), none⟩,
 ⟨some 9, .op (.mov (.t 50)), none⟩] [0, 1, 9])
 (.seq (.region [⟨some 51, .op (.mov (.t 0)), none⟩,
 ⟨some 52, .op (.mov (.t 1)), none⟩,
 ⟨some 53, .call (.c (.func (.func 159) #[] #[])) [.t 52], none⟩,
 ⟨some 54, .op (.bin .sub .basic (.t 51) (.t 53)), none⟩,
 ⟨some 10, .op (.mov (.t 54)), none⟩] [9, 10])
 (.seq (.block 0 (.loop (.seq (.seq (.region [⟨some 55, .op (.mov (.t 10)), none⟩,
 ⟨some 56, .op (.bin .geq .basic (.t 55) (.c (.int .i64 128))), none⟩] [9, 10, 56])
 (.cond (.t 56)
 (.skip)
 (.exit 0)))
 (.seq (.block 1 (.region [⟨some 59, .op (.mov (.t 9)), none⟩,
 ⟨some 60, .op (.mov (.t 10)), none⟩,
 ⟨some 61, .op (.bin .rem .basic (.t 60) (.c (.int .i64 128))), none⟩,
 ⟨some 62, .op (.bin .or .basic (.t 61) (.c (.int .i64 128))), none⟩,
 ⟨some 63, .op (.convInt .u8 (.t 62)), none⟩,
 ⟨some 64, .op (.buildSlice 1 1 [.int .u8 0] [(0, 1, .t 63)]), none⟩,
 ⟨some 65, .op (.append 1 1 (.t 59) (.t 64)), none⟩,
 ⟨some 9, .op (.mov (.t 65)), none⟩] [9, 10]))
 (.region [⟨some 57, .op (.mov (.t 10)), none⟩,
 ⟨some 58, .op (.bin .shr .basic (.t 57) (.c (.int .u64 7))), none⟩,
 ⟨some 10, .op (.mov (.t 58)), none⟩] [9, 10])))))
 (.seq (.region [⟨some 66, .op (.mov (.t 9)), none⟩,
 ⟨some 67, .op (.mov (.t 10)), none⟩,
 ⟨some 68, .op (.convInt .u8 (.t 67)), none⟩,
 ⟨some 69, .op (.buildSlice 1 1 [.int .u8 0] [(0, 1, .t 68)]), none⟩,
 ⟨some 70, .op (.append 1 1 (.t 66) (.t 69)), none⟩,
 ⟨some 6, .op (.mov (.t 70)), none⟩,
 ⟨some 7, .op (.mov (.c (.int .i64 0))), none⟩] [6, 7])
 (.ret))))))))⟩

theorem lf123_ok : cFunc Tryz.prog Tryz.f123 [[0, 1, 2], [0, 1, 2, 32], [6, 7], [0, 1, 8], [0, 1, 8, 39], [6, 7], [0, 1, 9], [9, 10], [9, 10, 56], [9, 10], [9, 10], [6, 7]] = some lf123 := by kernel_rfl

/-- squint/static.Name -/
def lf124 : LFunc := ⟨5, [.tmp 2],
 .seq (.region [⟨some 1, .op (.box (.t 0)), none⟩,
 ⟨some 2, .op (.mov (.c (.int .i64 0))), none⟩] [1])
 (.seq (.region [⟨some 3, .op (.makeFunc (.func 160) [.t 1]), none⟩,
 ⟨some 4, .call (.c (.func (.func 156) #[] #[])) [.t 3], none⟩,
 ⟨some 2, .op (.mov (.t 4)), none⟩] [2])
 (.ret))⟩

theorem lf124_ok : cFunc Tryz.prog Tryz.f124 [[1], [2]] = some lf124 := by kernel_rfl

/-- squint/lit.Short -/
def lf126 : LFunc := ⟨26, [.tmp 2],
 .seq (.region [⟨some 2, .op (.mov (.c (.slice none 0 0))), none⟩] [0])
 (.seq (.region [⟨some 8, .op (.mov (.t 0)), none⟩,
 ⟨some 9, .call (.c (.func (.func 161) #[] #[])) [.t 8, .c (.bool false)], none⟩,
 ⟨some 7, .op (.mov (.t 9)), none⟩,
 ⟨some 10, .op (.extract 0 (.t 7)), none⟩,
 ⟨some 11, .op (.extract 1 (.t 7)), none⟩,
 ⟨some 3, .op (.mov (.t 10)), none⟩,
 ⟨some 4, .op (.mov (.t 11)), none⟩] [0, 3, 4])
 (.seq (.seq (.region [⟨some 12, .op (.mov (.t 4)), none⟩,
 ⟨some 13, .op (.bin .neq .basic (.t 12) (.c (.int .i64 0))), none⟩] [0, 3, 13])
 (.cond (.t 13)
 (.seq (.region [⟨some 2, .op (.mov (.c (.slice none 0 0))), none⟩] [2])
 (.ret))
 (.skip)))
 (.seq (.seq (.region [⟨some 15, .op (.mov (.t 0)), none⟩,
 ⟨some 16, .call (.c (.func (.func 161) #[] #[])) [.t 15, .c (.bool true)], none⟩,
 ⟨some 14, .op (.mov (.t 16)), none⟩,
 ⟨some 17, .op (.extract 0 (.t 14)), none⟩,
 ⟨some 18, .op (.extract 1 (.t 14)), none⟩,
 ⟨some 5, .op (.mov (.t 17)), none⟩,
 ⟨some 6, .op (.mov (.t 18)), none⟩] [3, 5])
 (.seq (.region [⟨some 19, .op (.mov (.t 5)), none⟩,
 ⟨some 20, .op (.lenS (.t 19)), none⟩,
 ⟨some 21, .op (.mov (.t 3)), none⟩,
 ⟨some 22, .op (.lenS (.t 21)), none⟩,
 ⟨some 23, .op (.bin .lss .basic (.t 20) (.t 22)), none⟩] [3, 5, 23])
 (.cond (.t 23)
 (.seq (.region [⟨some 24, .op (.mov (.t 5)), none⟩,
 ⟨some 2, .op (.mov (.t 24)), none⟩] [2])
 (.ret))
 (.skip))))
 (.seq (.region [⟨some 25, .op (.mov (.t 3)), none⟩,
 ⟨some 2, .op (.mov (.t 25)), none⟩] [2])
 (.ret)))))⟩

theorem lf126_ok : cFunc Tryz.prog Tryz.f126 [[0], [0, 3, 4], [0, 3, 13], [2], [3, 5], [3, 5, 23], [2], [2]] = some lf126 := by kernel_rfl

/-- (*squint/octet.In).Take -/
def lf141 : LFunc := ⟨35, [.tmp 4, .tmp 5],
 .seq (.region [⟨some 4, .op (.mov (.c (.slice none 0 0))), none⟩,
 ⟨some 5, .op (.mov (.c (.bool false))), none⟩] [0, 1])
 (.seq (.seq (.region [⟨some 7, .op (.mov (.t 1)), none⟩,
 ⟨some 8, .op (.bin .lss .basic (.t 7) (.c (.int .i64 0))), none⟩,
 ⟨some 9, .op (.mov (.t 8)), none⟩,
 ⟨some 10, .op (.mov (.t 1)), some (9, false)⟩,
 ⟨some 11, .op (.mov (.t 0)), some (9, false)⟩,
 ⟨some 12, .op (.nilCheck (.t 11)), some (9, false)⟩,
 ⟨some 13, .op (.fieldAddr 0 (.t 12)), some (9, false)⟩,
 ⟨some 14, .op (.load1 (.t 13)), some (9, false)⟩,
 ⟨some 15, .op (.lenS (.t 14)), some (9, false)⟩,
 ⟨some 16, .op (.bin .gtr .basic (.t 10) (.t 15)), some (9, false)⟩,
 ⟨some 17, .pick (.t 9) (.c (.bool true)) (.t 16), none⟩] [0, 1, 17])
 (.cond (.t 17)
 (.seq (.region [⟨some 4, .op (.mov (.c (.slice none 0 0))), none⟩,
 ⟨some 5, .op (.mov (.c (.bool false))), none⟩] [4, 5])
 (.ret))
 (.skip)))
 (.seq (.region [⟨some 18, .op (.mov (.t 0)), none⟩,
 ⟨some 19, .op (.nilCheck (.t 18)), none⟩,
 ⟨some 20, .op (.fieldAddr 0 (.t 19)), none⟩,
 ⟨some 21, .op (.load1 (.t 20)), none⟩,
 ⟨some 22, .op (.mov (.t 1)), none⟩,
 ⟨some 23, .op (.mov (.t 1)), none⟩,
 ⟨some 24, .op (.slice 1 (.t 21) none (some (.t 22)) (some (.t 23))), none⟩,
 ⟨some 6, .op (.mov (.t 24)), none⟩] [0, 1, 6])
 (.seq (.region [⟨some 25, .op (.mov (.t 0)), none⟩,
 ⟨some 26, .op (.mov (.t 0)), none⟩,
 ⟨some 27, .op (.nilCheck (.t 26)), none⟩,
 ⟨some 28, .op (.fieldAddr 0 (.t 27)), none⟩,
 ⟨some 29, .op (.load1 (.t 28)), none⟩,
 ⟨some 30, .op (.mov (.t 1)), none⟩,
 ⟨some 31, .op (.slice 1 (.t 29) (some (.t 30)) none none), none⟩,
 ⟨some 32, .op (.nilCheck (.t 25)), none⟩,
 ⟨some 33, .op (.fieldAddr 0 (.t 32)), none⟩,
 ⟨none, .op (.store 1 (.t 33) (.t 31)), none⟩] [6])
 (.seq (.region [⟨some 34, .op (.mov (.t 6)), none⟩,
 ⟨some 4, .op (.mov (.t 34)), none⟩,
 ⟨some 5, .op (.mov (.c (.bool true))), none⟩] [4, 5])
 (.ret)))))⟩

theorem lf141_ok : cFunc Tryz.prog Tryz.f141 [[0, 1], [0, 1, 17], [4, 5], [0, 1, 6], [6], [4, 5]] = some lf141 := by kernel_rfl

/-- squint/octet.Num -/
def lf142 : LFunc := ⟨23, [.tmp 2, .tmp 3],
 .seq (.region [⟨some 2, .op (.mov (.c (.int .u64 0))), none⟩,
 ⟨some 3, .op (.mov (.c (.bool false))), none⟩] [0])
 (.seq (.seq (.region [⟨some 7, .op (.mov (.t 0)), none⟩,
 ⟨some 8, .op (.lenS (.t 7)), none⟩,
 ⟨some 9, .op (.bin .gtr .basic (.t 8) (.c (.int .i64 8))), none⟩] [0, 9])
 (.cond (.t 9)
 (.seq (.region [⟨some 2, .op (.mov (.c (.int .u64 0))), none⟩,
 ⟨some 3, .op (.mov (.c (.bool false))), none⟩] [2, 3])
 (.ret))
 (.skip)))
 (.seq (.region [⟨some 4, .op (.mov (.c (.int .u64 0))), none⟩] [0, 4])
 (.seq (.seq (.region [⟨some 10, .op (.mov (.t 0)), none⟩,
 ⟨some 11, .op (.lenS (.t 10)), none⟩,
 ⟨some 12, .op (.mov (.c (.int .i64 0))), none⟩] [4, 10, 11, 12])
 (.block 0 (.loop (.seq (.region [⟨some 13, .op (.bin .lss .basic (.t 12) (.t 11)), none⟩] [4, 10, 11, 12, 13])
 (.seq (.cond (.t 13)
 (.skip)
 (.exit 0))
 (.seq (.block 1 (.seq (.region [⟨some 14, .op (.idxAddrS 1 (.t 10) (.t 12)), none⟩,
 ⟨some 15, .op (.load1 (.t 14)), none⟩,
 ⟨some 6, .op (.mov (.t 15)), none⟩] [4, 6, 10, 11, 12])
 (.region [⟨some 16, .op (.mov (.t 4)), none⟩,
 ⟨some 17, .op (.bin .shl .basic (.t 16) (.c (.int .u64 8))), none⟩,
 ⟨some 18, .op (.mov (.t 6)), none⟩,
 ⟨some 19, .op (.convInt .u64 (.t 18)), none⟩,
 ⟨some 20, .op (.bin .or .basic (.t 17) (.t 19)), none⟩,
 ⟨some 4, .op (.mov (.t 20)), none⟩] [4, 10, 11, 12])))
 (.region [⟨some 21, .op (.bin .add .basic (.t 12) (.c (.int .i64 1))), none⟩,
 ⟨some 12, .op (.mov (.t 21)), none⟩] [4, 10, 11, 12])))))))
 (.seq (.region [⟨some 22, .op (.mov (.t 4)), none⟩,
 ⟨some 2, .op (.mov (.t 22)), none⟩,
 ⟨some 3, .op (.mov (.c (.bool true))), none⟩] [2, 3])
 (.ret)))))⟩

theorem lf142_ok : cFunc Tryz.prog Tryz.f142 [[0], [0, 9], [2, 3], [0, 4], [4, 10, 11, 12], [4, 10, 11, 12, 13], [4, 6, 10, 11, 12], [4, 10, 11, 12], [4, 10, 11, 12], [2, 3]] = some lf142 := by kernel_rfl

/-- (*squint/octet.In).Byte -/
def lf143 : LFunc := ⟨14, [.tmp 2, .tmp 3],
 .seq (.region [⟨some 2, .op (.mov (.c (.int .i64 0))), none⟩,
 ⟨some 3, .op (.mov (.c (.bool false))), none⟩] [0])
 (.seq (.region [⟨some 7, .op (.mov (.t 0)), none⟩,
 ⟨some 8, .call (.c (.func (.func 99) #[] #[])) [.t 7, .c (.int .i64 1)], none⟩,
 ⟨some 6, .op (.mov (.t 8)), none⟩,
 ⟨some 9, .op (.extract 0 (.t 6)), none⟩,
 ⟨some 10, .op (.extract 1 (.t 6)), none⟩,
 ⟨some 4, .op (.mov (.t 9)), none⟩,
 ⟨some 5, .op (.mov (.t 10)), none⟩] [4, 5])
 (.seq (.region [⟨some 11, .op (.mov (.t 4)), none⟩,
 ⟨some 12, .op (.convInt .i64 (.t 11)), none⟩,
 ⟨some 13, .op (.mov (.t 5)), none⟩,
 ⟨some 2, .op (.mov (.t 12)), none⟩,
 ⟨some 3, .op (.mov (.t 13)), none⟩] [2, 3])
 (.ret)))⟩

theorem lf143_ok : cFunc Tryz.prog Tryz.f143 [[0], [4, 5], [2, 3]] = some lf143 := by kernel_rfl

/-- slices.ContainsFunc[[]squint/decode.Line,squint/decode.Line] -/
def lf149 : LFunc := ⟨9, [.tmp 4],
 .seq (.region [⟨some 4, .op (.mov (.c (.bool false))), none⟩] [0, 1])
 (.seq (.region [⟨some 5, .op (.mov (.t 0)), none⟩,
 ⟨some 6, .op (.mov (.t 1)), none⟩,
 ⟨some 7, .call (.c (.func (.func 178) #[] #[])) [.t 5, .t 6], none⟩,
 ⟨some 8, .op (.bin .geq .basic (.t 7) (.c (.int .i64 0))), none⟩,
 ⟨some 4, .op (.mov (.t 8)), none⟩] [4])
 (.ret))⟩

theorem lf149_ok : cFunc Tryz.prog Tryz.f149 [[0, 1], [4]] = some lf149 := by kernel_rfl

/-- slices.ContainsFunc[[]byte,byte] -/
def lf152 : LFunc := ⟨9, [.tmp 4],
 .seq (.region [⟨some 4, .op (.mov (.c (.bool false))), none⟩] [0, 1])
 (.seq (.region [⟨some 5, .op (.mov (.t 0)), none⟩,
 ⟨some 6, .op (.mov (.t 1)), none⟩,
 ⟨some 7, .call (.c (.func (.func 180) #[] #[])) [.t 5, .t 6], none⟩,
 ⟨some 8, .op (.bin .geq .basic (.t 7) (.c (.int .i64 0))), none⟩,
 ⟨some 4, .op (.mov (.t 8)), none⟩] [4])
 (.ret))⟩

theorem lf152_ok : cFunc Tryz.prog Tryz.f152 [[0, 1], [4]] = some lf152 := by kernel_rfl

/-- squint/static.first -/
def lf156 : LFunc := ⟨8, [.tmp 2],
 .seq (.region [⟨some 2, .op (.mov (.c (.int .i64 0))), none⟩] [0])
 (.seq (.region [⟨some 3, .call (.c (.func (.func 184) #[] #[])) [], none⟩,
 ⟨some 4, .op (.slice 2 (.t 3) none none none), none⟩,
 ⟨some 5, .op (.mov (.t 0)), none⟩,
 ⟨some 6, .call (.c (.func (.func 183) #[] #[])) [.t 4, .t 5], none⟩,
 ⟨some 7, .op (.bin .add .basic (.t 6) (.c (.int .i64 1))), none⟩,
 ⟨some 2, .op (.mov (.t 7)), none⟩] [2])
 (.ret))⟩

theorem lf156_ok : cFunc Tryz.prog Tryz.f156 [[0], [2]] = some lf156 := by kernel_rfl

/-- squint/static.Find$1 -/
def lf157 : LFunc := ⟨7, [.tmp 3],
 .seq (.region [⟨some 2, .op (.box (.t 0)), none⟩,
 ⟨some 3, .op (.mov (.c (.bool false))), none⟩] [1, 2])
 (.seq (.region [⟨some 4, .op (.loadN 2 (.t 2)), none⟩,
 ⟨some 5, .op (.loadN 2 (.t 1)), none⟩,
 ⟨some 6, .op (.bin .eql (.typed 95) (.t 4) (.t 5)), none⟩,
 ⟨some 3, .op (.mov (.t 6)), none⟩] [3])
 (.ret))⟩

theorem lf157_ok : cFunc Tryz.prog Tryz.f157 [[1, 2], [3]] = some lf157 := by kernel_rfl

/-- squint/prefix.right -/
def lf158 : LFunc := ⟨9, [.tmp 2],
 .seq (.region [⟨some 2, .op (.mov (.c (.bool false))), none⟩] [0])
 (.seq (.region [⟨some 3, .op (.mov (.t 0)), none⟩,
 ⟨some 4, .op (.bin .geq .basic (.t 3) (.c (.int .i64 1))), none⟩,
 ⟨some 5, .op (.mov (.t 4)), none⟩,
 ⟨some 6, .op (.mov (.t 0)), some (5, true)⟩,
 ⟨some 7, .op (.bin .leq .basic (.t 6) (.c (.int .i64 8))), some (5, true)⟩,
 ⟨some 8, .pick (.t 5) (.t 7) (.c (.bool false)), none⟩,
 ⟨some 2, .op (.mov (.t 8)), none⟩] [2])
 (.ret))⟩

theorem lf158_ok : cFunc Tryz.prog Tryz.f158 [[0], [2]] = some lf158 := by kernel_rfl

/-- squint/prefix.full -/
def lf159 : LFunc := ⟨6, [.tmp 2],
 .seq (.region [⟨some 2, .op (.mov (.c (.int .i64 0))), none⟩] [0])
 (.seq (.region [⟨some 3, .op (.mov (.t 0)), none⟩,
 ⟨some 4, .op (.bin .shl .basic (.c (.int .i64 1)) (.t 3)), none⟩,
 ⟨some 5, .op (.bin .sub .basic (.t 4) (.c (.int .i64 1))), none⟩,
 ⟨some 2, .op (.mov (.t 5)), none⟩] [2])
 (.ret))⟩

theorem lf159_ok : cFunc Tryz.prog Tryz.f159 [[0], [2]] = some lf159 := by kernel_rfl

/-- squint/static.Name$1 -/
def lf160 : LFunc := ⟨8, [.tmp 3],
 .seq (.region [⟨some 2, .op (.box (.t 0)), none⟩,
 ⟨some 3, .op (.mov (.c (.bool false))), none⟩] [1, 2])
 (.seq (.region [⟨some 4, .op (.fieldAddr 0 (.t 2)), none⟩,
 ⟨some 5, .op (.load1 (.t 4)), none⟩,
 ⟨some 6, .op (.load1 (.t 1)), none⟩,
 ⟨some 7, .op (.bin .eql .basic (.t 5) (.t 6)), none⟩,
 ⟨some 3, .op (.mov (.t 7)), none⟩] [3])
 (.ret))⟩

theorem lf160_ok : cFunc Tryz.prog Tryz.f160 [[1, 2], [3]] = some lf160 := by kernel_rfl

/-- squint/lit.Encode -/
def lf161 : LFunc := ⟨28, [.tmp 4, .tmp 5],
 .seq (.region [⟨some 4, .op (.mov (.c (.slice none 0 0))), none⟩,
 ⟨some 5, .op (.mov (.c (.int .i64 0))), none⟩] [0, 1])
 (.seq (.seq (.region [⟨some 10, .op (.mov (.t 0)), none⟩,
 ⟨some 11, .op (.lenS (.t 10)), none⟩,
 ⟨some 12, .op (.bin .gtr .basic (.t 11) (.c (.int .i64 4096))), none⟩] [0, 1, 12])
 (.cond (.t 12)
 (.seq (.region [⟨some 4, .op (.mov (.c (.slice none 0 0))), none⟩,
 ⟨some 5, .op (.mov (.c (.int .i64 11))), none⟩] [4, 5])
 (.ret))
 (.skip)))
 (.seq (.region [⟨some 13, .op (.mov (.t 0)), none⟩,
 ⟨some 6, .op (.mov (.c (.int .i64 0))), none⟩,
 ⟨some 7, .op (.mov (.t 13)), none⟩] [0, 1, 6, 7])
 (.seq (.seq (.region [⟨some 14, .op (.mov (.t 1)), none⟩] [0, 6, 7, 14])
 (.cond (.t 14)
 (.region [⟨some 15, .op (.mov (.t 0)), none⟩,
 ⟨some 16, .call (.c (.func (.func 185) #[] #[])) [.t 15], none⟩,
 ⟨some 6, .op (.mov (.c (.int .i64 1))), none⟩,
 ⟨some 7, .op (.mov (.t 16)), none⟩] [6, 7])
 (.skip)))
 (.seq (.region [⟨some 18, .op (.mov (.t 7)), none⟩,
 ⟨some 19, .op (.lenS (.t 18)), none⟩,
 ⟨some 20, .op (.mov (.t 6)), none⟩,
 ⟨some 21, .call (.c (.func (.func 123) #[] #[])) [.t 19, .c (.int .i64 7), .t 20], none⟩,
 ⟨some 17, .op (.mov (.t 21)), none⟩,
 ⟨some 22, .op (.extract 0 (.t 17)), none⟩,
 ⟨some 23, .op (.extract 1 (.t 17)), none⟩,
 ⟨some 8, .op (.mov (.t 22)), none⟩,
 ⟨some 9, .op (.mov (.t 23)), none⟩] [7, 8, 9])
 (.seq (.region [⟨some 24, .op (.mov (.t 8)), none⟩,
 ⟨some 25, .op (.mov (.t 7)), none⟩,
 ⟨some 26, .op (.append 1 1 (.t 24) (.t 25)), none⟩,
 ⟨some 27, .op (.mov (.t 9)), none⟩,
 ⟨some 4, .op (.mov (.t 26)), none⟩,
 ⟨some 5, .op (.mov (.t 27)), none⟩] [4, 5])
 (.ret))))))⟩

theorem lf161_ok : cFunc Tryz.prog Tryz.f161 [[0, 1], [0, 1, 12], [4, 5], [0, 1, 6, 7], [0, 6, 7, 14], [6, 7], [7, 8, 9], [4, 5]] = some lf161 := by kernel_rfl

/-- slices.Clone[[]squint/outbound.note,squint/outbound.note] -/
def lf162 : LFunc := ⟨8, [.tmp 2],
 .seq (.region [⟨some 2, .op (.mov (.c (.slice none 0 0))), none⟩] [0])
 (.seq (.seq (.region [⟨some 3, .op (.mov (.t 0)), none⟩,
 ⟨some 4, .op (.bin .eql .slice (.t 3) (.c (.slice none 0 0))), none⟩] [0, 4])
 (.cond (.t 4)
 (.seq (.region [⟨some 2, .op (.mov (.c (.slice none 0 0))), none⟩] [2])
 (.ret))
 (.skip)))
 (.seq (.region [⟨some 5, .op (.buildSlice 0 2 [] []), none⟩,
 ⟨some 6, .op (.mov (.t 0)), none⟩,
 ⟨some 7, .op (.append 2 16 (.t 5) (.t 6)), none⟩,
 ⟨some 2, .op (.mov (.t 7)), none⟩] [2])
 (.ret)))⟩

theorem lf162_ok : cFunc Tryz.prog Tryz.f162 [[0], [0, 4], [2], [2]] = some lf162 := by kernel_rfl

/-- squint/prefix.Decode -/
def lf173 : LFunc := ⟨60, [.tmp 4, .tmp 5, .tmp 6],
 .seq (.region [⟨some 4, .op (.mov (.c (.int .i64 0))), none⟩,
 ⟨some 5, .op (.mov (.c (.int .i64 0))), none⟩,
 ⟨some 6, .op (.mov (.c (.int .i64 0))), none⟩] [0, 1])
 (.seq (.block 0 (.seq (.region [⟨some 10, .op (.mov (.t 1)), none⟩,
 ⟨some 11, .call (.c (.func (.func 158) #[] #[])) [.t 10], none⟩,
 ⟨some 12, .op (.un .not (.t 11)), none⟩,
 ⟨some 9, .op (.mov (.t 12)), none⟩] [0, 1, 9])
 (.cond (.t 9)
 (.seq (.region [⟨some 4, .op (.mov (.c (.int .i64 0))), none⟩,
 ⟨some 5, .op (.mov (.c (.int .i64 0))), none⟩,
 ⟨some 6, .op (.mov (.c (.int .i64 11))), none⟩] [4, 5, 6])
 (.ret))
 (.seq (.region [⟨some 14, .op (.mov (.t 0)), none⟩,
 ⟨some 15, .op (.lenS (.t 14)), none⟩,
 ⟨some 16, .op (.bin .eql .basic (.t 15) (.c (.int .i64 0))), none⟩,
 ⟨some 13, .op (.mov (.t 16)), none⟩] [0, 1, 13])
 (.cond (.t 13)
 (.seq (.region [⟨some 4, .op (.mov (.c (.int .i64 0))), none⟩,
 ⟨some 5, .op (.mov (.c (.int .i64 0))), none⟩,
 ⟨some 6, .op (.mov (.c (.int .i64 16))), none⟩] [4, 5, 6])
 (.ret))
 (.skip))))))
 (.seq (.seq (.dregion [(⟨some 17, .op (.mov (.t 0)), none⟩, 0, 1),
 (⟨some 18, .op (.idxAddrS 1 (.t 17) (.c (.int .i64 0))), none⟩, 0, 1),
 (⟨some 19, .op (.load1 (.t 18)), none⟩, 0, 1),
 (⟨some 20, .op (.convInt .i64 (.t 19)), none⟩, 0, 1),
 (⟨some 21, .op (.mov (.t 1)), none⟩, 0, 0),
 (⟨some 22, .call (.c (.func (.func 159) #[] #[])) [.t 21], none⟩, 0, 1),
 (⟨some 23, .op (.bin .and .basic (.t 20) (.t 22)), none⟩, 1, 1),
 (⟨some 4, .op (.mov (.t 23)), none⟩, 1, 1)] [0, 1, 4])
 (.seq (.region [⟨some 24, .op (.mov (.t 4)), none⟩,
 ⟨some 25, .op (.mov (.t 1)), none⟩,
 ⟨some 26, .call (.c (.func (.func 159) #[] #[])) [.t 25], none⟩,
 ⟨some 27, .op (.bin .lss .basic (.t 24) (.t 26)), none⟩] [0, 4, 27])
 (.cond (.t 27)
 (.seq (.region [⟨some 28, .op (.mov (.t 4)), none⟩,
 ⟨some 4, .op (.mov (.t 28)), none⟩,
 ⟨some 5, .op (.mov (.c (.int .i64 1))), none⟩,
 ⟨some 6, .op (.mov (.c (.int .i64 0))), none⟩] [4, 5, 6])
 (.ret))
 (.skip))))
 (.seq (.region [⟨some 7, .op (.mov (.c (.int .i64 0))), none⟩] [0, 4, 7])
 (.block 1 (.loop (.seq (.block 2 (.seq (.block 3 (.seq (.region [⟨some 32, .op (.mov (.t 7)), none⟩,
 ⟨some 33, .op (.bin .add .basic (.t 32) (.c (.int .i64 1))), none⟩,
 ⟨some 34, .op (.mov (.t 0)), none⟩,
 ⟨some 35, .op (.lenS (.t 34)), none⟩,
 ⟨some 36, .op (.bin .geq .basic (.t 33) (.t 35)), none⟩,
 ⟨some 31, .op (.mov (.t 36)), none⟩] [0, 4, 7, 31])
 (.cond (.t 31)
 (.seq (.region [⟨some 4, .op (.mov (.c (.int .i64 0))), none⟩,
 ⟨some 5, .op (.mov (.c (.int .i64 0))), none⟩,
 ⟨some 6, .op (.mov (.c (.int .i64 16))), none⟩] [4, 5, 6])
 (.ret))
 (.seq (.region [⟨some 38, .op (.mov (.t 7)), none⟩,
 ⟨some 39, .op (.bin .geq .basic (.t 38) (.c (.int .i64 5))), none⟩,
 ⟨some 37, .op (.mov (.t 39)), none⟩] [0, 4, 7, 37])
 (.cond (.t 37)
 (.seq (.region [⟨some 4, .op (.mov (.c (.int .i64 0))), none⟩,
 ⟨some 5, .op (.mov (.c (.int .i64 0))), none⟩,
 ⟨some 6, .op (.mov (.c (.int .i64 22))), none⟩] [4, 5, 6])
 (.ret))
 (.skip))))))
 (.seq (.region [⟨some 40, .op (.mov (.t 0)), none⟩,
 ⟨some 41, .op (.mov (.t 7)), none⟩,
 ⟨some 42, .op (.bin .add .basic (.t 41) (.c (.int .i64 1))), none⟩,
 ⟨some 43, .op (.idxAddrS 1 (.t 40) (.t 42)), none⟩,
 ⟨some 44, .op (.load1 (.t 43)), none⟩,
 ⟨some 45, .op (.convInt .i64 (.t 44)), none⟩,
 ⟨some 8, .op (.mov (.t 45)), none⟩] [0, 4, 7, 8])
 (.seq (.seq (.region [⟨some 46, .op (.mov (.t 4)), none⟩,
 ⟨some 47, .op (.mov (.t 8)), none⟩,
 ⟨some 48, .op (.bin .rem .basic (.t 47) (.c (.int .i64 128))), none⟩,
 ⟨some 49, .op (.mov (.t 7)), none⟩,
 ⟨some 50, .op (.bin .mul .basic (.c (.int .i64 7)) (.t 49)), none⟩,
 ⟨some 51, .op (.bin .shl .basic (.t 48) (.t 50)), none⟩,
 ⟨some 52, .op (.bin .add .basic (.t 46) (.t 51)), none⟩,
 ⟨some 4, .op (.mov (.t 52)), none⟩] [0, 4, 7, 8])
 (.seq (.region [⟨some 53, .op (.mov (.t 4)), none⟩,
 ⟨some 54, .op (.bin .gtr .basic (.t 53) (.c (.int .i64 2147483647))), none⟩] [0, 4, 7, 8, 54])
 (.cond (.t 54)
 (.seq (.region [⟨some 4, .op (.mov (.c (.int .i64 0))), none⟩,
 ⟨some 5, .op (.mov (.c (.int .i64 0))), none⟩,
 ⟨some 6, .op (.mov (.c (.int .i64 22))), none⟩] [4, 5, 6])
 (.ret))
 (.skip))))
 (.seq (.region [⟨some 55, .op (.mov (.t 8)), none⟩,
 ⟨some 56, .op (.bin .lss .basic (.t 55) (.c (.int .i64 128))), none⟩] [0, 4, 7, 56])
 (.cond (.t 56)
 (.seq (.region [⟨some 57, .op (.mov (.t 4)), none⟩,
 ⟨some 58, .op (.mov (.t 7)), none⟩,
 ⟨some 59, .op (.bin .add .basic (.t 58) (.c (.int .i64 2))), none⟩,
 ⟨some 4, .op (.mov (.t 57)), none⟩,
 ⟨some 5, .op (.mov (.t 59)), none⟩,
 ⟨some 6, .op (.mov (.c (.int .i64 0))), none⟩] [4, 5, 6])
 (.ret))
 (.skip)))))))
 (.region [⟨some 29, .op (.mov (.t 7)), none⟩,
 ⟨some 30, .op (.bin .add .basic (.t 29) (.c (.int .i64 1))), none⟩,
 ⟨some 7, .op (.mov (.t 30)), none⟩] [0, 4, 7])))))))⟩

theorem lf173_ok : cFunc Tryz.prog Tryz.f173 [[0, 1], [0, 1, 9], [4, 5, 6], [0, 1, 13], [4, 5, 6], [0, 1, 4], [0, 4, 27], [4, 5, 6], [0, 4, 7], [0, 4, 7, 31], [4, 5, 6], [0, 4, 7, 37], [4, 5, 6], [0, 4, 7, 8], [0, 4, 7, 8], [0, 4, 7, 8, 54], [4, 5, 6], [0, 4, 7, 56], [4, 5, 6], [0, 4, 7]] = some lf173 := by kernel_rfl

/-- slices.IndexFunc[[]squint/decode.Line,squint/decode.Line] -/
def lf178 : LFunc := ⟨19, [.tmp 4],
 .seq (.region [⟨some 4, .op (.mov (.c (.int .i64 0))), none⟩] [0, 1])
 (.seq (.seq (.region [⟨some 6, .op (.mov (.t 0)), none⟩,
 ⟨some 7, .op (.lenS (.t 6)), none⟩,
 ⟨some 8, .op (.mov (.c (.int .i64 0))), none⟩] [0, 1, 7, 8])
 (.block 0 (.loop (.seq (.region [⟨some 9, .op (.bin .lss .basic (.t 8) (.t 7)), none⟩] [0, 1, 7, 8, 9])
 (.seq (.cond (.t 9)
 (.skip)
 (.exit 0))
 (.seq (.block 1 (.seq (.region [⟨some 10, .op (.mov (.t 8)), none⟩,
 ⟨some 5, .op (.mov (.t 10)), none⟩] [0, 1, 5, 7, 8])
 (.seq (.region [⟨some 11, .op (.mov (.t 1)), none⟩,
 ⟨some 12, .op (.mov (.t 0)), none⟩,
 ⟨some 13, .op (.mov (.t 5)), none⟩,
 ⟨some 14, .op (.idxAddrS 3 (.t 12) (.t 13)), none⟩,
 ⟨some 15, .op (.loadN 3 (.t 14)), none⟩,
 ⟨some 16, .call (.t 11) [.t 15], none⟩] [0, 1, 5, 7, 8, 16])
 (.cond (.t 16)
 (.seq (.region [⟨some 17, .op (.mov (.t 5)), none⟩,
 ⟨some 4, .op (.mov (.t 17)), none⟩] [4])
 (.ret))
 (.skip)))))
 (.region [⟨some 18, .op (.bin .add .basic (.t 8) (.c (.int .i64 1))), none⟩,
 ⟨some 8, .op (.mov (.t 18)), none⟩] [0, 1, 7, 8])))))))
 (.seq (.region [⟨some 4, .op (.mov (.c (.int .i64 (-1)))), none⟩] [4])
 (.ret)))⟩

theorem lf178_ok : cFunc Tryz.prog Tryz.f178 [[0, 1], [0, 1, 7, 8], [0, 1, 7, 8, 9], [0, 1, 5, 7, 8], [0, 1, 5, 7, 8, 16], [4], [0, 1, 7, 8], [4]] = some lf178 := by kernel_rfl

/-- slices.IndexFunc[[]byte,byte] -/
def lf180 : LFunc := ⟨19, [.tmp 4],
 .seq (.region [⟨some 4, .op (.mov (.c (.int .i64 0))), none⟩] [0, 1])
 (.seq (.seq (.region [⟨some 6, .op (.mov (.t 0)), none⟩,
 ⟨some 7, .op (.lenS (.t 6)), none⟩,
 ⟨some 8, .op (.mov (.c (.int .i64 0))), none⟩] [0, 1, 7, 8])
 (.block 0 (.loop (.seq (.region [⟨some 9, .op (.bin .lss .basic (.t 8) (.t 7)), none⟩] [0, 1, 7, 8, 9])
 (.seq (.cond (.t 9)
 (.skip)
 (.exit 0))
 (.seq (.block 1 (.seq (.region [⟨some 10, .op (.mov (.t 8)), none⟩,
 ⟨some 5, .op (.mov (.t 10)), none⟩] [0, 1, 5, 7, 8])
 (.seq (.region [⟨some 11, .op (.mov (.t 1)), none⟩,
 ⟨some 12, .op (.mov (.t 0)), none⟩,
 ⟨some 13, .op (.mov (.t 5)), none⟩,
 ⟨some 14, .op (.idxAddrS 1 (.t 12) (.t 13)), none⟩,
 ⟨some 15, .op (.load1 (.t 14)), none⟩,
 ⟨some 16, .call (.t 11) [.t 15], none⟩] [0, 1, 5, 7, 8, 16])
 (.cond (.t 16)
 (.seq (.region [⟨some 17, .op (.mov (.t 5)), none⟩,
 ⟨some 4, .op (.mov (.t 17)), none⟩] [4])
 (.ret))
 (.skip)))))
 (.region [⟨some 18, .op (.bin .add .basic (.t 8) (.c (.int .i64 1))), none⟩,
 ⟨some 8, .op (.mov (.t 18)), none⟩] [0, 1, 7, 8])))))))
 (.seq (.region [⟨some 4, .op (.mov (.c (.int .i64 (-1)))), none⟩] [4])
 (.ret)))⟩

theorem lf180_ok : cFunc Tryz.prog Tryz.f180 [[0, 1], [0, 1, 7, 8], [0, 1, 7, 8, 9], [0, 1, 5, 7, 8], [0, 1, 5, 7, 8, 16], [4], [0, 1, 7, 8], [4]] = some lf180 := by kernel_rfl

/-- slices.IndexFunc[[]squint/static.Field,squint/static.Field] -/
def lf183 : LFunc := ⟨19, [.tmp 4],
 .seq (.region [⟨some 4, .op (.mov (.c (.int .i64 0))), none⟩] [0, 1])
 (.seq (.seq (.region [⟨some 6, .op (.mov (.t 0)), none⟩,
 ⟨some 7, .op (.lenS (.t 6)), none⟩,
 ⟨some 8, .op (.mov (.c (.int .i64 0))), none⟩] [0, 1, 7, 8])
 (.block 0 (.loop (.seq (.region [⟨some 9, .op (.bin .lss .basic (.t 8) (.t 7)), none⟩] [0, 1, 7, 8, 9])
 (.seq (.cond (.t 9)
 (.skip)
 (.exit 0))
 (.seq (.block 1 (.seq (.region [⟨some 10, .op (.mov (.t 8)), none⟩,
 ⟨some 5, .op (.mov (.t 10)), none⟩] [0, 1, 5, 7, 8])
 (.seq (.region [⟨some 11, .op (.mov (.t 1)), none⟩,
 ⟨some 12, .op (.mov (.t 0)), none⟩,
 ⟨some 13, .op (.mov (.t 5)), none⟩,
 ⟨some 14, .op (.idxAddrS 2 (.t 12) (.t 13)), none⟩,
 ⟨some 15, .op (.loadN 2 (.t 14)), none⟩,
 ⟨some 16, .call (.t 11) [.t 15], none⟩] [0, 1, 5, 7, 8, 16])
 (.cond (.t 16)
 (.seq (.region [⟨some 17, .op (.mov (.t 5)), none⟩,
 ⟨some 4, .op (.mov (.t 17)), none⟩] [4])
 (.ret))
 (.skip)))))
 (.region [⟨some 18, .op (.bin .add .basic (.t 8) (.c (.int .i64 1))), none⟩,
 ⟨some 8, .op (.mov (.t 18)), none⟩] [0, 1, 7, 8])))))))
 (.seq (.region [⟨some 4, .op (.mov (.c (.int .i64 (-1)))), none⟩] [4])
 (.ret)))⟩

theorem lf183_ok : cFunc Tryz.prog Tryz.f183 [[0, 1], [0, 1, 7, 8], [0, 1, 7, 8, 9], [0, 1, 5, 7, 8], [0, 1, 5, 7, 8, 16], [4], [0, 1, 7, 8], [4]] = some lf183 := by kernel_rfl

/-- squint/static.entriesAll -/
def lf184 : LFunc := ⟨4, [.tmp 0],
 .seq (.region [⟨some 0, .op (.mov (.c (.slice none 0 0))), none⟩] [])
 (.seq (.region [⟨some 2, .call (.c (.func (.func 203) #[] #[])) [], none⟩,
 ⟨some 1, .op (.alloc [.string ⟨#[]⟩, .string ⟨#[]⟩, .string ⟨#[]⟩, .string ⟨#[]⟩, .string ⟨#[]⟩, .string ⟨#[]⟩, .string ⟨#[]⟩, .string ⟨#[]⟩, .string ⟨#[]⟩, .string ⟨#[]⟩, .string ⟨#[]⟩, .string ⟨#[]⟩, .string ⟨#[]⟩, .string ⟨#[]⟩, .string ⟨#[]⟩, .string ⟨#[]⟩, .string ⟨#[]⟩, .string ⟨#[]⟩, .string ⟨#[]⟩, .string ⟨#[]⟩, .string ⟨#[]⟩, .string ⟨#[]⟩, .string ⟨#[]⟩, .string ⟨#[]⟩, .string ⟨#[]⟩, .string ⟨#[]⟩, .string ⟨#[]⟩, .string ⟨#[]⟩, .string ⟨#[]⟩, .string ⟨#[]⟩, .string ⟨#[]⟩, .string ⟨#[]⟩, .string ⟨#[]⟩, .string ⟨#[]⟩, .string ⟨#[]⟩, .string ⟨#[]⟩, .string ⟨#[]⟩, .string ⟨#[]⟩, .string ⟨#[]⟩, .string ⟨#[]⟩, .string ⟨#[]⟩, .string ⟨#[]⟩, .string ⟨#[]⟩, .string ⟨#[]⟩, .string ⟨#[]⟩, .string ⟨#[]⟩, .string ⟨#[]⟩, .string ⟨#[]⟩, .string ⟨#[]⟩, .string ⟨#[]⟩, .string ⟨#[]⟩, .string ⟨#[]⟩, .string ⟨#[]⟩, .string ⟨#[]⟩, .string ⟨#[]⟩, .string ⟨#[]⟩, .string ⟨#[]⟩, .string ⟨#[]⟩, .string ⟨#[]⟩, .string ⟨#[]⟩, .string ⟨#[]⟩, .string ⟨#[]⟩, .string ⟨#[]⟩, .string ⟨#[]⟩, .string ⟨#[]⟩, .string ⟨#[]⟩, .string ⟨#[]⟩, .string ⟨#[]⟩, .string ⟨#[]⟩, .string ⟨#[]⟩, .string ⟨#[]⟩, .string ⟨#[]⟩, .string ⟨#[]⟩, .string ⟨#[]⟩, .string ⟨#[]⟩, .string ⟨#[]⟩, .string ⟨#[]⟩, .string ⟨#[]⟩, .string ⟨#[]⟩, .string ⟨#[]⟩, .string ⟨#[]⟩, .string ⟨#[]⟩, .string ⟨#[]⟩, .string ⟨#[]⟩, .string ⟨#[]⟩, .string ⟨#[]⟩, .string ⟨#[]⟩, .string ⟨#[]⟩, .string ⟨#[]⟩, .string ⟨#[]⟩, .string ⟨#[]⟩, .string ⟨#[]⟩, .string ⟨#[]⟩, .string ⟨#[]⟩, .string ⟨#[]⟩, .string ⟨#[]⟩, .string ⟨#[]⟩, .string ⟨#[]⟩, .string ⟨#[]⟩, .string ⟨#[]⟩, .string ⟨#[]⟩, .string ⟨#[]⟩, .string ⟨#[]⟩, .string ⟨#[]⟩, .string ⟨#[]⟩, .string ⟨#[]⟩, .string ⟨#[]⟩, .string ⟨#[]⟩, .string ⟨#[]⟩, .string ⟨#[]⟩, .string ⟨#[]⟩, .string ⟨#[]⟩, .string ⟨#[]⟩, .string ⟨#[]⟩, .string ⟨#[]⟩, .string ⟨#[]⟩, .string ⟨#[]⟩, .string ⟨#[]⟩, .string ⟨#[]⟩, .string ⟨#[]⟩, .string ⟨#[]⟩, .string ⟨#[]⟩]), none⟩,
 ⟨none, .op (.store 122 (.t 1) (.t 2)), none⟩] [1])
 (.seq (.region [⟨some 3, .op (.sliceArr 61 2 (.t 1) none none none), none⟩,
 ⟨some 0, .op (.mov (.t 3)), none⟩] [0])
 (.ret)))⟩

theorem lf184_ok : cFunc Tryz.prog Tryz.f184 [[], [1], [0]] = some lf184 := by kernel_rfl

/-- squint/huff.Encode -/
def lf185 : LFunc := ⟨6, [.tmp 2],
 .seq (.region [⟨some 2, .op (.mov (.c (.slice none 0 0))), none⟩] [0])
 (.seq (.region [⟨some 3, .call (.c (.func (.func 204) #[] #[])) [], none⟩,
 ⟨some 4, .op (.mov (.t 0)), none⟩,
 ⟨some 5, .call (.c (.func (.func 205) #[] #[])) [.t 3, .t 4], none⟩,
 ⟨some 2, .op (.mov (.t 5)), none⟩] [2])
 (.ret))⟩

theorem lf185_ok : cFunc Tryz.prog Tryz.f185 [[0], [2]] = some lf185 := by kernel_rfl

/-- squint/static.Get -/
def lf196 : LFunc := ⟨15, [.cellN 2 2, .tmp 3],
 .seq (.region [⟨some 2, .op (.alloc [.string ⟨#[]⟩, .string ⟨#[]⟩]), none⟩,
 ⟨some 3, .op (.mov (.c (.int .i64 0))), none⟩] [0, 2])
 (.seq (.seq (.region [⟨some 4, .op (.mov (.t 0)), none⟩,
 ⟨some 5, .op (.bin .lss .basic (.t 4) (.c (.int .i64 1))), none⟩,
 ⟨some 6, .op (.mov (.t 5)), none⟩,
 ⟨some 7, .op (.mov (.t 0)), some (6, false)⟩,
 ⟨some 8, .op (.bin .gtr .basic (.t 7) (.c (.int .i64 61))), some (6, false)⟩,
 ⟨some 9, .pick (.t 6) (.c (.bool true)) (.t 8), none⟩] [0, 2, 9])
 (.cond (.t 9)
 (.seq (.region [⟨some 10, .op (.build [.string ⟨#[]⟩, .string ⟨#[]⟩] []), none⟩,
 ⟨none, .op (.store 2 (.t 2) (.t 10)), none⟩,
 ⟨some 3, .op (.mov (.c (.int .i64 23))), none⟩] [2, 3])
 (.ret))
 (.skip)))
 (.seq (.region [⟨some 11, .call (.c (.func (.func 203) #[] #[])) [], none⟩,
 ⟨some 12, .op (.mov (.t 0)), none⟩,
 ⟨some 13, .op (.bin .sub .basic (.t 12) (.c (.int .i64 1))), none⟩,
 ⟨some 14, .op (.idxAN 61 2 (.t 11) (.t 13)), none⟩,
 ⟨none, .op (.store 2 (.t 2) (.t 14)), none⟩,
 ⟨some 3, .op (.mov (.c (.int .i64 0))), none⟩] [2, 3])
 (.ret)))⟩

theorem lf196_ok : cFunc Tryz.prog Tryz.f196 [[0, 2], [0, 2, 9], [2, 3], [2, 3]] = some lf196 := by kernel_rfl

/-- squint/lit.Decode -/
def lf198 : LFunc := ⟨56, [.tmp 4, .tmp 5, .tmp 6],
 .seq (.region [⟨some 4, .op (.mov (.c (.slice none 0 0))), none⟩,
 ⟨some 5, .op (.mov (.c (.int .i64 0))), none⟩,
 ⟨some 6, .op (.mov (.c (.int .i64 0))), none⟩] [0, 1])
 (.seq (.region [⟨some 12, .op (.mov (.t 0)), none⟩,
 ⟨some 13, .call (.c (.func (.func 173) #[] #[])) [.t 12, .c (.int .i64 7)], none⟩,
 ⟨some 11, .op (.mov (.t 13)), none⟩,
 ⟨some 14, .op (.extract 0 (.t 11)), none⟩,
 ⟨some 15, .op (.extract 1 (.t 11)), none⟩,
 ⟨some 16, .op (.extract 2 (.t 11)), none⟩,
 ⟨some 7, .op (.mov (.t 14)), none⟩,
 ⟨some 8, .op (.mov (.t 15)), none⟩,
 ⟨some 6, .op (.mov (.t 16)), none⟩] [0, 1, 6, 7, 8])
 (.seq (.seq (.region [⟨some 17, .op (.mov (.t 6)), none⟩,
 ⟨some 18, .op (.bin .neq .basic (.t 17) (.c (.int .i64 0))), none⟩] [0, 1, 6, 7, 8, 18])
 (.cond (.t 18)
 (.seq (.region [⟨some 19, .op (.mov (.t 6)), none⟩,
 ⟨some 4, .op (.mov (.c (.slice none 0 0))), none⟩,
 ⟨some 5, .op (.mov (.c (.int .i64 0))), none⟩,
 ⟨some 6, .op (.mov (.t 19)), none⟩] [4, 5, 6])
 (.ret))
 (.skip)))
 (.seq (.seq (.region [⟨some 20, .op (.mov (.t 7)), none⟩,
 ⟨some 21, .op (.mov (.t 0)), none⟩,
 ⟨some 22, .op (.lenS (.t 21)), none⟩,
 ⟨some 23, .op (.mov (.t 8)), none⟩,
 ⟨some 24, .op (.bin .sub .basic (.t 22) (.t 23)), none⟩,
 ⟨some 25, .op (.bin .gtr .basic (.t 20) (.t 24)), none⟩] [0, 1, 7, 8, 25])
 (.cond (.t 25)
 (.seq (.region [⟨some 4, .op (.mov (.c (.slice none 0 0))), none⟩,
 ⟨some 5, .op (.mov (.c (.int .i64 0))), none⟩,
 ⟨some 6, .op (.mov (.c (.int .i64 16))), none⟩] [4, 5, 6])
 (.ret))
 (.skip)))
 (.seq (.region [⟨some 26, .op (.mov (.t 0)), none⟩,
 ⟨some 27, .op (.mov (.t 8)), none⟩,
 ⟨some 28, .op (.mov (.t 8)), none⟩,
 ⟨some 29, .op (.mov (.t 7)), none⟩,
 ⟨some 30, .op (.bin .add .basic (.t 28) (.t 29)), none⟩,
 ⟨some 31, .op (.slice 1 (.t 26) (some (.t 27)) (some (.t 30)) none), none⟩,
 ⟨some 32, .call (.c (.func (.func 43) #[] #[])) [.t 31], none⟩,
 ⟨some 4, .op (.mov (.t 32)), none⟩] [0, 1, 4, 7, 8])
 (.seq (.seq (.region [⟨some 34, .op (.mov (.t 0)), none⟩,
 ⟨some 35, .call (.c (.func (.func 217) #[] #[])) [.t 34, .c (.int .i64 7)], none⟩,
 ⟨some 33, .op (.mov (.t 35)), none⟩,
 ⟨some 36, .op (.extract 0 (.t 33)), none⟩,
 ⟨some 37, .op (.extract 1 (.t 33)), none⟩,
 ⟨some 9, .op (.mov (.t 36)), none⟩,
 ⟨some 10, .op (.mov (.t 37)), none⟩] [1, 4, 7, 8, 9])
 (.seq (.region [⟨some 38, .op (.mov (.t 9)), none⟩,
 ⟨some 39, .op (.bin .eql .basic (.t 38) (.c (.int .i64 1))), none⟩] [1, 4, 7, 8, 39])
 (.cond (.t 39)
 (.seq (.region [⟨some 41, .op (.mov (.t 4)), none⟩,
 ⟨some 42, .call (.c (.func (.func 218) #[] #[])) [.t 41], none⟩,
 ⟨some 40, .op (.mov (.t 42)), none⟩,
 ⟨some 43, .op (.extract 0 (.t 40)), none⟩,
 ⟨some 44, .op (.extract 1 (.t 40)), none⟩,
 ⟨some 4, .op (.mov (.t 43)), none⟩,
 ⟨some 6, .op (.mov (.t 44)), none⟩] [1, 4, 6, 7, 8])
 (.seq (.region [⟨some 45, .op (.mov (.t 6)), none⟩,
 ⟨some 46, .op (.bin .neq .basic (.t 45) (.c (.int .i64 0))), none⟩] [1, 4, 6, 7, 8, 46])
 (.cond (.t 46)
 (.seq (.region [⟨some 47, .op (.mov (.t 6)), none⟩,
 ⟨some 4, .op (.mov (.c (.slice none 0 0))), none⟩,
 ⟨some 5, .op (.mov (.c (.int .i64 0))), none⟩,
 ⟨some 6, .op (.mov (.t 47)), none⟩] [4, 5, 6])
 (.ret))
 (.skip))))
 (.skip))))
 (.seq (.seq (.region [⟨some 48, .op (.mov (.t 4)), none⟩,
 ⟨some 49, .op (.lenS (.t 48)), none⟩,
 ⟨some 50, .op (.mov (.t 1)), none⟩,
 ⟨some 51, .op (.bin .gtr .basic (.t 49) (.t 50)), none⟩] [4, 7, 8, 51])
 (.cond (.t 51)
 (.seq (.region [⟨some 4, .op (.mov (.c (.slice none 0 0))), none⟩,
 ⟨some 5, .op (.mov (.c (.int .i64 0))), none⟩,
 ⟨some 6, .op (.mov (.c (.int .i64 22))), none⟩] [4, 5, 6])
 (.ret))
 (.skip)))
 (.seq (.region [⟨some 52, .op (.mov (.t 4)), none⟩,
 ⟨some 53, .op (.mov (.t 8)), none⟩,
 ⟨some 54, .op (.mov (.t 7)), none⟩,
 ⟨some 55, .op (.bin .add .basic (.t 53) (.t 54)), none⟩,
 ⟨some 4, .op (.mov (.t 52)), none⟩,
 ⟨some 5, .op (.mov (.t 55)), none⟩,
 ⟨some 6, .op (.mov (.c (.int .i64 0))), none⟩] [4, 5, 6])
 (.ret))))))))⟩

theorem lf198_ok : cFunc Tryz.prog Tryz.f198 [[0, 1], [0, 1, 6, 7, 8], [0, 1, 6, 7, 8, 18], [4, 5, 6], [0, 1, 7, 8, 25], [4, 5, 6], [0, 1, 4, 7, 8], [1, 4, 7, 8, 9], [1, 4, 7, 8, 39], [1, 4, 6, 7, 8], [1, 4, 6, 7, 8, 46], [4, 5, 6], [4, 7, 8, 51], [4, 5, 6], [4, 5, 6]] = some lf198 := by kernel_rfl

/-- slices.Clone[[]squint/static.Field,squint/static.Field] -/
def lf200 : LFunc := ⟨8, [.tmp 2],
 .seq (.region [⟨some 2, .op (.mov (.c (.slice none 0 0))), none⟩] [0])
 (.seq (.seq (.region [⟨some 3, .op (.mov (.t 0)), none⟩,
 ⟨some 4, .op (.bin .eql .slice (.t 3) (.c (.slice none 0 0))), none⟩] [0, 4])
 (.cond (.t 4)
 (.seq (.region [⟨some 2, .op (.mov (.c (.slice none 0 0))), none⟩] [2])
 (.ret))
 (.skip)))
 (.seq (.region [⟨some 5, .op (.buildSlice 0 2 [] []), none⟩,
 ⟨some 6, .op (.mov (.t 0)), none⟩,
 ⟨some 7, .op (.append 2 32 (.t 5) (.t 6)), none⟩,
 ⟨some 2, .op (.mov (.t 7)), none⟩] [2])
 (.ret)))⟩

theorem lf200_ok : cFunc Tryz.prog Tryz.f200 [[0], [0, 4], [2], [2]] = some lf200 := by kernel_rfl

/-- squint/static.entries -/
def lf203 : LFunc := ⟨63, [.cellN 0 122],
 .seq (.region [⟨some 0, .op (.alloc [.string ⟨#[]⟩, .string ⟨#[]⟩, .string ⟨#[]⟩, .string ⟨#[]⟩, .string ⟨#[]⟩, .string ⟨#[]⟩, .string ⟨#[]⟩, .string ⟨#[]⟩, .string ⟨#[]⟩, .string ⟨#[]⟩, .string ⟨#[]⟩, .string ⟨#[]⟩, .string ⟨#[]⟩, .string ⟨#[]⟩, .string ⟨#[]⟩, .string ⟨#[]⟩, .string ⟨#[]⟩, .string ⟨#[]⟩, .string ⟨#[]⟩, .string ⟨#[]⟩, .string ⟨#[]⟩, .string ⟨#[]⟩, .string ⟨#[]⟩, .string ⟨#[]⟩, .string ⟨#[]⟩, .string ⟨#[]⟩, .string ⟨#[]⟩, .string ⟨#[]⟩, .string ⟨#[]⟩, .string ⟨#[]⟩, .string ⟨#[]⟩, .string ⟨#[]⟩, .string ⟨#[]⟩, .string ⟨#[]⟩, .string ⟨#[]⟩, .string ⟨#[]⟩, .string ⟨#[]⟩, .string ⟨#[]⟩, .string ⟨#[]⟩, .string ⟨#[]⟩, .string ⟨#[]⟩, .string ⟨#[]⟩, .string ⟨#[]⟩, .string ⟨#[]⟩, .string ⟨#[]⟩, .string ⟨#[]⟩, .string ⟨#[]⟩, .string ⟨#[]⟩, .string ⟨#[]⟩, .string ⟨#[]⟩, .string ⟨#[]⟩, .string ⟨#[]⟩, .string ⟨#[]⟩, .string ⟨#[]⟩, .string ⟨#[]⟩, .string ⟨#[]⟩, .string ⟨#[]⟩, .string ⟨#[]⟩, .string ⟨#[]⟩, .string ⟨#[]⟩, .string ⟨#[]⟩, .string ⟨#[]⟩, .string ⟨#[]⟩, .string ⟨#[]⟩, .string ⟨#[]⟩, .string ⟨#[]⟩, .string ⟨#[]⟩, .string ⟨#[]⟩, .string ⟨#[]⟩, .string ⟨#[]⟩, .string ⟨#[]⟩, .string ⟨#[]⟩, .string ⟨#[]⟩, .string ⟨#[]⟩, .string ⟨#[]⟩, .string ⟨#[]⟩, .string ⟨#[]⟩, .string ⟨#[]⟩, .string ⟨#[]⟩, .string ⟨#[]⟩, .string ⟨#[]⟩, .string ⟨#[]⟩, .string ⟨#[]⟩, .string ⟨#[]⟩, .string ⟨#[]⟩, .string ⟨#[]⟩, .string ⟨#[]⟩, .string ⟨#[]⟩, .string ⟨#[]⟩, .string ⟨#[]⟩, .string ⟨#[]⟩, .string ⟨#[]⟩, .string ⟨#[]⟩, .string ⟨#[]⟩, .string ⟨#[]⟩, .string ⟨#[]⟩, .string ⟨#[]⟩, .string ⟨#[]⟩, .string ⟨#[]⟩, .string ⟨#[]⟩, .string ⟨#[]⟩, .string ⟨#[]⟩, .string ⟨#[]⟩, .string ⟨#[]⟩, .string ⟨#[]⟩, .string ⟨#[]⟩, .string ⟨#[]⟩, .string ⟨#[]⟩, .string ⟨#[]⟩, .string ⟨#[]⟩, .string ⟨#[]⟩, .string ⟨#[]⟩, .string ⟨#[]⟩, .string ⟨#[]⟩, .string ⟨#[]⟩, .string ⟨#[]⟩, .string ⟨#[]⟩, .string ⟨#[]⟩, .string ⟨#[]⟩, .string ⟨#[]⟩, .string ⟨#[]⟩, .string ⟨#[]⟩]), none⟩] [0])
 (.seq (.region [⟨some 1, .op (.build [.string ⟨#[]⟩, .string ⟨#[]⟩] [(0, 1, .c (.string ⟨#[58, 97, 117, 116, 104, 111, 114, 105, 116, 121]⟩)), (1, 1, .c (.string ⟨#[]⟩))]), none⟩,
 ⟨some 2, .op (.build [.string ⟨#[]⟩, .string ⟨#[]⟩] [(0, 1, .c (.string ⟨#[58, 109, 101, 116, 104, 111, 100]⟩)), (1, 1, .c (.string ⟨#[71, 69, 84]⟩))]), none⟩,
 ⟨some 3, .op (.build [.string ⟨#[]⟩, .string ⟨#[]⟩] [(0, 1, .c (.string ⟨#[58, 109, 101, 116, 104, 111, 100]⟩)), (1, 1, .c (.string ⟨#[80, 79, 83, 84]⟩))]), none⟩,
 ⟨some 4, .op (.build [.string ⟨#[]⟩, .string ⟨#[]⟩] [(0, 1, .c (.string ⟨#[58, 112, 97, 116, 104]⟩)), (1, 1, .c (.string ⟨#[47]⟩))]), none⟩,
 ⟨some 5, .op (.build [.string ⟨#[]⟩, .string ⟨#[]⟩] [(0, 1, .c (.string ⟨#[58, 112, 97, 116, 104]⟩)), (1, 1, .c (.string ⟨#[47, 105, 110, 100, 101, 120, 46, 104, 116, 109, 108]⟩))]), none⟩,
 ⟨some 6, .op (.build [.string ⟨#[]⟩, .string ⟨#[]⟩] [(0, 1, .c (.string ⟨#[58, 115, 99, 104, 101, 109, 101]⟩)), (1, 1, .c (.string ⟨#[104, 116, 116, 112]⟩))]), none⟩,
 ⟨some 7, .op (.build [.string ⟨#[]⟩, .string ⟨#[]⟩] [(0, 1, .c (.string ⟨#[58, 115, 99, 104, 101, 109, 101]⟩)), (1, 1, .c (.string ⟨#[104, 116, 116, 112, 115]⟩))]), none⟩,
 ⟨some 8, .op (.build [.string ⟨#[]⟩, .string ⟨#[]⟩] [(0, 1, .c (.string ⟨#[58, 115, 116, 97, 116, 117, 115]⟩)), (1, 1, .c (.string ⟨#[50, 48, 48]⟩))]), none⟩,
 ⟨some 9, .op (.build [.string ⟨#[]⟩, .string ⟨#[]⟩] [(0, 1, .c (.string ⟨#[58, 115, 116, 97, 116, 117, 115]⟩)), (1, 1, .c (.string ⟨#[50, 48, 52]⟩))]), none⟩,
 ⟨some 10, .op (.build [.string ⟨#[]⟩, .string ⟨#[]⟩] [(0, 1, .c (.string ⟨#[58, 115, 116, 97, 116, 117, 115]⟩)), (1, 1, .c (.string ⟨#[50, 48, 54]⟩))]), none⟩,
 ⟨some 11, .op (.build [.string ⟨#[]⟩, .string ⟨#[]⟩] [(0, 1, .c (.string ⟨#[58, 115, 116, 97, 116, 117, 115]⟩)), (1, 1, .c (.string ⟨#[51, 48, 52]⟩))]), none⟩,
 ⟨some 12, .op (.build [.string ⟨#[]⟩, .string ⟨#[]⟩] [(0, 1, .c (.string ⟨#[58, 115, 116, 97, 116, 117, 115]⟩)), (1, 1, .c (.string ⟨#[52, 48, 48]⟩))]), none⟩,
 ⟨some 13, .op (.build [.string ⟨#[]⟩, .string ⟨#[]⟩] [(0, 1, .c (.string ⟨#[58, 115, 116, 97, 116, 117, 115]⟩)), (1, 1, .c (.string ⟨#[52, 48, 52]⟩))]), none⟩,
 ⟨some 14, .op (.build [.string ⟨#[]⟩, .string ⟨#[]⟩] [(0, 1, .c (.string ⟨#[58, 115, 116, 97, 116, 117, 115]⟩)), (1, 1, .c (.string ⟨#[53, 48, 48]⟩))]), none⟩,
 ⟨some 15, .op (.build [.string ⟨#[]⟩, .string ⟨#[]⟩] [(0, 1, .c (.string ⟨#[97, 99, 99, 101, 112, 116, 45, 99, 104, 97, 114, 115, 101, 116]⟩)), (1, 1, .c (.string ⟨#[]⟩))]), none⟩,
 ⟨some 16, .op (.build [.string ⟨#[]⟩, .string ⟨#[]⟩] [(0, 1, .c (.string ⟨#[97, 99, 99, 101, 112, 116, 45, 101, 110, 99, 111, 100, 105, 110, 103]⟩)), (1, 1, .c (.string ⟨#[103, 122, 105, 112, 44, 32, 100, 101, 102, 108, 97, 116, 101]⟩))]), none⟩,
 ⟨some 17, .op (.build [.string ⟨#[]⟩, .string ⟨#[]⟩] [(0, 1, .c (.string ⟨#[97, 99, 99, 101, 112, 116, 45, 108, 97, 110, 103, 117, 97, 103, 101]⟩)), (1, 1, .c (.string ⟨#[]⟩))]), none⟩,
 ⟨some 18, .op (.build [.string ⟨#[]⟩, .string ⟨#[]⟩] [(0, 1, .c (.string ⟨#[97, 99, 99, 101, 112, 116, 45, 114, 97, 110, 103, 101, 115]⟩)), (1, 1, .c (.string ⟨#[]⟩))]), none⟩,
 ⟨some 19, .op (.build [.string ⟨#[]⟩, .string ⟨#[]⟩] [(0, 1, .c (.string ⟨#[97, 99, 99, 101, 112, 116]⟩)), (1, 1, .c (.string ⟨#[]⟩))]), none⟩,
 ⟨some 20, .op (.build [.string ⟨#[]⟩, .string ⟨#[]⟩] [(0, 1, .c (.string ⟨#[97, 99, 99, 101, 115, 115, 45, 99, 111, 110, 116, 114, 111, 108, 45, 97, 108, 108, 111, 119, 45, 111, 114, 105, 103, 105, 110]⟩)), (1, 1, .c (.string ⟨#[]⟩))]), none⟩,
 ⟨some 21, .op (.build [.string ⟨#[]⟩, .string ⟨#[]⟩] [(0, 1, .c (.string ⟨#[97, 103, 101]⟩)), (1, 1, .c (.string ⟨#[]⟩))]), none⟩,
 ⟨some 22, .op (.build [.string ⟨#[]⟩, .string ⟨#[]⟩] [(0, 1, .c (.string ⟨#[97, 108, 108, 111, 119]⟩)), (1, 1, .c (.string ⟨#[]⟩))]), none⟩,
 ⟨some 23, .op (.build [.string ⟨#[]⟩, .string ⟨#[]⟩] [(0, 1, .c (.string ⟨#[97, 117, 116, 104, 111, 114, 105, 122, 97, 116, 105, 111, 110]⟩)), (1, 1, .c (.string ⟨#[]⟩))]), none⟩,
 ⟨some 24, .op (.build [.string ⟨#[]⟩, .string ⟨#[]⟩] [(0, 1, .c (.string ⟨#[99, 97, 99, 104, 101, 45, 99, 111, 110, 116, 114, 111, 108]⟩)), (1, 1, .c (.string ⟨#[]⟩))]), none⟩,
 ⟨some 25, .op (.build [.string ⟨#[]⟩, .string ⟨#[]⟩] [(0, 1, .c (.string ⟨#[99, 111, 110, 116, 101, 110, 116, 45, 100, 105, 115, 112, 111, 115, 105, 116, 105, 111, 110]⟩)), (1, 1, .c (.string ⟨#[]⟩))]), none⟩,
 ⟨some 26, .op (.build [.string ⟨#[]⟩, .string ⟨#[]⟩] [(0, 1, .c (.string ⟨#[99, 111, 110, 116, 101, 110, 116, 45, 101, 110, 99, 111, 100, 105, 110, 103]⟩)), (1, 1, .c (.string ⟨#[]⟩))]), none⟩,
 ⟨some 27, .op (.build [.string ⟨#[]⟩, .string ⟨#[]⟩] [(0, 1, .c (.string ⟨#[99, 111, 110, 116, 101, 110, 116, 45, 108, 97, 110, 103, 117, 97, 103, 101]⟩)), (1, 1, .c (.string ⟨#[]⟩))]), none⟩,
 ⟨some 28, .op (.build [.string ⟨#[]⟩, .string ⟨#[]⟩] [(0, 1, .c (.string ⟨#[99, 111, 110, 116, 101, 110, 116, 45, 108, 101, 110, 103, 116, 104]⟩)), (1, 1, .c (.string ⟨#[]⟩))]), none⟩,
 ⟨some 29, .op (.build [.string ⟨#[]⟩, .string ⟨#[]⟩] [(0, 1, .c (.string ⟨#[99, 111, 110, 116, 101, 110, 116, 45, 108, 111, 99, 97, 116, 105, 111, 110]⟩)), (1, 1, .c (.string ⟨#[]⟩))]), none⟩,
 ⟨some 30, .op (.build [.string ⟨#[]⟩, .string ⟨#[]⟩] [(0, 1, .c (.string ⟨#[99, 111, 110, 116, 101, 110, 116, 45, 114, 97, 110, 103, 101]⟩)), (1, 1, .c (.string ⟨#[]⟩))]), none⟩,
 ⟨some 31, .op (.build [.string ⟨#[]⟩, .string ⟨#[]⟩] [(0, 1, .c (.string ⟨#[99, 111, 110, 116, 101, 110, 116, 45, 116, 121, 112, 101]⟩)), (1, 1, .c (.string ⟨#[]⟩))]), none⟩,
 ⟨some 32, .op (.build [.string ⟨#[]⟩, .string ⟨#[]⟩] [(0, 1, .c (.string ⟨#[99, 111, 111, 107, 105, 101]⟩)), (1, 1, .c (.string ⟨#[]⟩))]), none⟩,
 ⟨some 33, .op (.build [.string ⟨#[]⟩, .string ⟨#[]⟩] [(0, 1, .c (.string ⟨#[100, 97, 116, 101]⟩)), (1, 1, .c (.string ⟨#[]⟩))]), none⟩,
 ⟨some 34, .op (.build [.string ⟨#[]⟩, .string ⟨#[]⟩] [(0, 1, .c (.string ⟨#[101, 116, 97, 103]⟩)), (1, 1, .c (.string ⟨#[]⟩))]), none⟩,
 ⟨some 35, .op (.build [.string ⟨#[]⟩, .string ⟨#[]⟩] [(0, 1, .c (.string ⟨#[101, 120, 112, 101, 99, 116]⟩)), (1, 1, .c (.string ⟨#[]⟩))]), none⟩,
 ⟨some 36, .op (.build [.string ⟨#[]⟩, .string ⟨#[]⟩] [(0, 1, .c (.string ⟨#[101, 120, 112, 105, 114, 101, 115]⟩)), (1, 1, .c (.string ⟨#[]⟩))]), none⟩,
 ⟨some 37, .op (.build [.string ⟨#[]⟩, .string ⟨#[]⟩] [(0, 1, .c (.string ⟨#[102, 114, 111, 109]⟩)), (1, 1, .c (.string ⟨#[]⟩))]), none⟩,
 ⟨some 38, .op (.build [.string ⟨#[]⟩, .string ⟨#[]⟩] [(0, 1, .c (.string ⟨#[104, 111, 115, 116]⟩)), (1, 1, .c (.string ⟨#[]⟩))]), none⟩,
 ⟨some 39, .op (.build [.string ⟨#[]⟩, .string ⟨#[]⟩] [(0, 1, .c (.string ⟨#[105, 102, 45, 109, 97, 116, 99, 104]⟩)), (1, 1, .c (.string ⟨#[]⟩))]), none⟩,
 ⟨some 40, .op (.build [.string ⟨#[]⟩, .string ⟨#[]⟩] [(0, 1, .c (.string ⟨#[105, 102, 45, 109, 111, 100, 105, 102, 105, 101, 100, 45, 115, 105, 110, 99, 101]⟩)), (1, 1, .c (.string ⟨#[]⟩))]), none⟩,
 ⟨some 41, .op (.build [.string ⟨#[]⟩, .string ⟨#[]⟩] [(0, 1, .c (.string ⟨#[105, 102, 45, 110, 111, 110, 101, 45, 109, 97, 116, 99, 104]⟩)), (1, 1, .c (.string ⟨#[]⟩))]), none⟩,
 ⟨some 42, .op (.build [.string ⟨#[]⟩, .string ⟨#[]⟩] [(0, 1, .c (.string ⟨#[105, 102, 45, 114, 97, 110, 103, 101]⟩)), (1, 1, .c (.string ⟨#[]⟩))]), none⟩,
 ⟨some 43, .op (.build [.string ⟨#[]⟩, .string ⟨#[]⟩] [(0, 1, .c (.string ⟨#[105, 102, 45, 117, 110, 109, 111, 100, 105, 102, 105, 101, 100, 45, 115, 105, 110, 99, 101]⟩)), (1, 1, .c (.string ⟨#[]⟩))]), none⟩,
 ⟨some 44, .op (.build [.string ⟨#[]⟩, .string ⟨#[]⟩] [(0, 1, .c (.string ⟨#[108, 97, 115, 116, 45, 109, 111, 100, 105, 102, 105, 101, 100]⟩)), (1, 1, .c (.string ⟨#[]⟩))]), none⟩,
 ⟨some 45, .op (.build [.string ⟨#[]⟩, .string ⟨#[]⟩] [(0, 1, .c (.string ⟨#[108, 105, 110, 107]⟩)), (1, 1, .c (.string ⟨#[]⟩))]), none⟩,
 ⟨some 46, .op (.build [.string ⟨#[]⟩, .string ⟨#[]⟩] [(0, 1, .c (.string ⟨#[108, 111, 99, 97, 116, 105, 111, 110]⟩)), (1, 1, .c (.string ⟨#[]⟩))]), none⟩,
 ⟨some 47, .op (.build [.string ⟨#[]⟩, .string ⟨#[]⟩] [(0, 1, .c (.string ⟨#[109, 97, 120, 45, 102, 111, 114, 119, 97, 114, 100, 115]⟩)), (1, 1, .c (.string ⟨#[]⟩))]), none⟩,
 ⟨some 48, .op (.build [.string ⟨#[]⟩, .string ⟨#[]⟩] [(0, 1, .c (.string ⟨#[112, 114, 111, 120, 121, 45, 97, 117, 116, 104, 101, 110, 116, 105, 99, 97, 116, 101]⟩)), (1, 1, .c (.string ⟨#[]⟩))]), none⟩,
 ⟨some 49, .op (.build [.string ⟨#[]⟩, .string ⟨#[]⟩] [(0, 1, .c (.string ⟨#[112, 114, 111, 120, 121, 45, 97, 117, 116, 104, 111, 114, 105, 122, 97, 116, 105, 111, 110]⟩)), (1, 1, .c (.string ⟨#[]⟩))]), none⟩,
 ⟨some 50, .op (.build [.string ⟨#[]⟩, .string ⟨#[]⟩] [(0, 1, .c (.string ⟨#[114, 97, 110, 103, 101]⟩)), (1, 1, .c (.string ⟨#[]⟩))]), none⟩,
 ⟨some 51, .op (.build [.string ⟨#[]⟩, .string ⟨#[]⟩] [(0, 1, .c (.string ⟨#[114, 101, 102, 101, 114, 101, 114]⟩)), (1, 1, .c (.string ⟨#[]⟩))]), none⟩,
 ⟨some 52, .op (.build [.string ⟨#[]⟩, .string ⟨#[]⟩] [(0, 1, .c (.string ⟨#[114, 101, 102, 114, 101, 115, 104]⟩)), (1, 1, .c (.string ⟨#[]⟩))]), none⟩,
 ⟨some 53, .op (.build [.string ⟨#[]⟩, .string ⟨#[]⟩] [(0, 1, .c (.string ⟨#[114, 101, 116, 114, 121, 45, 97, 102, 116, 101, 114]⟩)), (1, 1, .c (.string ⟨#[]⟩))]), none⟩,
 ⟨some 54, .op (.build [.string ⟨#[]⟩, .string ⟨#[]⟩] [(0, 1, .c (.string ⟨#[115, 101, 114, 118, 101, 114]⟩)), (1, 1, .c (.string ⟨#[]⟩))]), none⟩,
 ⟨some 55, .op (.build [.string ⟨#[]⟩, .string ⟨#[]⟩] [(0, 1, .c (.string ⟨#[115, 101, 116, 45, 99, 111, 111, 107, 105, 101]⟩)), (1, 1, .c (.string ⟨#[]⟩))]), none⟩,
 ⟨some 56, .op (.build [.string ⟨#[]⟩, .string ⟨#[]⟩] [(0, 1, .c (.string ⟨#[115, 116, 114, 105, 99, 116, 45, 116, 114, 97, 110, 115, 112, 111, 114, 116, 45, 115, 101, 99, 117, 114, 105, 116, 121]⟩)), (1, 1, .c (.string ⟨#[]⟩))]), none⟩,
 ⟨some 57, .op (.build [.string ⟨#[]⟩, .string ⟨#[]⟩] [(0, 1, .c (.string ⟨#[116, 114, 97, 110, 115, 102, 101, 114, 45, 101, 110, 99, 111, 100, 105, 110, 103]⟩)), (1, 1, .c (.string ⟨#[]⟩))]), none⟩,
 ⟨some 58, .op (.build [.string ⟨#[]⟩, .string ⟨#[]⟩] [(0, 1, .c (.string ⟨#[117, 115, 101, 114, 45, 97, 103, 101, 110, 116]⟩)), (1, 1, .c (.string ⟨#[]⟩))]), none⟩,
 ⟨some 59, .op (.build [.string ⟨#[]⟩, .string ⟨#[]⟩] [(0, 1, .c (.string ⟨#[118, 97, 114, 121]⟩)), (1, 1, .c (.string ⟨#[]⟩))]), none⟩,
 ⟨some 60, .op (.build [.string ⟨#[]⟩, .string ⟨#[]⟩] [(0, 1, .c (.string ⟨#[118, 105, 97]⟩)), (1, 1, .c (.string ⟨#[]⟩))]), none⟩,
 ⟨some 61, .op (.build [.string ⟨#[]⟩, .string ⟨#[]⟩] [(0, 1, .c (.string ⟨#[119, 119, 119, 45, 97, 117, 116, 104, 101, 110, 116, 105, 99, 97, 116, 101]⟩)), (1, 1, .c (.string ⟨#[]⟩))]), none⟩,
 ⟨some 62, .op (.build [.string ⟨#[]⟩, .string ⟨#[]⟩, .string ⟨#[]⟩, .string ⟨#[]⟩, .string ⟨#[]⟩, .string ⟨#[]⟩, .string ⟨#[]⟩, .string ⟨#[]⟩, .string ⟨#[]⟩, .string ⟨#[]⟩, .string ⟨#[]⟩, .string ⟨#[]⟩, .string ⟨#[]⟩, .string ⟨#[]⟩, .string ⟨#[]⟩, .string ⟨#[]⟩, .string ⟨#[]⟩, .string ⟨#[]⟩, .string ⟨#[]⟩, .string ⟨#[]⟩, .string ⟨#[]⟩, .string ⟨#[]⟩, .string ⟨#[]⟩, .string ⟨#[]⟩, .string ⟨#[]⟩, .string ⟨#[]⟩, .string ⟨#[]⟩, .string ⟨#[]⟩, .string ⟨#[]⟩, .string ⟨#[]⟩, .string ⟨#[]⟩, .string ⟨#[]⟩, .string ⟨#[]⟩, .string ⟨#[]⟩, .string ⟨#[]⟩, .string ⟨#[]⟩, .string ⟨#[]⟩, .string ⟨#[]⟩, .string ⟨#[]⟩, .string ⟨#[]⟩, .string ⟨#[]⟩, .string ⟨#[]⟩, .string ⟨#[]⟩, .string ⟨#[]⟩, .string ⟨#[]⟩, .string ⟨#[]⟩, .string ⟨#[]⟩, .string ⟨#[]⟩, .string ⟨#[]⟩, .string ⟨#[]⟩, .string ⟨#[]⟩, .string ⟨#[]⟩, .string ⟨#[]⟩, .string ⟨#[]⟩, .string ⟨#[]⟩, .string ⟨#[]⟩, .string ⟨#[]⟩, .string ⟨#[]⟩, .string ⟨#[]⟩, .string ⟨#[]⟩, .string ⟨#[]⟩, .string ⟨#[]⟩, .string ⟨#[]⟩, .string ⟨#[]⟩, .string ⟨#[]⟩, .string ⟨#[]⟩, .string ⟨#[]⟩, .string ⟨#[]⟩, .string ⟨#[]⟩, .string ⟨#[]⟩, .string ⟨#[]⟩, .string ⟨#[]⟩, .string ⟨#[]⟩, .string ⟨#[]⟩, .string ⟨#[]⟩, .string ⟨#[]⟩, .string ⟨#[]⟩, .string ⟨#[]⟩, .string ⟨#[]⟩, .string ⟨#[]⟩, .string ⟨#[]⟩, .string ⟨#[]⟩, .string ⟨#[]⟩, .string ⟨#[]⟩, .string ⟨#[]⟩, .string ⟨#[]⟩, .string ⟨#[]⟩, .string ⟨#[]⟩, .string ⟨#[]⟩, .string ⟨#[]⟩, .string ⟨#[]⟩, .string ⟨#[]⟩, .string ⟨#[]⟩, .string ⟨#[]⟩, .string ⟨#[]⟩, .string ⟨#[]⟩, .string ⟨#[]⟩, .string ⟨#[]⟩, .string ⟨#[]⟩, .string ⟨#[]⟩, .string ⟨#[]⟩, .string ⟨#[]⟩, .string ⟨#[]⟩, .string ⟨#[]⟩, .string ⟨#[]⟩, .string ⟨#[]⟩, .string ⟨#[]⟩, .string ⟨#[]⟩, .string ⟨#[]⟩, .string ⟨#[]⟩, .string ⟨#[]⟩, .string ⟨#[]⟩, .string ⟨#[]⟩, .string ⟨#[]⟩, .string ⟨#[]⟩, .string ⟨#[]⟩, .string ⟨#[]⟩, .string ⟨#[]⟩, .string ⟨#[]⟩, .string ⟨#[]⟩, .string ⟨#[]⟩, .string ⟨#[]⟩] [(0, 2, .t 1), (2, 2, .t 2), (4, 2, .t 3), (6, 2, .t 4), (8, 2, .t 5), (10, 2, .t 6), (12, 2, .t 7), (14, 2, .t 8), (16, 2, .t 9), (18, 2, .t 10), (20, 2, .t 11), (22, 2, .t 12), (24, 2, .t 13), (26, 2, .t 14), (28, 2, .t 15), (30, 2, .t 16), (32, 2, .t 17), (34, 2, .t 18), (36, 2, .t 19), (38, 2, .t 20), (40, 2, .t 21), (42, 2, .t 22), (44, 2, .t 23), (46, 2, .t 24), (48, 2, .t 25), (50, 2, .t 26), (52, 2, .t 27), (54, 2, .t 28), (56, 2, .t 29), (58, 2, .t 30), (60, 2, .t 31), (62, 2, .t 32), (64, 2, .t 33), (66, 2, .t 34), (68, 2, .t 35), (70, 2, .t 36), (72, 2, .t 37), (74, 2, .t 38), (76, 2, .t 39), (78, 2, .t 40), (80, 2, .t 41), (82, 2, .t 42), (84, 2, .t 43), (86, 2, .t 44), (88, 2, .t 45), (90, 2, .t 46), (92, 2, .t 47), (94, 2, .t 48), (96, 2, .t 49), (98, 2, .t 50), (100, 2, .t 51), (102, 2, .t 52), (104, 2, .t 53), (106, 2, .t 54), (108, 2, .t 55), (110, 2, .t 56), (112, 2, .t 57), (114, 2, .t 58), (116, 2, .t 59), (118, 2, .t 60), (120, 2, .t 61)]), none⟩,
 ⟨none, .op (.store 122 (.t 0) (.t 62)), none⟩] [0])
 (.ret))⟩

theorem lf203_ok : cFunc Tryz.prog Tryz.f203 [[0], [0]] = some lf203 := by kernel_rfl

/-- squint/huff.New -/
def lf204 : LFunc := ⟨3, [.tmp 0],
 .seq (.region [⟨some 0, .op (.mov (.c (.pointer none))), none⟩] [])
 (.seq (.region [⟨some 1, .op (.build [.int .u32 0, .int .i32 0, .int .u32 0, .int .i64 0, .int .u32 0, .int .u32 0, .int .u32 0, .int .u32 0, .int .u32 0, .int .u32 0, .int .u32 0, .int .u32 0, .int .u32 0, .int .u32 0, .int .u32 0, .int .u32 0, .int .u32 0, .int .u32 0, .int .u32 0, .int .u32 0, .int .u32 0, .int .u32 0, .int .u32 0, .int .u32 0, .int .u32 0, .int .u32 0, .int .u32 0, .int .u32 0, .int .u32 0, .int .u32 0, .int .u32 0, .int .u32 0, .int .u32 0, .int .u32 0, .int .u32 0, .int .u32 0, .int .u32 0, .int .u32 0, .int .u32 0, .int .u32 0, .int .u32 0, .int .u32 0, .int .u32 0, .int .u32 0, .int .u32 0, .int .u32 0, .int .u32 0, .int .u32 0, .int .u32 0, .int .u32 0, .int .u32 0, .int .u32 0, .int .u32 0, .int .u32 0, .int .u32 0, .int .u32 0, .int .u32 0, .int .u32 0, .int .u32 0, .int .u32 0, .int .u32 0, .int .u32 0, .int .u32 0, .int .u32 0, .int .u32 0, .int .u32 0, .int .u32 0, .int .u32 0, .int .u32 0, .int .u32 0, .int .u32 0, .int .u32 0, .int .u32 0, .int .u32 0, .int .u32 0, .int .u32 0, .int .u32 0, .int .u32 0, .int .u32 0, .int .u32 0, .int .u32 0, .int .u32 0, .int .u32 0, .int .u32 0, .int .u32 0, .int .u32 0, .int .u32 0, .int .u32 0, .int .u32 0, .int .u32 0, .int .u32 0, .int .u32 0, .int .u32 0, .int .u32 0, .int .u32 0, .int .u32 0, .int .u32 0, .int .u32 0, .int .u32 0, .int .u32 0, .int .u32 0, .int .u32 0, .int .u32 0, .int .u32 0, .int .u32 0, .int .u32 0, .int .u32 0, .int .u32 0, .int .u32 0, .int .u32 0, .int .u32 0, .int .u32 0, .int .u32 0, .int .u32 0, .int .u32 0, .int .u32 0, .int .u32 0, .int .u32 0, .int .u32 0, .int .u32 0, .int .u32 0, .int .u32 0, .int .u32 0, .int .u32 0, .int .u32 0, .int .u32 0, .int .u32 0, .int .u32 0, .int .u32 0, .int .u32 0, .int .u32 0, .int .u32 0, .int .u32 0, .int .u32 0, .int .u32 0, .int .u32 0, .int .u32 0, .int .u32 0, .int .u32 0, .int .u32 0, .int .u32 0, .int .u32 0, .int .u32 0, .int .u32 0, .int .u32 0, .int .u32 0, .int .u32 0, .int .u32 0, .int .u32 0, .int .u32 0, .int .u32 0, .int .u32 0, .int .u32 0, .int .u32 0, .int .u32 0, .int .u32 0, .int .u32 0, .int .u32 0, .int .u32 0, .int .u32 0, .int .u32 0, .int .u32 0, .int .u32 0, .int .u32 0, .int .u32 0, .int .u32 0, .int .u32 0, .int .u32 0, .int .u32 0, .int .u32 0, .int .u32 0, .int .u32 0, .int .u32 0, .int .u32 0, .int .u32 0, .int .u32 0, .int .u32 0, .int .u32 0, .int .u32 0, .int .u32 0, .int .u32 0, .int .u32 0, .int .u32 0, .int .u32 0, .int .u32 0, .int .u32 0, .int .u32 0, .int .u32 0, .int .u32 0, .int .u32 0, .int .u32 0, .int .u32 0, .int .u32 0, .int .u32 0, .int .u32 0, .int .u32 0, .int .u32 0, .int .u32 0, .int .u32 0, .int .u32 0, .int .u32 0, .int .u32 0, .int .u32 0, .int .u32 0, .int .u32 0, .int .u32 0, .int .u32 0, .int .u32 0, .int .u32 0, .int .u32 0, .int .u32 0, .int .u32 0, .int .u32 0, .int .u32 0, .int .u32 0, .int .u32 0, .int .u32 0, .int .u32 0, .int .u32 0, .int .u32 0, .int .u32 0, .int .u32 0, .int .u32 0, .int .u32 0, .int .u32 0, .int .u32 0, .int .u32 0, .int .u32 0, .int .u32 0, .int .u32 0, .int .u32 0, .int .u32 0, .int .u32 0, .int .u32 0, .int .u32 0, .int .u32 0, .int .u32 0, .int .u32 0, .int .u32 0, .int .u32 0, .int .u32 0, .int .u32 0, .int .u32 0, .int .u32 0, .int .u32 0, .int .u32 0, .int .u32 0, .int .u32 0, .int .u32 0, .int .u32 0, .int .u32 0, .int .u32 0, .int .u32 0, .int .u32 0, .int .u32 0, .int .u32 0, .int .u32 0, .int .u32 0, .int .u32 0, .int .u32 0, .int .u32 0, .int .i64 0, .int .i64 0, .int .i64 0, .int .i64 0, .int .i64 0, .int .i64 0, .int .i64 0, .int .i64 0, .int .i64 0, .int .i64 0, .int .i64 0, .int .i64 0, .int .i64 0, .int .i64 0, .int .i64 0, .int .i64 0, .int .i64 0, .int .i64 0, .int .i64 0, .int .i64 0, .int .i64 0, .int .i64 0, .int .i64 0, .int .i64 0, .int .i64 0, .int .i64 0, .int .i64 0, .int .i64 0, .int .i64 0, .int .i64 0, .int .i64 0, .int .i64 0, .int .i64 0, .int .i64 0, .int .i64 0, .int .i64 0, .int .i64 0, .int .i64 0, .int .i64 0, .int .i64 0, .int .i64 0, .int .i64 0, .int .i64 0, .int .i64 0, .int .i64 0, .int .i64 0, .int .i64 0, .int .i64 0, .int .i64 0, .int .i64 0, .int .i64 0, .int .i64 0, .int .i64 0, .int .i64 0, .int .i64 0, .int .i64 0, .int .i64 0, .int .i64 0, .int .i64 0, .int .i64 0, .int .i64 0, .int .i64 0, .int .i64 0, .int .i64 0, .int .i64 0, .int .i64 0, .int .i64 0, .int .i64 0, .int .i64 0, .int .i64 0, .int .i64 0, .int .i64 0, .int .i64 0, .int .i64 0, .int .i64 0, .int .i64 0, .int .i64 0, .int .i64 0, .int .i64 0, .int .i64 0, .int .i64 0, .int .i64 0, .int .i64 0, .int .i64 0, .int .i64 0, .int .i64 0, .int .i64 0, .int .i64 0, .int .i64 0, .int .i64 0, .int .i64 0, .int .i64 0, .int .i64 0, .int .i64 0, .int .i64 0, .int .i64 0, .int .i64 0, .int .i64 0, .int .i64 0, .int .i64 0, .int .i64 0, .int .i64 0, .int .i64 0, .int .i64 0, .int .i64 0, .int .i64 0, .int .i64 0, .int .i64 0, .int .i64 0, .int .i64 0, .int .i64 0, .int .i64 0, .int .i64 0, .int .i64 0, .int .i64 0, .int .i64 0, .int .i64 0, .int .i64 0, .int .i64 0, .int .i64 0, .int .i64 0, .int .i64 0, .int .i64 0, .int .i64 0, .int .i64 0, .int .i64 0, .int .i64 0, .int .i64 0, .int .i64 0, .int .i64 0, .int .i64 0, .int .i64 0, .int .i64 0, .int .i64 0, .int .i64 0, .int .i64 0, .int .i64 0, .int .i64 0, .int .i64 0, .int .i64 0, .int .i64 0, .int .i64 0, .int .i64 0, .int .i64 0, .int .i64 0, .int .i64 0, .int .i64 0, .int .i64 0, .int .i64 0, .int .i64 0, .int .i64 0, .int .i64 0, .int .i64 0, .int .i64 0, .int .i64 0, .int .i64 0, .int .i64 0, .int .i64 0, .int .i64 0, .int .i64 0, .int .i64 0, .int .i64 0, .int .i64 0, .int .i64 0, .int .i64 0, .int .i64 0, .int .i64 0, .int .i64 0, .int .i64 0, .int .i64 0, .int .i64 0, .int .i64 0, .int .i64 0, .int .i64 0, .int .i64 0, .int .i64 0, .int .i64 0, .int .i64 0, .int .i64 0, .int .i64 0, .int .i64 0, .int .i64 0, .int .i64 0, .int .i64 0, .int .i64 0, .int .i64 0, .int .i64 0, .int .i64 0, .int .i64 0, .int .i64 0, .int .i64 0, .int .i64 0, .int .i64 0, .int .i64 0, .int .i64 0, .int .i64 0, .int .i64 0, .int .i64 0, .int .i64 0, .int .i64 0, .int .i64 0, .int .i64 0, .int .i64 0, .int .i64 0, .int .i64 0, .int .i64 0, .int .i64 0, .int .i64 0, .int .i64 0, .int .i64 0, .int .i64 0, .int .i64 0, .int .i64 0, .int .i64 0, .int .i64 0, .int .i64 0, .int .i64 0, .int .i64 0, .int .i64 0, .int .i64 0, .int .i64 0, .int .i64 0, .int .i64 0, .int .i64 0, .int .i64 0, .int .i64 0, .int .i64 0, .int .i64 0, .int .i64 0, .int .i64 0, .int .i64 0, .int .i64 0, .int .i64 0, .int .i64 0, .int .i64 0, .int .i64 0, .int .i64 0, .int .i64 0, .int .i64 0, .int .i64 0, .int .i64 0, .int .i64 0, .int .i64 0, .int .i64 0, .int .i64 0, .int .i64 0, .int .i64 0, .int .i64 0, .int .i64 0, .int .i64 0, .int .i64 0, .int .i64 0, .int .i64 0, .int .i64 0, .int .i64 0, .int .i64 0, .int .i64 0, .int .u32 0, .int .u32 0, .int .u32 0, .int .u32 0, .int .u32 0, .int .u32 0, .int .u32 0, .int .u32 0, .int .u32 0, .int .u32 0, .int .u32 0, .int .u32 0, .int .u32 0, .int .u32 0, .int .u32 0, .int .u32 0, .int .u32 0, .int .u32 0, .int .u32 0, .int .u32 0, .int .u32 0, .int .u32 0, .int .u32 0, .int .u32 0, .int .u32 0, .int .u32 0, .int .u32 0, .int .u32 0, .int .u32 0, .int .u32 0, .int .u32 0, .int .i64 0, .int .i64 0, .int .i64 0, .int .i64 0, .int .i64 0, .int .i64 0, .int .i64 0, .int .i64 0, .int .i64 0, .int .i64 0, .int .i64 0, .int .i64 0, .int .i64 0, .int .i64 0, .int .i64 0, .int .i64 0, .int .i64 0, .int .i64 0, .int .i64 0, .int .i64 0, .int .i64 0, .int .i64 0, .int .i64 0, .int .i64 0, .int .i64 0, .int .i64 0, .int .i64 0, .int .i64 0, .int .i64 0, .int .i64 0, .int .i64 0, .int .i64 0, .int .i64 0, .int .i64 0, .int .i64 0, .int .i64 0, .int .i64 0, .int .i64 0, .int .i64 0, .int .i64 0, .int .i64 0, .int .i64 0, .int .i64 0, .int .i64 0, .int .i64 0, .int .i64 0, .int .i64 0, .int .i64 0, .int .i64 0, .int .i64 0, .int .i64 0, .int .i64 0, .int .i64 0, .int .i64 0, .int .i64 0, .int .i64 0, .int .i64 0, .int .i64 0, .int .i64 0, .int .i64 0, .int .i64 0, .int .i64 0] []), none⟩,
 ⟨some 2, .op (.box (.t 1)), none⟩,
 ⟨some 0, .op (.mov (.t 2)), none⟩] [0])
 (.ret))⟩

theorem lf204_ok : cFunc Tryz.prog Tryz.f204 [[], [0]] = some lf204 := by kernel_rfl

/-- (*squint/huff.Coder).Encode -/
def lf205 : LFunc := ⟨65, [.tmp 4],
 .seq (.region [⟨some 4, .op (.mov (.c (.slice none 0 0))), none⟩] [0, 1])
 (.seq (.region [⟨some 10, .op (.mov (.t 0)), none⟩,
 ⟨some 11, .call (.c (.func (.func 224) #[] #[])) [.t 10], none⟩] [0, 1])
 (.seq (.region [⟨some 5, .op (.mov (.c (.slice none 0 0))), none⟩] [0, 1, 5])
 (.seq (.region [⟨some 6, .op (.mov (.c (.int .u64 0))), none⟩,
 ⟨some 7, .op (.mov (.c (.int .i64 0))), none⟩] [0, 1, 5, 6, 7])
 (.seq (.seq (.region [⟨some 12, .op (.mov (.t 1)), none⟩,
 ⟨some 13, .op (.lenS (.t 12)), none⟩,
 ⟨some 14, .op (.mov (.c (.int .i64 0))), none⟩] [0, 5, 6, 7, 12, 13, 14])
 (.block 0 (.loop (.seq (.region [⟨some 15, .op (.bin .lss .basic (.t 14) (.t 13)), none⟩] [0, 5, 6, 7, 12, 13, 14, 15])
 (.seq (.cond (.t 15)
 (.skip)
 (.exit 0))
 (.seq (.block 1 (.seq (.region [⟨some 16, .op (.idxAddrS 1 (.t 12) (.t 14)), none⟩,
 ⟨some 17, .op (.load1 (.t 16)), none⟩,
 ⟨some 9, .op (.mov (.t 17)), none⟩] [0, 5, 6, 7, 9, 12, 13, 14])
 (.seq (.dregion [(⟨some 18, .op (.mov (.t 6)), none⟩, 0, 2),
 (⟨some 19, .op (.mov (.t 9)), none⟩, 0, 0),
 (⟨some 20, .op (.convInt .i64 (.t 19)), none⟩, 0, 0),
 (⟨some 21, .call (.c (.func (.func 225) #[] #[])) [.t 20], none⟩, 0, 1),
 (⟨some 22, .op (.bin .shl .basic (.t 18) (.t 21)), none⟩, 1, 2),
 (⟨some 23, .op (.mov (.t 0)), none⟩, 0, 2),
 (⟨some 24, .op (.mov (.t 9)), none⟩, 0, 2),
 (⟨some 25, .op (.nilCheck (.t 23)), none⟩, 0, 2),
 (⟨some 26, .op (.fieldAddr 4 (.t 25)), none⟩, 0, 2),
 (⟨some 27, .op (.idxAddrA 257 1 (.t 26) (.t 24)), none⟩, 0, 2),
 (⟨some 28, .op (.load1 (.t 27)), none⟩, 0, 2),
 (⟨some 29, .op (.convInt .u64 (.t 28)), none⟩, 0, 2),
 (⟨some 30, .op (.bin .or .basic (.t 22) (.t 29)), none⟩, 1, 2),
 (⟨some 31, .op (.mov (.t 7)), none⟩, 0, 2),
 (⟨some 32, .op (.mov (.t 9)), none⟩, 0, 1),
 (⟨some 33, .op (.convInt .i64 (.t 32)), none⟩, 0, 1),
 (⟨some 34, .call (.c (.func (.func 225) #[] #[])) [.t 33], none⟩, 1, 2),
 (⟨some 35, .op (.bin .add .basic (.t 31) (.t 34)), none⟩, 2, 2),
 (⟨some 6, .op (.mov (.t 30)), none⟩, 2, 2),
 (⟨some 7, .op (.mov (.t 35)), none⟩, 2, 2)] [0, 5, 6, 7, 12, 13, 14])
 (.block 2 (.loop (.seq (.seq (.region [⟨some 36, .op (.mov (.t 7)), none⟩,
 ⟨some 37, .op (.bin .geq .basic (.t 36) (.c (.int .i64 8))), none⟩] [0, 5, 6, 7, 12, 13, 14, 37])
 (.cond (.t 37)
 (.skip)
 (.exit 2)))
 (.seq (.block 3 (.region [⟨some 40, .op (.mov (.t 5)), none⟩,
 ⟨some 41, .op (.mov (.t 6)), none⟩,
 ⟨some 42, .op (.mov (.t 7)), none⟩,
 ⟨some 43, .op (.bin .sub .basic (.t 42) (.c (.int .i64 8))), none⟩,
 ⟨some 44, .op (.bin .shr .basic (.t 41) (.t 43)), none⟩,
 ⟨some 45, .op (.convInt .u8 (.t 44)), none⟩,
 ⟨some 46, .op (.buildSlice 1 1 [.int .u8 0] [(0, 1, .t 45)]), none⟩,
 ⟨some 47, .op (.append 1 1 (.t 40) (.t 46)), none⟩,
 ⟨some 5, .op (.mov (.t 47)), none⟩] [0, 5, 6, 7, 12, 13, 14]))
 (.region [⟨some 38, .op (.mov (.t 7)), none⟩,
 ⟨some 39, .op (.bin .sub .basic (.t 38) (.c (.int .i64 8))), none⟩,
 ⟨some 7, .op (.mov (.t 39)), none⟩] [0, 5, 6, 7, 12, 13, 14]))))))))
 (.region [⟨some 48, .op (.bin .add .basic (.t 14) (.c (.int .i64 1))), none⟩,
 ⟨some 14, .op (.mov (.t 48)), none⟩] [0, 5, 6, 7, 12, 13, 14])))))))
 (.seq (.seq (.region [⟨some 49, .op (.mov (.t 7)), none⟩,
 ⟨some 50, .op (.bin .gtr .basic (.t 49) (.c (.int .i64 0))), none⟩] [5, 6, 7, 50])
 (.cond (.t 50)
 (.dregion [(⟨some 51, .op (.mov (.t 5)), none⟩, 0, 1),
 (⟨some 52, .op (.mov (.t 6)), none⟩, 0, 0),
 (⟨some 53, .op (.mov (.t 7)), none⟩, 0, 0),
 (⟨some 54, .op (.bin .sub .basic (.c (.int .i64 8)) (.t 53)), none⟩, 0, 0),
 (⟨some 55, .op (.bin .shl .basic (.t 52) (.t 54)), none⟩, 0, 0),
 (⟨some 56, .op (.convInt .u8 (.t 55)), none⟩, 0, 0),
 (⟨some 57, .op (.mov (.t 7)), none⟩, 0, 0),
 (⟨some 58, .op (.bin .sub .basic (.c (.int .i64 8)) (.t 57)), none⟩, 0, 0),
 (⟨some 59, .op (.bin .shl .basic (.c (.int .u8 1)) (.t 58)), none⟩, 0, 0),
 (⟨some 60, .op (.bin .sub .basic (.t 59) (.c (.int .u8 1))), none⟩, 0, 0),
 (⟨some 61, .op (.bin .or .basic (.t 56) (.t 60)), none⟩, 0, 0),
 (⟨some 62, .op (.buildSlice 1 1 [.int .u8 0] [(0, 1, .t 61)]), none⟩, 0, 1),
 (⟨some 63, .op (.append 1 1 (.t 51) (.t 62)), none⟩, 1, 2),
 (⟨some 5, .op (.mov (.t 63)), none⟩, 2, 2)] [5])
 (.skip)))
 (.seq (.region [⟨some 64, .op (.mov (.t 5)), none⟩,
 ⟨some 4, .op (.mov (.t 64)), none⟩] [4])
 (.ret)))))))⟩

theorem lf205_ok : cFunc Tryz.prog Tryz.f205 [[0, 1], [0, 1], [0, 1, 5], [0, 1, 5, 6, 7], [0, 5, 6, 7, 12, 13, 14], [0, 5, 6, 7, 12, 13, 14, 15], [0, 5, 6, 7, 9, 12, 13, 14], [0, 5, 6, 7, 12, 13, 14], [0, 5, 6, 7, 12, 13, 14, 37], [0, 5, 6, 7, 12, 13, 14], [0, 5, 6, 7, 12, 13, 14], [0, 5, 6, 7, 12, 13, 14], [5, 6, 7, 50], [5], [4]] = some lf205 := by kernel_rfl

/-- slices.AppendSeq[[]int,int] -/
def lf206 : LFunc := ⟨13, [.tmp 4],
 .seq (.region [⟨some 2, .op (.box (.t 0)), none⟩,
 ⟨some 4, .op (.mov (.c (.slice none 0 0))), none⟩] [1])
 (.seq (.seq (.region [⟨some 6, .op (.mov (.t 1)), none⟩] [])
 (.block 0 (.bad)))
 (.seq (.region [⟨some 12, .op (.load1 (.t 2)), none⟩,
 ⟨some 4, .op (.mov (.t 12)), none⟩] [4])
 (.ret)))⟩

theorem lf206_ok : cFunc Tryz.prog Tryz.f206 [[1], [], [4]] = some lf206 := by kernel_rfl

/-- slices.DeleteFunc[[]squint/outbound.note,squint/outbound.note] -/
def lf214 : LFunc := ⟨42, [.tmp 4],
 .seq (.region [⟨some 4, .op (.mov (.c (.slice none 0 0))), none⟩] [0, 1])
 (.seq (.region [⟨some 8, .op (.mov (.t 0)), none⟩,
 ⟨some 9, .op (.mov (.t 1)), none⟩,
 ⟨some 10, .call (.c (.func (.func 240) #[] #[])) [.t 8, .t 9], none⟩,
 ⟨some 5, .op (.mov (.t 10)), none⟩] [0, 1, 5])
 (.seq (.seq (.region [⟨some 11, .op (.mov (.t 5)), none⟩,
 ⟨some 12, .op (.bin .eql .basic (.t 11) (.c (.int .i64 (-1)))), none⟩] [0, 1, 5, 12])
 (.cond (.t 12)
 (.seq (.region [⟨some 13, .op (.mov (.t 0)), none⟩,
 ⟨some 4, .op (.mov (.t 13)), none⟩] [4])
 (.ret))
 (.skip)))
 (.seq (.seq (.region [⟨some 14, .op (.mov (.t 5)), none⟩,
 ⟨some 15, .op (.bin .add .basic (.t 14) (.c (.int .i64 1))), none⟩,
 ⟨some 6, .op (.mov (.t 15)), none⟩] [0, 1, 5, 6])
 (.block 0 (.loop (.seq (.seq (.region [⟨some 16, .op (.mov (.t 6)), none⟩,
 ⟨some 17, .op (.mov (.t 0)), none⟩,
 ⟨some 18, .op (.lenS (.t 17)), none⟩,
 ⟨some 19, .op (.bin .lss .basic (.t 16) (.t 18)), none⟩] [0, 1, 5, 6, 19])
 (.cond (.t 19)
 (.skip)
 (.exit 0)))
 (.seq (.block 1 (.seq (.region [⟨some 22, .op (.mov (.t 0)), none⟩,
 ⟨some 23, .op (.mov (.t 6)), none⟩,
 ⟨some 24, .op (.idxAddrS 2 (.t 22) (.t 23)), none⟩,
 ⟨some 25, .op (.loadN 2 (.t 24)), none⟩,
 ⟨some 7, .op (.alloc [.int .i64 0, .int .i64 0]), none⟩,
 ⟨none, .op (.store 2 (.t 7) (.t 25)), none⟩] [0, 1, 5, 6, 7])
 (.seq (.region [⟨some 26, .op (.mov (.t 1)), none⟩,
 ⟨some 27, .op (.loadN 2 (.t 7)), none⟩,
 ⟨some 28, .call (.t 26) [.t 27], none⟩,
 ⟨some 29, .op (.un .not (.t 28)), none⟩] [0, 1, 5, 6, 7, 29])
 (.cond (.t 29)
 (.seq (.region [⟨some 30, .op (.mov (.t 0)), none⟩,
 ⟨some 31, .op (.mov (.t 5)), none⟩,
 ⟨some 32, .op (.loadN 2 (.t 7)), none⟩,
 ⟨some 33, .op (.idxAddrS 2 (.t 30) (.t 31)), none⟩,
 ⟨none, .op (.store 2 (.t 33) (.t 32)), none⟩] [0, 1, 5, 6])
 (.region [⟨some 34, .op (.mov (.t 5)), none⟩,
 ⟨some 35, .op (.bin .add .basic (.t 34) (.c (.int .i64 1))), none⟩,
 ⟨some 5, .op (.mov (.t 35)), none⟩] [0, 1, 5, 6]))
 (.skip)))))
 (.region [⟨some 20, .op (.mov (.t 6)), none⟩,
 ⟨some 21, .op (.bin .add .basic (.t 20) (.c (.int .i64 1))), none⟩,
 ⟨some 6, .op (.mov (.t 21)), none⟩] [0, 1, 5, 6]))))))
 (.seq (.region [⟨some 36, .op (.mov (.t 0)), none⟩,
 ⟨some 37, .op (.mov (.t 5)), none⟩,
 ⟨some 38, .op (.slice 2 (.t 36) (some (.t 37)) none none), none⟩,
 ⟨none, .op (.clearS [.int .i64 0, .int .i64 0] (.t 38)), none⟩] [0, 5])
 (.seq (.region [⟨some 39, .op (.mov (.t 0)), none⟩,
 ⟨some 40, .op (.mov (.t 5)), none⟩,
 ⟨some 41, .op (.slice 2 (.t 39) none (some (.t 40)) none), none⟩,
 ⟨some 4, .op (.mov (.t 41)), none⟩] [4])
 (.ret))))))⟩

theorem lf214_ok : cFunc Tryz.prog Tryz.f214 [[0, 1], [0, 1, 5], [0, 1, 5, 12], [4], [0, 1, 5, 6], [0, 1, 5, 6, 19], [0, 1, 5, 6, 7], [0, 1, 5, 6, 7, 29], [0, 1, 5, 6], [0, 1, 5, 6], [0, 1, 5, 6], [0, 5], [4]] = some lf214 := by kernel_rfl

/-- squint/prefix.Mark -/
def lf217 : LFunc := ⟨20, [.tmp 4, .tmp 5],
 .seq (.region [⟨some 4, .op (.mov (.c (.int .i64 0))), none⟩,
 ⟨some 5, .op (.mov (.c (.bool false))), none⟩] [0, 1])
 (.seq (.seq (.region [⟨some 6, .op (.mov (.t 1)), none⟩,
 ⟨some 7, .call (.c (.func (.func 158) #[] #[])) [.t 6], none⟩,
 ⟨some 8, .op (.un .not (.t 7)), none⟩,
 ⟨some 9, .op (.mov (.t 8)), none⟩,
 ⟨some 10, .op (.mov (.t 0)), some (9, false)⟩,
 ⟨some 11, .op (.lenS (.t 10)), some (9, false)⟩,
 ⟨some 12, .op (.bin .eql .basic (.t 11) (.c (.int .i64 0))), some (9, false)⟩,
 ⟨some 13, .pick (.t 9) (.c (.bool true)) (.t 12), none⟩] [0, 1, 13])
 (.cond (.t 13)
 (.seq (.region [⟨some 4, .op (.mov (.c (.int .i64 0))), none⟩,
 ⟨some 5, .op (.mov (.c (.bool false))), none⟩] [4, 5])
 (.ret))
 (.skip)))
 (.seq (.region [⟨some 14, .op (.mov (.t 0)), none⟩,
 ⟨some 15, .op (.idxAddrS 1 (.t 14) (.c (.int .i64 0))), none⟩,
 ⟨some 16, .op (.load1 (.t 15)), none⟩,
 ⟨some 17, .op (.convInt .i64 (.t 16)), none⟩,
 ⟨some 18, .op (.mov (.t 1)), none⟩,
 ⟨some 19, .op (.bin .shr .basic (.t 17) (.t 18)), none⟩,
 ⟨some 4, .op (.mov (.t 19)), none⟩,
 ⟨some 5, .op (.mov (.c (.bool true))), none⟩] [4, 5])
 (.ret)))⟩

theorem lf217_ok : cFunc Tryz.prog Tryz.f217 [[0, 1], [0, 1, 13], [4, 5], [4, 5]] = some lf217 := by kernel_rfl

/-- squint/huff.Decode -/
def lf218 : LFunc := ⟨9, [.tmp 2, .tmp 3],
 .seq (.region [⟨some 2, .op (.mov (.c (.slice none 0 0))), none⟩,
 ⟨some 3, .op (.mov (.c (.int .i64 0))), none⟩] [0])
 (.seq (.region [⟨some 4, .call (.c (.func (.func 204) #[] #[])) [], none⟩,
 ⟨some 5, .op (.mov (.t 0)), none⟩,
 ⟨some 6, .call (.c (.func (.func 241) #[] #[])) [.t 4, .t 5], none⟩,
 ⟨some 7, .op (.extract 0 (.t 6)), none⟩,
 ⟨some 8, .op (.extract 1 (.t 6)), none⟩,
 ⟨some 2, .op (.mov (.t 7)), none⟩,
 ⟨some 3, .op (.mov (.t 8)), none⟩] [2, 3])
 (.ret))⟩

theorem lf218_ok : cFunc Tryz.prog Tryz.f218 [[0], [2, 3]] = some lf218 := by kernel_rfl

/-- (*squint/huff.Coder).get -/
def lf224 : LFunc := ⟨9, [.tmp 2],
 .seq (.region [⟨some 1, .op (.box (.t 0)), none⟩,
 ⟨some 2, .op (.mov (.c (.pointer none))), none⟩] [1])
 (.seq (.region [⟨some 3, .op (.load1 (.t 1)), none⟩,
 ⟨some 4, .op (.nilCheck (.t 3)), none⟩,
 ⟨some 5, .op (.fieldAddr 0 (.t 4)), none⟩,
 ⟨some 6, .op (.makeFunc (.func 247) [.t 1]), none⟩,
 ⟨some 7, .call (.c (.func (.func 246) #[] #[])) [.t 5, .t 6], none⟩] [1])
 (.seq (.region [⟨some 8, .op (.load1 (.t 1)), none⟩,
 ⟨some 2, .op (.mov (.t 8)), none⟩] [2])
 (.ret)))⟩

theorem lf224_ok : cFunc Tryz.prog Tryz.f224 [[1], [1], [2]] = some lf224 := by kernel_rfl

/-- squint/huff.long -/
def lf225 : LFunc := ⟨7, [.tmp 2],
 .seq (.region [⟨some 2, .op (.mov (.c (.int .i64 0))), none⟩] [0])
 (.seq (.region [⟨some 3, .op (.mov (.t 0)), none⟩,
 ⟨some 4, .op (.idxStr (.c (.string ⟨#[61, 71, 76, 76, 76, 76, 76, 76, 76, 72, 78, 76, 76, 78, 76, 76, 76, 76, 76, 76, 76, 76, 78, 76, 76, 76, 76, 76, 76, 76, 76, 76, 54, 58, 58, 60, 61, 54, 56, 59, 58, 58, 56, 59, 56, 54, 54, 54, 53, 53, 53, 54, 54, 54, 54, 54, 54, 54, 55, 56, 63, 54, 60, 58, 61, 54, 55, 55, 55, 55, 55, 55, 55, 55, 55, 55, 55, 55, 55, 55, 55, 55, 55, 55, 55, 55, 55, 55, 56, 55, 56, 61, 67, 61, 62, 54, 63, 53, 54, 53, 54, 53, 54, 54, 54, 53, 55, 55, 54, 54, 54, 53, 54, 55, 54, 53, 53, 54, 55, 55, 55, 55, 55, 63, 59, 62, 61, 76, 68, 70, 68, 68, 70, 70, 70, 71, 70, 71, 71, 71, 71, 71, 72, 71, 72, 72, 70, 71, 72, 71, 71, 71, 71, 69, 70, 71, 70, 71, 71, 72, 70, 69, 68, 70, 70, 71, 71, 69, 71, 70, 70, 72, 69, 70, 71, 71, 69, 69, 70, 69, 71, 70, 71, 71, 68, 70, 70, 70, 71, 70, 70, 71, 74, 74, 68, 67, 70, 71, 70, 73, 74, 74, 74, 75, 75, 74, 72, 73, 67, 69, 74, 75, 75, 74, 75, 72, 69, 69, 74, 74, 76, 75, 75, 75, 68, 72, 68, 69, 70, 69, 69, 71, 70, 70, 73, 73, 72, 72, 74, 71, 74, 75, 74, 74, 75, 75, 75, 75, 75, 76, 75, 75, 75, 75, 75, 74, 78]⟩)) (.t 3)), none⟩,
 ⟨some 5, .op (.bin .sub .basic (.t 4) (.c (.int .u8 48))), none⟩,
 ⟨some 6, .op (.convInt .i64 (.t 5)), none⟩,
 ⟨some 2, .op (.mov (.t 6)), none⟩] [2])
 (.ret))⟩

theorem lf225_ok : cFunc Tryz.prog Tryz.f225 [[0], [2]] = some lf225 := by kernel_rfl

/-- cmp.Less[int] -/
def lf232 : LFunc := ⟨17, [.tmp 4],
 .seq (.region [⟨some 4, .op (.mov (.c (.bool false))), none⟩] [0, 1])
 (.seq (.region [⟨some 5, .op (.mov (.t 0)), none⟩,
 ⟨some 6, .call (.c (.func (.func 256) #[] #[])) [.t 5], none⟩,
 ⟨some 7, .op (.mov (.t 6)), none⟩,
 ⟨some 8, .op (.mov (.t 1)), some (7, true)⟩,
 ⟨some 9, .call (.c (.func (.func 256) #[] #[])) [.t 8], some (7, true)⟩,
 ⟨some 10, .op (.un .not (.t 9)), some (7, true)⟩,
 ⟨some 11, .pick (.t 7) (.t 10) (.c (.bool false)), none⟩,
 ⟨some 12, .op (.mov (.t 11)), none⟩,
 ⟨some 13, .op (.mov (.t 0)), some (12, false)⟩,
 ⟨some 14, .op (.mov (.t 1)), some (12, false)⟩,
 ⟨some 15, .op (.bin .lss .basic (.t 13) (.t 14)), some (12, false)⟩,
 ⟨some 16, .pick (.t 12) (.c (.bool true)) (.t 15), none⟩,
 ⟨some 4, .op (.mov (.t 16)), none⟩] [4])
 (.ret))⟩

theorem lf232_ok : cFunc Tryz.prog Tryz.f232 [[0, 1], [4]] = some lf232 := by kernel_rfl

/-- slices.BinarySearchFunc[[]squint/reg.one,squint/reg.one,int] -/
def lf237 : LFunc := ⟨49, [.tmp 6, .tmp 7],
 .seq (.region [⟨some 6, .op (.mov (.c (.int .i64 0))), none⟩,
 ⟨some 7, .op (.mov (.c (.bool false))), none⟩] [0, 1, 2])
 (.seq (.region [⟨some 12, .op (.mov (.t 0)), none⟩,
 ⟨some 13, .op (.lenS (.t 12)), none⟩,
 ⟨some 8, .op (.mov (.t 13)), none⟩] [0, 1, 2, 8])
 (.seq (.region [⟨some 14, .op (.mov (.t 8)), none⟩,
 ⟨some 9, .op (.mov (.c (.int .i64 0))), none⟩,
 ⟨some 10, .op (.mov (.t 14)), none⟩] [0, 1, 2, 8, 9, 10])
 (.seq (.block 0 (.loop (.seq (.seq (.region [⟨some 15, .op (.mov (.t 9)), none⟩,
 ⟨some 16, .op (.mov (.t 10)), none⟩,
 ⟨some 17, .op (.bin .lss .basic (.t 15) (.t 16)), none⟩] [0, 1, 2, 8, 9, 10, 17])
 (.cond (.t 17)
 (.skip)
 (.exit 0)))
 (.block 1 (.seq (.region [⟨some 18, .op (.mov (.t 9)), none⟩,
 ⟨some 19, .op (.mov (.t 10)), none⟩,
 ⟨some 20, .op (.bin .add .basic (.t 18) (.t 19)), none⟩,
 ⟨some 21, .op (.convInt .u64 (.t 20)), none⟩,
 ⟨some 22, .op (.bin .shr .basic (.t 21) (.c (.int .u64 1))), none⟩,
 ⟨some 23, .op (.convInt .i64 (.t 22)), none⟩,
 ⟨some 11, .op (.mov (.t 23)), none⟩] [0, 1, 2, 8, 9, 10, 11])
 (.seq (.region [⟨some 24, .op (.mov (.t 2)), none⟩,
 ⟨some 25, .op (.mov (.t 0)), none⟩,
 ⟨some 26, .op (.mov (.t 11)), none⟩,
 ⟨some 27, .op (.idxAddrS 11 (.t 25) (.t 26)), none⟩,
 ⟨some 28, .op (.loadN 11 (.t 27)), none⟩,
 ⟨some 29, .op (.mov (.t 1)), none⟩,
 ⟨some 30, .call (.t 24) [.t 28, .t 29], none⟩,
 ⟨some 31, .op (.bin .lss .basic (.t 30) (.c (.int .i64 0))), none⟩] [0, 1, 2, 8, 9, 10, 11, 31])
 (.cond (.t 31)
 (.region [⟨some 32, .op (.mov (.t 11)), none⟩,
 ⟨some 33, .op (.bin .add .basic (.t 32) (.c (.int .i64 1))), none⟩,
 ⟨some 9, .op (.mov (.t 33)), none⟩] [0, 1, 2, 8, 9, 10])
 (.region [⟨some 34, .op (.mov (.t 11)), none⟩,
 ⟨some 10, .op (.mov (.t 34)), none⟩] [0, 1, 2, 8, 9, 10]))))))))
 (.seq (.region [⟨some 35, .op (.mov (.t 9)), none⟩,
 ⟨some 36, .op (.mov (.t 9)), none⟩,
 ⟨some 37, .op (.mov (.t 8)), none⟩,
 ⟨some 38, .op (.bin .lss .basic (.t 36) (.t 37)), none⟩,
 ⟨some 39, .op (.mov (.t 38)), none⟩,
 ⟨some 40, .op (.mov (.t 2)), some (39, true)⟩,
 ⟨some 41, .op (.mov (.t 0)), some (39, true)⟩,
 ⟨some 42, .op (.mov (.t 9)), some (39, true)⟩,
 ⟨some 43, .op (.idxAddrS 11 (.t 41) (.t 42)), some (39, true)⟩,
 ⟨some 44, .op (.loadN 11 (.t 43)), some (39, true)⟩,
 ⟨some 45, .op (.mov (.t 1)), some (39, true)⟩,
 ⟨some 46, .call (.t 40) [.t 44, .t 45], some (39, true)⟩,
 ⟨some 47, .op (.bin .eql .basic (.t 46) (.c (.int .i64 0))), some (39, true)⟩,
 ⟨some 48, .pick (.t 39) (.t 47) (.c (.bool false)), none⟩,
 ⟨some 6, .op (.mov (.t 35)), none⟩,
 ⟨some 7, .op (.mov (.t 48)), none⟩] [6, 7])
 (.ret)))))⟩

theorem lf237_ok : cFunc Tryz.prog Tryz.f237 [[0, 1, 2], [0, 1, 2, 8], [0, 1, 2, 8, 9, 10], [0, 1, 2, 8, 9, 10, 17], [0, 1, 2, 8, 9, 10, 11], [0, 1, 2, 8, 9, 10, 11, 31], [0, 1, 2, 8, 9, 10], [0, 1, 2, 8, 9, 10], [6, 7]] = some lf237 := by kernel_rfl

/-- cmp.Compare[int] -/
def lf239 : LFunc := ⟨20, [.tmp 4],
 .seq (.region [⟨some 4, .op (.mov (.c (.int .i64 0))), none⟩] [0, 1])
 (.seq (.region [⟨some 7, .op (.mov (.t 0)), none⟩,
 ⟨some 8, .call (.c (.func (.func 256) #[] #[])) [.t 7], none⟩,
 ⟨some 5, .op (.mov (.t 8)), none⟩] [0, 1, 5])
 (.seq (.region [⟨some 9, .op (.mov (.t 1)), none⟩,
 ⟨some 10, .call (.c (.func (.func 256) #[] #[])) [.t 9], none⟩,
 ⟨some 6, .op (.mov (.t 10)), none⟩] [0, 1, 5, 6])
 (.seq (.seq (.region [⟨some 11, .op (.mov (.t 5)), none⟩] [0, 1, 6, 11])
 (.cond (.t 11)
 (.seq (.seq (.region [⟨some 12, .op (.mov (.t 6)), none⟩] [12])
 (.cond (.t 12)
 (.seq (.region [⟨some 4, .op (.mov (.c (.int .i64 0))), none⟩] [4])
 (.ret))
 (.skip)))
 (.seq (.region [⟨some 4, .op (.mov (.c (.int .i64 (-1)))), none⟩] [4])
 (.ret)))
 (.skip)))
 (.seq (.seq (.region [⟨some 13, .op (.mov (.t 6)), none⟩] [0, 1, 13])
 (.cond (.t 13)
 (.seq (.region [⟨some 4, .op (.mov (.c (.int .i64 1))), none⟩] [4])
 (.ret))
 (.skip)))
 (.seq (.seq (.region [⟨some 14, .op (.mov (.t 0)), none⟩,
 ⟨some 15, .op (.mov (.t 1)), none⟩,
 ⟨some 16, .op (.bin .lss .basic (.t 14) (.t 15)), none⟩] [0, 1, 16])
 (.cond (.t 16)
 (.seq (.region [⟨some 4, .op (.mov (.c (.int .i64 (-1)))), none⟩] [4])
 (.ret))
 (.skip)))
 (.seq (.seq (.region [⟨some 17, .op (.mov (.t 0)), none⟩,
 ⟨some 18, .op (.mov (.t 1)), none⟩,
 ⟨some 19, .op (.bin .gtr .basic (.t 17) (.t 18)), none⟩] [19])
 (.cond (.t 19)
 (.seq (.region [⟨some 4, .op (.mov (.c (.int .i64 1))), none⟩] [4])
 (.ret))
 (.skip)))
 (.seq (.region [⟨some 4, .op (.mov (.c (.int .i64 0))), none⟩] [4])
 (.ret))))))))⟩

theorem lf239_ok : cFunc Tryz.prog Tryz.f239 [[0, 1], [0, 1, 5], [0, 1, 5, 6], [0, 1, 6, 11], [12], [4], [4], [0, 1, 13], [4], [0, 1, 16], [4], [19], [4], [4]] = some lf239 := by kernel_rfl

/-- slices.IndexFunc[[]squint/outbound.note,squint/outbound.note] -/
def lf240 : LFunc := ⟨19, [.tmp 4],
 .seq (.region [⟨some 4, .op (.mov (.c (.int .i64 0))), none⟩] [0, 1])
 (.seq (.seq (.region [⟨some 6, .op (.mov (.t 0)), none⟩,
 ⟨some 7, .op (.lenS (.t 6)), none⟩,
 ⟨some 8, .op (.mov (.c (.int .i64 0))), none⟩] [0, 1, 7, 8])
 (.block 0 (.loop (.seq (.region [⟨some 9, .op (.bin .lss .basic (.t 8) (.t 7)), none⟩] [0, 1, 7, 8, 9])
 (.seq (.cond (.t 9)
 (.skip)
 (.exit 0))
 (.seq (.block 1 (.seq (.region [⟨some 10, .op (.mov (.t 8)), none⟩,
 ⟨some 5, .op (.mov (.t 10)), none⟩] [0, 1, 5, 7, 8])
 (.seq (.region [⟨some 11, .op (.mov (.t 1)), none⟩,
 ⟨some 12, .op (.mov (.t 0)), none⟩,
 ⟨some 13, .op (.mov (.t 5)), none⟩,
 ⟨some 14, .op (.idxAddrS 2 (.t 12) (.t 13)), none⟩,
 ⟨some 15, .op (.loadN 2 (.t 14)), none⟩,
 ⟨some 16, .call (.t 11) [.t 15], none⟩] [0, 1, 5, 7, 8, 16])
 (.cond (.t 16)
 (.seq (.region [⟨some 17, .op (.mov (.t 5)), none⟩,
 ⟨some 4, .op (.mov (.t 17)), none⟩] [4])
 (.ret))
 (.skip)))))
 (.region [⟨some 18, .op (.bin .add .basic (.t 8) (.c (.int .i64 1))), none⟩,
 ⟨some 8, .op (.mov (.t 18)), none⟩] [0, 1, 7, 8])))))))
 (.seq (.region [⟨some 4, .op (.mov (.c (.int .i64 (-1)))), none⟩] [4])
 (.ret)))⟩

theorem lf240_ok : cFunc Tryz.prog Tryz.f240 [[0, 1], [0, 1, 7, 8], [0, 1, 7, 8, 9], [0, 1, 5, 7, 8], [0, 1, 5, 7, 8, 16], [4], [0, 1, 7, 8], [4]] = some lf240 := by kernel_rfl

/-- (*squint/huff.Coder).Decode -/
def lf241 : LFunc := ⟨64, [.tmp 4, .tmp 5],
 .seq (.region [⟨some 4, .op (.mov (.c (.slice none 0 0))), none⟩,
 ⟨some 5, .op (.mov (.c (.int .i64 0))), none⟩] [0, 1])
 (.seq (.region [⟨some 15, .op (.mov (.t 0)), none⟩,
 ⟨some 16, .call (.c (.func (.func 224) #[] #[])) [.t 15], none⟩] [0, 1])
 (.seq (.region [⟨some 6, .op (.mov (.c (.slice none 0 0))), none⟩] [0, 1, 6])
 (.seq (.region [⟨some 7, .op (.mov (.c (.int .u32 0))), none⟩,
 ⟨some 8, .op (.mov (.c (.int .i64 0))), none⟩,
 ⟨some 9, .op (.mov (.c (.bool true))), none⟩] [0, 1, 6, 7, 8, 9])
 (.seq (.seq (.region [⟨some 17, .op (.mov (.t 1)), none⟩,
 ⟨some 18, .op (.lenS (.t 17)), none⟩,
 ⟨some 19, .op (.mov (.c (.int .i64 0))), none⟩] [0, 6, 7, 8, 9, 17, 18, 19])
 (.block 0 (.loop (.seq (.region [⟨some 20, .op (.bin .lss .basic (.t 19) (.t 18)), none⟩] [0, 6, 7, 8, 9, 17, 18, 19, 20])
 (.seq (.cond (.t 20)
 (.skip)
 (.exit 0))
 (.seq (.block 1 (.seq (.region [⟨some 21, .op (.idxAddrS 1 (.t 17) (.t 19)), none⟩,
 ⟨some 22, .op (.load1 (.t 21)), none⟩,
 ⟨some 11, .op (.mov (.t 22)), none⟩] [0, 6, 7, 8, 9, 11, 17, 18, 19])
 (.seq (.region [⟨some 12, .op (.mov (.c (.int .i64 7))), none⟩] [0, 6, 7, 8, 9, 11, 12, 17, 18, 19])
 (.block 2 (.loop (.seq (.seq (.region [⟨some 23, .op (.mov (.t 12)), none⟩,
 ⟨some 24, .op (.bin .geq .basic (.t 23) (.c (.int .i64 0))), none⟩] [0, 6, 7, 8, 9, 11, 12, 17, 18, 19, 24])
 (.cond (.t 24)
 (.skip)
 (.exit 2)))
 (.seq (.block 3 (.seq (.region [⟨some 27, .op (.mov (.t 11)), none⟩,
 ⟨some 28, .op (.mov (.t 12)), none⟩,
 ⟨some 29, .op (.bin .shr .basic (.t 27) (.t 28)), none⟩,
 ⟨some 30, .op (.convInt .u32 (.t 29)), none⟩,
 ⟨some 31, .op (.bin .and .basic (.t 30) (.c (.int .u32 1))), none⟩,
 ⟨some 13, .op (.mov (.t 31)), none⟩] [0, 6, 7, 8, 9, 11, 12, 13, 17, 18, 19])
 (.seq (.region [⟨some 32, .op (.mov (.t 7)), none⟩,
 ⟨some 33, .op (.bin .shl .basic (.t 32) (.c (.int .u64 1))), none⟩,
 ⟨some 34, .op (.mov (.t 13)), none⟩,
 ⟨some 35, .op (.bin .or .basic (.t 33) (.t 34)), none⟩,
 ⟨some 36, .op (.mov (.t 8)), none⟩,
 ⟨some 37, .op (.bin .add .basic (.t 36) (.c (.int .i64 1))), none⟩,
 ⟨some 38, .op (.mov (.t 9)), none⟩,
 ⟨some 39, .op (.mov (.t 38)), none⟩,
 ⟨some 40, .op (.mov (.t 13)), some (39, true)⟩,
 ⟨some 41, .op (.bin .eql .basic (.t 40) (.c (.int .u32 1))), some (39, true)⟩,
 ⟨some 42, .pick (.t 39) (.t 41) (.c (.bool false)), none⟩,
 ⟨some 7, .op (.mov (.t 35)), none⟩,
 ⟨some 8, .op (.mov (.t 37)), none⟩,
 ⟨some 9, .op (.mov (.t 42)), none⟩] [0, 6, 7, 8, 9, 11, 12, 17, 18, 19])
 (.seq (.region [⟨some 43, .op (.mov (.t 0)), none⟩,
 ⟨some 44, .op (.mov (.t 7)), none⟩,
 ⟨some 45, .op (.mov (.t 8)), none⟩,
 ⟨some 46, .call (.c (.func (.func 257) #[] #[])) [.t 43, .t 44, .t 45], none⟩,
 ⟨some 14, .op (.mov (.t 46)), none⟩] [0, 6, 7, 8, 9, 11, 12, 14, 17, 18, 19])
 (.seq (.seq (.region [⟨some 47, .op (.mov (.t 14)), none⟩,
 ⟨some 48, .op (.bin .lss .basic (.t 47) (.c (.int .i64 0))), none⟩] [0, 6, 7, 8, 9, 11, 12, 14, 17, 18, 19, 48])
 (.cond (.t 48)
 (.exit 3)
 (.skip)))
 (.seq (.seq (.region [⟨some 49, .op (.mov (.t 14)), none⟩,
 ⟨some 50, .op (.bin .eql .basic (.t 49) (.c (.int .i64 256))), none⟩] [0, 6, 11, 12, 14, 17, 18, 19, 50])
 (.cond (.t 50)
 (.seq (.region [⟨some 4, .op (.mov (.c (.slice none 0 0))), none⟩,
 ⟨some 5, .op (.mov (.c (.int .i64 21))), none⟩] [4, 5])
 (.ret))
 (.skip)))
 (.seq (.region [⟨some 51, .op (.mov (.t 6)), none⟩,
 ⟨some 52, .op (.mov (.t 14)), none⟩,
 ⟨some 53, .op (.convInt .u8 (.t 52)), none⟩,
 ⟨some 54, .op (.buildSlice 1 1 [.int .u8 0] [(0, 1, .t 53)]), none⟩,
 ⟨some 55, .op (.append 1 1 (.t 51) (.t 54)), none⟩,
 ⟨some 6, .op (.mov (.t 55)), none⟩] [0, 6, 11, 12, 17, 18, 19])
 (.region [⟨some 7, .op (.mov (.c (.int .u32 0))), none⟩,
 ⟨some 8, .op (.mov (.c (.int .i64 0))), none⟩,
 ⟨some 9, .op (.mov (.c (.bool true))), none⟩] [0, 6, 7, 8, 9, 11, 12, 17, 18, 19]))))))))
 (.region [⟨some 25, .op (.mov (.t 12)), none⟩,
 ⟨some 26, .op (.bin .sub .basic (.t 25) (.c (.int .i64 1))), none⟩,
 ⟨some 12, .op (.mov (.t 26)), none⟩] [0, 6, 7, 8, 9, 11, 12, 17, 18, 19]))))))))
 (.region [⟨some 56, .op (.bin .add .basic (.t 19) (.c (.int .i64 1))), none⟩,
 ⟨some 19, .op (.mov (.t 56)), none⟩] [0, 6, 7, 8, 9, 17, 18, 19])))))))
 (.seq (.seq (.region [⟨some 57, .op (.mov (.t 8)), none⟩,
 ⟨some 58, .op (.bin .gtr .basic (.t 57) (.c (.int .i64 7))), none⟩,
 ⟨some 59, .op (.mov (.t 58)), none⟩,
 ⟨some 60, .op (.mov (.t 9)), some (59, false)⟩,
 ⟨some 61, .op (.un .not (.t 60)), some (59, false)⟩,
 ⟨some 62, .pick (.t 59) (.c (.bool true)) (.t 61), none⟩] [6, 62])
 (.cond (.t 62)
 (.seq (.region [⟨some 4, .op (.mov (.c (.slice none 0 0))), none⟩,
 ⟨some 5, .op (.mov (.c (.int .i64 20))), none⟩] [4, 5])
 (.ret))
 (.skip)))
 (.seq (.region [⟨some 63, .op (.mov (.t 6)), none⟩,
 ⟨some 4, .op (.mov (.t 63)), none⟩,
 ⟨some 5, .op (.mov (.c (.int .i64 0))), none⟩] [4, 5])
 (.ret)))))))⟩

theorem lf241_ok : cFunc Tryz.prog Tryz.f241 [[0, 1], [0, 1], [0, 1, 6], [0, 1, 6, 7, 8, 9], [0, 6, 7, 8, 9, 17, 18, 19], [0, 6, 7, 8, 9, 17, 18, 19, 20], [0, 6, 7, 8, 9, 11, 17, 18, 19], [0, 6, 7, 8, 9, 11, 12, 17, 18, 19], [0, 6, 7, 8, 9, 11, 12, 17, 18, 19, 24], [0, 6, 7, 8, 9, 11, 12, 13, 17, 18, 19], [0, 6, 7, 8, 9, 11, 12, 17, 18, 19], [0, 6, 7, 8, 9, 11, 12, 14, 17, 18, 19], [0, 6, 7, 8, 9, 11, 12, 14, 17, 18, 19, 48], [0, 6, 11, 12, 14, 17, 18, 19, 50], [4, 5], [0, 6, 11, 12, 17, 18, 19], [0, 6, 7, 8, 9, 11, 12, 17, 18, 19], [0, 6, 7, 8, 9, 11, 12, 17, 18, 19], [0, 6, 7, 8, 9, 17, 18, 19], [6, 62], [4, 5], [4, 5]] = some lf241 := by kernel_rfl

/-- (*squint/huff.Coder).get$1 -/
def lf247 : LFunc := ⟨86, [],
 .seq (.seq (.region [⟨some 7, .op (.mov (.c (.int .i64 0))), none⟩] [0, 7])
 (.block 0 (.loop (.seq (.region [⟨some 8, .op (.bin .lss .basic (.t 7) (.c (.int .i64 257))), none⟩] [0, 7, 8])
 (.seq (.cond (.t 8)
 (.skip)
 (.exit 0))
 (.seq (.block 1 (.seq (.region [⟨some 9, .op (.mov (.t 7)), none⟩,
 ⟨some 1, .op (.mov (.t 9)), none⟩] [0, 1, 7])
 (.region [⟨some 10, .op (.load1 (.t 0)), none⟩,
 ⟨some 11, .op (.mov (.t 1)), none⟩,
 ⟨some 12, .op (.mov (.t 1)), none⟩,
 ⟨some 13, .op (.nilCheck (.t 10)), none⟩,
 ⟨some 14, .op (.fieldAddr 261 (.t 13)), none⟩,
 ⟨some 15, .op (.idxAddrA 257 1 (.t 14) (.t 11)), none⟩,
 ⟨none, .op (.store 1 (.t 15) (.t 12)), none⟩] [0, 7])))
 (.region [⟨some 16, .op (.bin .add .basic (.t 7) (.c (.int .i64 1))), none⟩,
 ⟨some 7, .op (.mov (.t 16)), none⟩] [0, 7])))))))
 (.seq (.region [⟨some 17, .op (.load1 (.t 0)), none⟩,
 ⟨some 18, .op (.nilCheck (.t 17)), none⟩,
 ⟨some 19, .op (.fieldAddr 261 (.t 18)), none⟩,
 ⟨some 20, .op (.sliceArr 257 1 (.t 19) none none none), none⟩,
 ⟨some 21, .call (.c (.func (.func 248) #[] #[])) [.t 20, .c (.func (.func 249) #[] #[])], none⟩] [0])
 (.seq (.region [⟨some 22, .op (.load1 (.t 0)), none⟩,
 ⟨some 23, .op (.nilCheck (.t 22)), none⟩,
 ⟨some 24, .op (.fieldAddr 261 (.t 23)), none⟩,
 ⟨some 25, .op (.idxAddrA 257 1 (.t 24) (.c (.int .i64 0))), none⟩,
 ⟨some 26, .op (.load1 (.t 25)), none⟩,
 ⟨some 27, .call (.c (.func (.func 225) #[] #[])) [.t 26], none⟩,
 ⟨some 2, .op (.mov (.c (.int .u32 0))), none⟩,
 ⟨some 3, .op (.mov (.t 27)), none⟩] [0, 2, 3])
 (.seq (.seq (.region [⟨some 28, .op (.load1 (.t 0)), none⟩,
 ⟨some 29, .op (.nilCheck (.t 28)), none⟩,
 ⟨some 30, .op (.fieldAddr 261 (.t 29)), none⟩,
 ⟨some 31, .op (.loadN 257 (.t 30)), none⟩,
 ⟨some 32, .op (.mov (.c (.int .i64 0))), none⟩] [0, 2, 3, 31, 32])
 (.block 2 (.loop (.seq (.region [⟨some 33, .op (.bin .lss .basic (.t 32) (.c (.int .i64 257))), none⟩] [0, 2, 3, 31, 32, 33])
 (.seq (.cond (.t 33)
 (.skip)
 (.exit 2))
 (.seq (.block 3 (.seq (.region [⟨some 34, .op (.mov (.t 32)), none⟩,
 ⟨some 35, .op (.idxA1 257 (.t 31) (.t 32)), none⟩,
 ⟨some 4, .op (.mov (.t 34)), none⟩,
 ⟨some 5, .op (.mov (.t 35)), none⟩] [0, 2, 3, 4, 5, 31, 32])
 (.seq (.region [⟨some 36, .op (.mov (.t 5)), none⟩,
 ⟨some 37, .call (.c (.func (.func 225) #[] #[])) [.t 36], none⟩,
 ⟨some 6, .op (.mov (.t 37)), none⟩] [0, 2, 3, 4, 5, 6, 31, 32])
 (.seq (.region [⟨some 38, .op (.mov (.t 2)), none⟩,
 ⟨some 39, .op (.mov (.t 6)), none⟩,
 ⟨some 40, .op (.mov (.t 3)), none⟩,
 ⟨some 41, .op (.bin .sub .basic (.t 39) (.t 40)), none⟩,
 ⟨some 42, .op (.bin .shl .basic (.t 38) (.t 41)), none⟩,
 ⟨some 2, .op (.mov (.t 42)), none⟩] [0, 2, 4, 5, 6, 31, 32])
 (.seq (.region [⟨some 43, .op (.mov (.t 6)), none⟩,
 ⟨some 3, .op (.mov (.t 43)), none⟩] [0, 2, 3, 4, 5, 6, 31, 32])
 (.seq (.seq (.region [⟨some 44, .op (.load1 (.t 0)), none⟩,
 ⟨some 45, .op (.mov (.t 6)), none⟩,
 ⟨some 46, .op (.nilCheck (.t 44)), none⟩,
 ⟨some 47, .op (.fieldAddr 549 (.t 46)), none⟩,
 ⟨some 48, .op (.idxAddrA 31 1 (.t 47) (.t 45)), none⟩,
 ⟨some 49, .op (.load1 (.t 48)), none⟩,
 ⟨some 50, .op (.bin .eql .basic (.t 49) (.c (.int .i64 0))), none⟩] [0, 2, 3, 4, 5, 6, 31, 32, 50])
 (.cond (.t 50)
 (.dregion [(⟨some 51, .op (.load1 (.t 0)), none⟩, 0, 0),
 (⟨some 52, .op (.mov (.t 6)), none⟩, 0, 0),
 (⟨some 53, .op (.load1 (.t 0)), none⟩, 0, 1),
 (⟨some 54, .op (.mov (.t 6)), none⟩, 0, 1),
 (⟨some 55, .op (.mov (.t 2)), none⟩, 0, 0),
 (⟨some 56, .op (.mov (.t 4)), none⟩, 0, 1),
 (⟨some 57, .op (.nilCheck (.t 51)), none⟩, 0, 0),
 (⟨some 58, .op (.fieldAddr 518 (.t 57)), none⟩, 0, 0),
 (⟨some 59, .op (.idxAddrA 31 1 (.t 58) (.t 52)), none⟩, 0, 0),
 (⟨none, .op (.store 1 (.t 59) (.t 55)), none⟩, 0, 1),
 (⟨some 60, .op (.nilCheck (.t 53)), none⟩, 0, 1),
 (⟨some 61, .op (.fieldAddr 580 (.t 60)), none⟩, 0, 1),
 (⟨some 62, .op (.idxAddrA 31 1 (.t 61) (.t 54)), none⟩, 1, 1),
 (⟨none, .op (.store 1 (.t 62) (.t 56)), none⟩, 1, 2)] [0, 2, 3, 5, 6, 31, 32])
 (.skip)))
 (.seq (.dregion [(⟨some 63, .op (.load1 (.t 0)), none⟩, 0, 0),
 (⟨some 64, .op (.mov (.t 6)), none⟩, 0, 0),
 (⟨some 65, .op (.nilCheck (.t 63)), none⟩, 0, 0),
 (⟨some 66, .op (.fieldAddr 549 (.t 65)), none⟩, 0, 0),
 (⟨some 67, .op (.idxAddrA 31 1 (.t 66) (.t 64)), none⟩, 0, 0),
 (⟨some 68, .op (.load1 (.t 67)), none⟩, 0, 0),
 (⟨some 69, .op (.bin .add .basic (.t 68) (.c (.int .i64 1))), none⟩, 0, 0),
 (⟨some 70, .op (.nilCheck (.t 63)), none⟩, 0, 0),
 (⟨some 71, .op (.fieldAddr 549 (.t 70)), none⟩, 0, 0),
 (⟨some 72, .op (.idxAddrA 31 1 (.t 71) (.t 64)), none⟩, 0, 0),
 (⟨none, .op (.store 1 (.t 72) (.t 69)), none⟩, 0, 1)] [0, 2, 3, 5, 31, 32])
 (.seq (.region [⟨some 73, .op (.load1 (.t 0)), none⟩,
 ⟨some 74, .op (.mov (.t 5)), none⟩,
 ⟨some 75, .op (.mov (.t 2)), none⟩,
 ⟨some 76, .op (.nilCheck (.t 73)), none⟩,
 ⟨some 77, .op (.fieldAddr 4 (.t 76)), none⟩,
 ⟨some 78, .op (.idxAddrA 257 1 (.t 77) (.t 74)), none⟩,
 ⟨none, .op (.store 1 (.t 78) (.t 75)), none⟩] [0, 2, 3, 31, 32])
 (.region [⟨some 79, .op (.mov (.t 2)), none⟩,
 ⟨some 80, .op (.bin .add .basic (.t 79) (.c (.int .u32 1))), none⟩,
 ⟨some 2, .op (.mov (.t 80)), none⟩] [0, 2, 3, 31, 32])))))))))
 (.region [⟨some 81, .op (.bin .add .basic (.t 32) (.c (.int .i64 1))), none⟩,
 ⟨some 32, .op (.mov (.t 81)), none⟩] [0, 2, 3, 31, 32])))))))
 (.region [⟨some 82, .op (.load1 (.t 0)), none⟩,
 ⟨some 83, .op (.nilCheck (.t 82)), none⟩,
 ⟨some 84, .op (.fieldAddr 3 (.t 83)), none⟩,
 ⟨some 85, .call (.c (.func (.func 250) #[] #[])) [.t 84, .c (.int .i64 1)], none⟩] []))))⟩

theorem lf247_ok : cFunc Tryz.prog Tryz.f247 [[0, 7], [0, 7, 8], [0, 1, 7], [0, 7], [0, 7], [0], [0, 2, 3], [0, 2, 3, 31, 32], [0, 2, 3, 31, 32, 33], [0, 2, 3, 4, 5, 31, 32], [0, 2, 3, 4, 5, 6, 31, 32], [0, 2, 4, 5, 6, 31, 32], [0, 2, 3, 4, 5, 6, 31, 32], [0, 2, 3, 4, 5, 6, 31, 32, 50], [0, 2, 3, 5, 6, 31, 32], [0, 2, 3, 5, 31, 32], [0, 2, 3, 31, 32], [0, 2, 3, 31, 32], [0, 2, 3, 31, 32], []] = some lf247 := by kernel_rfl

/-- slices.SortStableFunc[[]int,int] -/
def lf248 : LFunc := ⟨9, [],
 .region [⟨some 4, .op (.mov (.t 0)), none⟩,
 ⟨some 5, .op (.mov (.t 0)), none⟩,
 ⟨some 6, .op (.lenS (.t 5)), none⟩,
 ⟨some 7, .op (.mov (.t 1)), none⟩,
 ⟨some 8, .call (.c (.func (.func 260) #[] #[])) [.t 4, .t 6, .t 7], none⟩] []⟩

theorem lf248_ok : cFunc Tryz.prog Tryz.f248 [[]] = some lf248 := by kernel_rfl

/-- (*squint/huff.Coder).get$1$1 -/
def lf249 : LFunc := ⟨10, [.tmp 4],
 .seq (.region [⟨some 4, .op (.mov (.c (.int .i64 0))), none⟩] [0, 1])
 (.seq (.region [⟨some 5, .op (.mov (.t 0)), none⟩,
 ⟨some 6, .call (.c (.func (.func 225) #[] #[])) [.t 5], none⟩,
 ⟨some 7, .op (.mov (.t 1)), none⟩,
 ⟨some 8, .call (.c (.func (.func 225) #[] #[])) [.t 7], none⟩,
 ⟨some 9, .call (.c (.func (.func 239) #[] #[])) [.t 6, .t 8], none⟩,
 ⟨some 4, .op (.mov (.t 9)), none⟩] [4])
 (.ret))⟩

theorem lf249_ok : cFunc Tryz.prog Tryz.f249 [[0, 1], [4]] = some lf249 := by kernel_rfl

/-- cmp.isNaN[int] -/
def lf256 : LFunc := ⟨6, [.tmp 2],
 .seq (.region [⟨some 2, .op (.mov (.c (.bool false))), none⟩] [0])
 (.seq (.region [⟨some 3, .op (.mov (.t 0)), none⟩,
 ⟨some 4, .op (.mov (.t 0)), none⟩,
 ⟨some 5, .op (.bin .neq .basic (.t 3) (.t 4)), none⟩,
 ⟨some 2, .op (.mov (.t 5)), none⟩] [2])
 (.ret))⟩

theorem lf256_ok : cFunc Tryz.prog Tryz.f256 [[0], [2]] = some lf256 := by kernel_rfl

/-- (*squint/huff.Coder).symbol -/
def lf257 : LFunc := ⟨52, [.tmp 6],
 .seq (.region [⟨some 6, .op (.mov (.c (.int .i64 0))), none⟩] [0, 1, 2])
 (.seq (.seq (.region [⟨some 8, .op (.mov (.t 1)), none⟩,
 ⟨some 9, .op (.convInt .i64 (.t 8)), none⟩,
 ⟨some 10, .op (.mov (.t 0)), none⟩,
 ⟨some 11, .op (.mov (.t 2)), none⟩,
 ⟨some 12, .op (.nilCheck (.t 10)), none⟩,
 ⟨some 13, .op (.fieldAddr 518 (.t 12)), none⟩,
 ⟨some 14, .op (.idxAddrA 31 1 (.t 13) (.t 11)), none⟩,
 ⟨some 15, .op (.load1 (.t 14)), none⟩,
 ⟨some 16, .op (.convInt .i64 (.t 15)), none⟩,
 ⟨some 17, .op (.bin .sub .basic (.t 9) (.t 16)), none⟩,
 ⟨some 7, .op (.mov (.t 17)), none⟩] [0, 2, 7])
 (.seq (.region [⟨some 18, .op (.mov (.t 0)), none⟩,
 ⟨some 19, .op (.mov (.t 2)), none⟩,
 ⟨some 20, .op (.nilCheck (.t 18)), none⟩,
 ⟨some 21, .op (.fieldAddr 549 (.t 20)), none⟩,
 ⟨some 22, .op (.idxAddrA 31 1 (.t 21) (.t 19)), none⟩,
 ⟨some 23, .op (.load1 (.t 22)), none⟩,
 ⟨some 24, .op (.bin .gtr .basic (.t 23) (.c (.int .i64 0))), none⟩,
 ⟨some 25, .op (.mov (.t 24)), none⟩,
 ⟨some 26, .op (.mov (.t 7)), some (25, true)⟩,
 ⟨some 27, .op (.bin .geq .basic (.t 26) (.c (.int .i64 0))), some (25, true)⟩,
 ⟨some 28, .pick (.t 25) (.t 27) (.c (.bool false)), none⟩,
 ⟨some 29, .op (.mov (.t 28)), none⟩,
 ⟨some 30, .op (.mov (.t 7)), some (29, true)⟩,
 ⟨some 31, .op (.mov (.t 0)), some (29, true)⟩,
 ⟨some 32, .op (.mov (.t 2)), some (29, true)⟩,
 ⟨some 33, .op (.nilCheck (.t 31)), some (29, true)⟩,
 ⟨some 34, .op (.fieldAddr 549 (.t 33)), some (29, true)⟩,
 ⟨some 35, .op (.idxAddrA 31 1 (.t 34) (.t 32)), some (29, true)⟩,
 ⟨some 36, .op (.load1 (.t 35)), some (29, true)⟩,
 ⟨some 37, .op (.bin .lss .basic (.t 30) (.t 36)), some (29, true)⟩,
 ⟨some 38, .pick (.t 29) (.t 37) (.c (.bool false)), none⟩] [0, 2, 7, 38])
 (.cond (.t 38)
 (.seq (.dregion [(⟨some 39, .op (.mov (.t 0)), none⟩, 0, 0),
 (⟨some 40, .op (.mov (.t 0)), none⟩, 0, 0),
 (⟨some 41, .op (.mov (.t 2)), none⟩, 0, 0),
 (⟨some 42, .op (.nilCheck (.t 40)), none⟩, 0, 0),
 (⟨some 43, .op (.fieldAddr 580 (.t 42)), none⟩, 0, 0),
 (⟨some 44, .op (.idxAddrA 31 1 (.t 43) (.t 41)), none⟩, 0, 0),
 (⟨some 45, .op (.load1 (.t 44)), none⟩, 0, 0),
 (⟨some 46, .op (.mov (.t 7)), none⟩, 0, 0),
 (⟨some 47, .op (.bin .add .basic (.t 45) (.t 46)), none⟩, 0, 0),
 (⟨some 48, .op (.nilCheck (.t 39)), none⟩, 0, 0),
 (⟨some 49, .op (.fieldAddr 261 (.t 48)), none⟩, 0, 0),
 (⟨some 50, .op (.idxAddrA 257 1 (.t 49) (.t 47)), none⟩, 0, 0),
 (⟨some 51, .op (.load1 (.t 50)), none⟩, 0, 0),
 (⟨some 6, .op (.mov (.t 51)), none⟩, 0, 0)] [6])
 (.ret))
 (.skip))))
 (.seq (.region [⟨some 6, .op (.mov (.c (.int .i64 (-1)))), none⟩] [6])
 (.ret)))⟩

theorem lf257_ok : cFunc Tryz.prog Tryz.f257 [[0, 1, 2], [0, 2, 7], [0, 2, 7, 38], [6], [6]] = some lf257 := by kernel_rfl

/-- slices.stableCmpFunc[int] -/
def lf260 : LFunc := ⟨63, [],
 .seq (.region [⟨some 6, .op (.mov (.c (.int .i64 20))), none⟩] [0, 1, 2, 6])
 (.seq (.region [⟨some 10, .op (.mov (.t 6)), none⟩,
 ⟨some 7, .op (.mov (.c (.int .i64 0))), none⟩,
 ⟨some 8, .op (.mov (.t 10)), none⟩] [0, 1, 2, 6, 7, 8])
 (.seq (.block 0 (.loop (.seq (.seq (.region [⟨some 11, .op (.mov (.t 8)), none⟩,
 ⟨some 12, .op (.mov (.t 1)), none⟩,
 ⟨some 13, .op (.bin .leq .basic (.t 11) (.t 12)), none⟩] [0, 1, 2, 6, 7, 8, 13])
 (.cond (.t 13)
 (.skip)
 (.exit 0)))
 (.block 1 (.seq (.region [⟨some 14, .op (.mov (.t 0)), none⟩,
 ⟨some 15, .op (.mov (.t 7)), none⟩,
 ⟨some 16, .op (.mov (.t 8)), none⟩,
 ⟨some 17, .op (.mov (.t 2)), none⟩,
 ⟨some 18, .call (.c (.func (.func 267) #[] #[])) [.t 14, .t 15, .t 16, .t 17], none⟩] [0, 1, 2, 6, 8])
 (.seq (.region [⟨some 19, .op (.mov (.t 8)), none⟩,
 ⟨some 7, .op (.mov (.t 19)), none⟩] [0, 1, 2, 6, 7, 8])
 (.region [⟨some 20, .op (.mov (.t 8)), none⟩,
 ⟨some 21, .op (.mov (.t 6)), none⟩,
 ⟨some 22, .op (.bin .add .basic (.t 20) (.t 21)), none⟩,
 ⟨some 8, .op (.mov (.t 22)), none⟩] [0, 1, 2, 6, 7, 8])))))))
 (.seq (.region [⟨some 23, .op (.mov (.t 0)), none⟩,
 ⟨some 24, .op (.mov (.t 7)), none⟩,
 ⟨some 25, .op (.mov (.t 1)), none⟩,
 ⟨some 26, .op (.mov (.t 2)), none⟩,
 ⟨some 27, .call (.c (.func (.func 267) #[] #[])) [.t 23, .t 24, .t 25, .t 26], none⟩] [0, 1, 2, 6])
 (.block 2 (.loop (.seq (.seq (.region [⟨some 28, .op (.mov (.t 6)), none⟩,
 ⟨some 29, .op (.mov (.t 1)), none⟩,
 ⟨some 30, .op (.bin .lss .basic (.t 28) (.t 29)), none⟩] [0, 1, 2, 6, 30])
 (.cond (.t 30)
 (.skip)
 (.exit 2)))
 (.block 3 (.seq (.region [⟨some 31, .op (.mov (.t 6)), none⟩,
 ⟨some 32, .op (.bin .mul .basic (.c (.int .i64 2)) (.t 31)), none⟩,
 ⟨some 7, .op (.mov (.c (.int .i64 0))), none⟩,
 ⟨some 8, .op (.mov (.t 32)), none⟩] [0, 1, 2, 6, 7, 8])
 (.seq (.block 4 (.loop (.seq (.seq (.region [⟨some 33, .op (.mov (.t 8)), none⟩,
 ⟨some 34, .op (.mov (.t 1)), none⟩,
 ⟨some 35, .op (.bin .leq .basic (.t 33) (.t 34)), none⟩] [0, 1, 2, 6, 7, 8, 35])
 (.cond (.t 35)
 (.skip)
 (.exit 4)))
 (.block 5 (.seq (.region [⟨some 36, .op (.mov (.t 0)), none⟩,
 ⟨some 37, .op (.mov (.t 7)), none⟩,
 ⟨some 38, .op (.mov (.t 7)), none⟩,
 ⟨some 39, .op (.mov (.t 6)), none⟩,
 ⟨some 40, .op (.bin .add .basic (.t 38) (.t 39)), none⟩,
 ⟨some 41, .op (.mov (.t 8)), none⟩,
 ⟨some 42, .op (.mov (.t 2)), none⟩,
 ⟨some 43, .call (.c (.func (.func 268) #[] #[])) [.t 36, .t 37, .t 40, .t 41, .t 42], none⟩] [0, 1, 2, 6, 8])
 (.seq (.region [⟨some 44, .op (.mov (.t 8)), none⟩,
 ⟨some 7, .op (.mov (.t 44)), none⟩] [0, 1, 2, 6, 7, 8])
 (.region [⟨some 45, .op (.mov (.t 8)), none⟩,
 ⟨some 46, .op (.mov (.t 6)), none⟩,
 ⟨some 47, .op (.bin .mul .basic (.c (.int .i64 2)) (.t 46)), none⟩,
 ⟨some 48, .op (.bin .add .basic (.t 45) (.t 47)), none⟩,
 ⟨some 8, .op (.mov (.t 48)), none⟩] [0, 1, 2, 6, 7, 8])))))))
 (.seq (.seq (.region [⟨some 49, .op (.mov (.t 7)), none⟩,
 ⟨some 50, .op (.mov (.t 6)), none⟩,
 ⟨some 51, .op (.bin .add .basic (.t 49) (.t 50)), none⟩,
 ⟨some 9, .op (.mov (.t 51)), none⟩] [0, 1, 2, 6, 7, 9])
 (.seq (.region [⟨some 52, .op (.mov (.t 9)), none⟩,
 ⟨some 53, .op (.mov (.t 1)), none⟩,
 ⟨some 54, .op (.bin .lss .basic (.t 52) (.t 53)), none⟩] [0, 1, 2, 6, 7, 9, 54])
 (.cond (.t 54)
 (.region [⟨some 55, .op (.mov (.t 0)), none⟩,
 ⟨some 56, .op (.mov (.t 7)), none⟩,
 ⟨some 57, .op (.mov (.t 9)), none⟩,
 ⟨some 58, .op (.mov (.t 1)), none⟩,
 ⟨some 59, .op (.mov (.t 2)), none⟩,
 ⟨some 60, .call (.c (.func (.func 268) #[] #[])) [.t 55, .t 56, .t 57, .t 58, .t 59], none⟩] [0, 1, 2, 6])
 (.skip))))
 (.region [⟨some 61, .op (.mov (.t 6)), none⟩,
 ⟨some 62, .op (.bin .mul .basic (.t 61) (.c (.int .i64 2))), none⟩,
 ⟨some 6, .op (.mov (.t 62)), none⟩] [0, 1, 2, 6])))))))))))⟩

theorem lf260_ok : cFunc Tryz.prog Tryz.f260 [[0, 1, 2, 6], [0, 1, 2, 6, 7, 8], [0, 1, 2, 6, 7, 8, 13], [0, 1, 2, 6, 8], [0, 1, 2, 6, 7, 8], [0, 1, 2, 6, 7, 8], [0, 1, 2, 6], [0, 1, 2, 6, 30], [0, 1, 2, 6, 7, 8], [0, 1, 2, 6, 7, 8, 35], [0, 1, 2, 6, 8], [0, 1, 2, 6, 7, 8], [0, 1, 2, 6, 7, 8], [0, 1, 2, 6, 7, 9], [0, 1, 2, 6, 7, 9, 54], [0, 1, 2, 6], [0, 1, 2, 6]] = some lf260 := by kernel_rfl

/-- slices.insertionSortCmpFunc[int] -/
def lf267 : LFunc := ⟨53, [],
 .seq (.region [⟨some 10, .op (.mov (.t 1)), none⟩,
 ⟨some 11, .op (.bin .add .basic (.t 10) (.c (.int .i64 1))), none⟩,
 ⟨some 8, .op (.mov (.t 11)), none⟩] [0, 1, 2, 3, 8])
 (.block 0 (.loop (.seq (.seq (.region [⟨some 12, .op (.mov (.t 8)), none⟩,
 ⟨some 13, .op (.mov (.t 2)), none⟩,
 ⟨some 14, .op (.bin .lss .basic (.t 12) (.t 13)), none⟩] [0, 1, 2, 3, 8, 14])
 (.cond (.t 14)
 (.skip)
 (.exit 0)))
 (.seq (.block 1 (.seq (.region [⟨some 17, .op (.mov (.t 8)), none⟩,
 ⟨some 9, .op (.mov (.t 17)), none⟩] [0, 1, 2, 3, 8, 9])
 (.block 2 (.loop (.seq (.seq (.dregion [(⟨some 18, .op (.mov (.t 9)), none⟩, 0, 0),
 (⟨some 19, .op (.mov (.t 1)), none⟩, 0, 0),
 (⟨some 20, .op (.bin .gtr .basic (.t 18) (.t 19)), none⟩, 0, 0),
 (⟨some 21, .op (.mov (.t 20)), none⟩, 0, 0),
 (⟨some 22, .op (.mov (.t 3)), some (21, true)⟩, 0, 0),
 (⟨some 23, .op (.mov (.t 0)), some (21, true)⟩, 0, 0),
 (⟨some 24, .op (.mov (.t 9)), some (21, true)⟩, 0, 0),
 (⟨some 25, .op (.idxAddrS 1 (.t 23) (.t 24)), some (21, true)⟩, 0, 0),
 (⟨some 26, .op (.load1 (.t 25)), some (21, true)⟩, 0, 0),
 (⟨some 27, .op (.mov (.t 0)), some (21, true)⟩, 0, 0),
 (⟨some 28, .op (.mov (.t 9)), some (21, true)⟩, 0, 0),
 (⟨some 29, .op (.bin .sub .basic (.t 28) (.c (.int .i64 1))), some (21, true)⟩, 0, 0),
 (⟨some 30, .op (.idxAddrS 1 (.t 27) (.t 29)), some (21, true)⟩, 0, 0),
 (⟨some 31, .op (.load1 (.t 30)), some (21, true)⟩, 0, 0),
 (⟨some 32, .call (.t 22) [.t 26, .t 31], some (21, true)⟩, 0, 1),
 (⟨some 33, .op (.bin .lss .basic (.t 32) (.c (.int .i64 0))), some (21, true)⟩, 1, 1),
 (⟨some 34, .pick (.t 21) (.t 33) (.c (.bool false)), none⟩, 1, 1)] [0, 1, 2, 3, 8, 9, 34])
 (.cond (.t 34)
 (.skip)
 (.exit 2)))
 (.seq (.block 3 (.dregion [(⟨some 37, .op (.mov (.t 0)), none⟩, 0, 0),
 (⟨some 38, .op (.mov (.t 9)), none⟩, 0, 0),
 (⟨some 39, .op (.mov (.t 0)), none⟩, 0, 1),
 (⟨some 40, .op (.mov (.t 9)), none⟩, 0, 1),
 (⟨some 41, .op (.bin .sub .basic (.t 40) (.c (.int .i64 1))), none⟩, 0, 1),
 (⟨some 42, .op (.mov (.t 0)), none⟩, 0, 0),
 (⟨some 43, .op (.mov (.t 9)), none⟩, 0, 0),
 (⟨some 44, .op (.bin .sub .basic (.t 43) (.c (.int .i64 1))), none⟩, 0, 0),
 (⟨some 45, .op (.idxAddrS 1 (.t 42) (.t 44)), none⟩, 0, 0),
 (⟨some 46, .op (.load1 (.t 45)), none⟩, 0, 0),
 (⟨some 47, .op (.mov (.t 0)), none⟩, 0, 0),
 (⟨some 48, .op (.mov (.t 9)), none⟩, 0, 0),
 (⟨some 49, .op (.idxAddrS 1 (.t 47) (.t 48)), none⟩, 0, 0),
 (⟨some 50, .op (.load1 (.t 49)), none⟩, 0, 0),
 (⟨some 51, .op (.idxAddrS 1 (.t 37) (.t 38)), none⟩, 0, 0),
 (⟨none, .op (.store 1 (.t 51) (.t 46)), none⟩, 0, 1),
 (⟨some 52, .op (.idxAddrS 1 (.t 39) (.t 41)), none⟩, 1, 1),
 (⟨none, .op (.store 1 (.t 52) (.t 50)), none⟩, 1, 2)] [0, 1, 2, 3, 8, 9]))
 (.region [⟨some 35, .op (.mov (.t 9)), none⟩,
 ⟨some 36, .op (.bin .sub .basic (.t 35) (.c (.int .i64 1))), none⟩,
 ⟨some 9, .op (.mov (.t 36)), none⟩] [0, 1, 2, 3, 8, 9])))))))
 (.region [⟨some 15, .op (.mov (.t 8)), none⟩,
 ⟨some 16, .op (.bin .add .basic (.t 15) (.c (.int .i64 1))), none⟩,
 ⟨some 8, .op (.mov (.t 16)), none⟩] [0, 1, 2, 3, 8])))))⟩

theorem lf267_ok : cFunc Tryz.prog Tryz.f267 [[0, 1, 2, 3, 8], [0, 1, 2, 3, 8, 14], [0, 1, 2, 3, 8, 9], [0, 1, 2, 3, 8, 9, 34], [0, 1, 2, 3, 8, 9], [0, 1, 2, 3, 8, 9], [0, 1, 2, 3, 8]] = some lf267 := by kernel_rfl

/-- slices.symMergeCmpFunc[int] -/
def lf268 : LFunc := ⟨220, [],
 .seq (.seq (.region [⟨some 25, .op (.mov (.t 2)), none⟩,
 ⟨some 26, .op (.mov (.t 1)), none⟩,
 ⟨some 27, .op (.bin .sub .basic (.t 25) (.t 26)), none⟩,
 ⟨some 28, .op (.bin .eql .basic (.t 27) (.c (.int .i64 1))), none⟩] [0, 1, 2, 3, 4, 28])
 (.cond (.t 28)
 (.seq (.region [⟨some 29, .op (.mov (.t 2)), none⟩,
 ⟨some 10, .op (.mov (.t 29)), none⟩] [0, 1, 3, 4, 10])
 (.seq (.region [⟨some 30, .op (.mov (.t 3)), none⟩,
 ⟨some 11, .op (.mov (.t 30)), none⟩] [0, 1, 4, 10, 11])
 (.seq (.block 0 (.loop (.seq (.seq (.region [⟨some 31, .op (.mov (.t 10)), none⟩,
 ⟨some 32, .op (.mov (.t 11)), none⟩,
 ⟨some 33, .op (.bin .lss .basic (.t 31) (.t 32)), none⟩] [0, 1, 4, 10, 11, 33])
 (.cond (.t 33)
 (.skip)
 (.exit 0)))
 (.block 1 (.seq (.region [⟨some 34, .op (.mov (.t 10)), none⟩,
 ⟨some 35, .op (.mov (.t 11)), none⟩,
 ⟨some 36, .op (.bin .add .basic (.t 34) (.t 35)), none⟩,
 ⟨some 37, .op (.convInt .u64 (.t 36)), none⟩,
 ⟨some 38, .op (.bin .shr .basic (.t 37) (.c (.int .u64 1))), none⟩,
 ⟨some 39, .op (.convInt .i64 (.t 38)), none⟩,
 ⟨some 12, .op (.mov (.t 39)), none⟩] [0, 1, 4, 10, 11, 12])
 (.seq (.dregion [(⟨some 40, .op (.mov (.t 4)), none⟩, 0, 0),
 (⟨some 41, .op (.mov (.t 0)), none⟩, 0, 0),
 (⟨some 42, .op (.mov (.t 12)), none⟩, 0, 0),
 (⟨some 43, .op (.idxAddrS 1 (.t 41) (.t 42)), none⟩, 0, 0),
 (⟨some 44, .op (.load1 (.t 43)), none⟩, 0, 0),
 (⟨some 45, .op (.mov (.t 0)), none⟩, 0, 0),
 (⟨some 46, .op (.mov (.t 1)), none⟩, 0, 0),
 (⟨some 47, .op (.idxAddrS 1 (.t 45) (.t 46)), none⟩, 0, 0),
 (⟨some 48, .op (.load1 (.t 47)), none⟩, 0, 0),
 (⟨some 49, .call (.t 40) [.t 44, .t 48], none⟩, 0, 1),
 (⟨some 50, .op (.bin .lss .basic (.t 49) (.c (.int .i64 0))), none⟩, 1, 1)] [0, 1, 4, 10, 11, 12, 50])
 (.cond (.t 50)
 (.region [⟨some 51, .op (.mov (.t 12)), none⟩,
 ⟨some 52, .op (.bin .add .basic (.t 51) (.c (.int .i64 1))), none⟩,
 ⟨some 10, .op (.mov (.t 52)), none⟩] [0, 1, 4, 10, 11])
 (.region [⟨some 53, .op (.mov (.t 12)), none⟩,
 ⟨some 11, .op (.mov (.t 53)), none⟩] [0, 1, 4, 10, 11]))))))))
 (.seq (.seq (.region [⟨some 54, .op (.mov (.t 1)), none⟩,
 ⟨some 13, .op (.mov (.t 54)), none⟩] [0, 10, 13])
 (.block 2 (.loop (.seq (.seq (.region [⟨some 55, .op (.mov (.t 13)), none⟩,
 ⟨some 56, .op (.mov (.t 10)), none⟩,
 ⟨some 57, .op (.bin .sub .basic (.t 56) (.c (.int .i64 1))), none⟩,
 ⟨some 58, .op (.bin .lss .basic (.t 55) (.t 57)), none⟩] [0, 10, 13, 58])
 (.cond (.t 58)
 (.skip)
 (.exit 2)))
 (.seq (.block 3 (.dregion [(⟨some 61, .op (.mov (.t 0)), none⟩, 0, 0),
 (⟨some 62, .op (.mov (.t 13)), none⟩, 0, 0),
 (⟨some 63, .op (.mov (.t 0)), none⟩, 0, 1),
 (⟨some 64, .op (.mov (.t 13)), none⟩, 0, 1),
 (⟨some 65, .op (.bin .add .basic (.t 64) (.c (.int .i64 1))), none⟩, 0, 1),
 (⟨some 66, .op (.mov (.t 0)), none⟩, 0, 0),
 (⟨some 67, .op (.mov (.t 13)), none⟩, 0, 0),
 (⟨some 68, .op (.bin .add .basic (.t 67) (.c (.int .i64 1))), none⟩, 0, 0),
 (⟨some 69, .op (.idxAddrS 1 (.t 66) (.t 68)), none⟩, 0, 0),
 (⟨some 70, .op (.load1 (.t 69)), none⟩, 0, 0),
 (⟨some 71, .op (.mov (.t 0)), none⟩, 0, 0),
 (⟨some 72, .op (.mov (.t 13)), none⟩, 0, 0),
 (⟨some 73, .op (.idxAddrS 1 (.t 71) (.t 72)), none⟩, 0, 0),
 (⟨some 74, .op (.load1 (.t 73)), none⟩, 0, 0),
 (⟨some 75, .op (.idxAddrS 1 (.t 61) (.t 62)), none⟩, 0, 0),
 (⟨none, .op (.store 1 (.t 75) (.t 70)), none⟩, 0, 1),
 (⟨some 76, .op (.idxAddrS 1 (.t 63) (.t 65)), none⟩, 1, 1),
 (⟨none, .op (.store 1 (.t 76) (.t 74)), none⟩, 1, 2)] [0, 10, 13]))
 (.region [⟨some 59, .op (.mov (.t 13)), none⟩,
 ⟨some 60, .op (.bin .add .basic (.t 59) (.c (.int .i64 1))), none⟩,
 ⟨some 13, .op (.mov (.t 60)), none⟩] [0, 10, 13]))))))
 (.ret)))))
 (.skip)))
 (.seq (.seq (.region [⟨some 77, .op (.mov (.t 3)), none⟩,
 ⟨some 78, .op (.mov (.t 2)), none⟩,
 ⟨some 79, .op (.bin .sub .basic (.t 77) (.t 78)), none⟩,
 ⟨some 80, .op (.bin .eql .basic (.t 79) (.c (.int .i64 1))), none⟩] [0, 1, 2, 3, 4, 80])
 (.cond (.t 80)
 (.seq (.region [⟨some 81, .op (.mov (.t 1)), none⟩,
 ⟨some 14, .op (.mov (.t 81)), none⟩] [0, 2, 4, 14])
 (.seq (.region [⟨some 82, .op (.mov (.t 2)), none⟩,
 ⟨some 15, .op (.mov (.t 82)), none⟩] [0, 2, 4, 14, 15])
 (.seq (.block 4 (.loop (.seq (.seq (.region [⟨some 83, .op (.mov (.t 14)), none⟩,
 ⟨some 84, .op (.mov (.t 15)), none⟩,
 ⟨some 85, .op (.bin .lss .basic (.t 83) (.t 84)), none⟩] [0, 2, 4, 14, 15, 85])
 (.cond (.t 85)
 (.skip)
 (.exit 4)))
 (.block 5 (.seq (.region [⟨some 86, .op (.mov (.t 14)), none⟩,
 ⟨some 87, .op (.mov (.t 15)), none⟩,
 ⟨some 88, .op (.bin .add .basic (.t 86) (.t 87)), none⟩,
 ⟨some 89, .op (.convInt .u64 (.t 88)), none⟩,
 ⟨some 90, .op (.bin .shr .basic (.t 89) (.c (.int .u64 1))), none⟩,
 ⟨some 91, .op (.convInt .i64 (.t 90)), none⟩,
 ⟨some 16, .op (.mov (.t 91)), none⟩] [0, 2, 4, 14, 15, 16])
 (.seq (.dregion [(⟨some 92, .op (.mov (.t 4)), none⟩, 0, 0),
 (⟨some 93, .op (.mov (.t 0)), none⟩, 0, 0),
 (⟨some 94, .op (.mov (.t 2)), none⟩, 0, 0),
 (⟨some 95, .op (.idxAddrS 1 (.t 93) (.t 94)), none⟩, 0, 0),
 (⟨some 96, .op (.load1 (.t 95)), none⟩, 0, 0),
 (⟨some 97, .op (.mov (.t 0)), none⟩, 0, 0),
 (⟨some 98, .op (.mov (.t 16)), none⟩, 0, 0),
 (⟨some 99, .op (.idxAddrS 1 (.t 97) (.t 98)), none⟩, 0, 0),
 (⟨some 100, .op (.load1 (.t 99)), none⟩, 0, 0),
 (⟨some 101, .call (.t 92) [.t 96, .t 100], none⟩, 0, 1),
 (⟨some 102, .op (.bin .lss .basic (.t 101) (.c (.int .i64 0))), none⟩, 1, 1),
 (⟨some 103, .op (.un .not (.t 102)), none⟩, 1, 1)] [0, 2, 4, 14, 15, 16, 103])
 (.cond (.t 103)
 (.region [⟨some 104, .op (.mov (.t 16)), none⟩,
 ⟨some 105, .op (.bin .add .basic (.t 104) (.c (.int .i64 1))), none⟩,
 ⟨some 14, .op (.mov (.t 105)), none⟩] [0, 2, 4, 14, 15])
 (.region [⟨some 106, .op (.mov (.t 16)), none⟩,
 ⟨some 15, .op (.mov (.t 106)), none⟩] [0, 2, 4, 14, 15]))))))))
 (.seq (.seq (.region [⟨some 107, .op (.mov (.t 2)), none⟩,
 ⟨some 17, .op (.mov (.t 107)), none⟩] [0, 14, 17])
 (.block 6 (.loop (.seq (.seq (.region [⟨some 108, .op (.mov (.t 17)), none⟩,
 ⟨some 109, .op (.mov (.t 14)), none⟩,
 ⟨some 110, .op (.bin .gtr .basic (.t 108) (.t 109)), none⟩] [0, 14, 17, 110])
 (.cond (.t 110)
 (.skip)
 (.exit 6)))
 (.seq (.block 7 (.dregion [(⟨some 113, .op (.mov (.t 0)), none⟩, 0, 0),
 (⟨some 114, .op (.mov (.t 17)), none⟩, 0, 0),
 (⟨some 115, .op (.mov (.t 0)), none⟩, 0, 1),
 (⟨some 116, .op (.mov (.t 17)), none⟩, 0, 1),
 (⟨some 117, .op (.bin .sub .basic (.t 116) (.c (.int .i64 1))), none⟩, 0, 1),
 (⟨some 118, .op (.mov (.t 0)), none⟩, 0, 0),
 (⟨some 119, .op (.mov (.t 17)), none⟩, 0, 0),
 (⟨some 120, .op (.bin .sub .basic (.t 119) (.c (.int .i64 1))), none⟩, 0, 0),
 (⟨some 121, .op (.idxAddrS 1 (.t 118) (.t 120)), none⟩, 0, 0),
 (⟨some 122, .op (.load1 (.t 121)), none⟩, 0, 0),
 (⟨some 123, .op (.mov (.t 0)), none⟩, 0, 0),
 (⟨some 124, .op (.mov (.t 17)), none⟩, 0, 0),
 (⟨some 125, .op (.idxAddrS 1 (.t 123) (.t 124)), none⟩, 0, 0),
 (⟨some 126, .op (.load1 (.t 125)), none⟩, 0, 0),
 (⟨some 127, .op (.idxAddrS 1 (.t 113) (.t 114)), none⟩, 0, 0),
 (⟨none, .op (.store 1 (.t 127) (.t 122)), none⟩, 0, 1),
 (⟨some 128, .op (.idxAddrS 1 (.t 115) (.t 117)), none⟩, 1, 1),
 (⟨none, .op (.store 1 (.t 128) (.t 126)), none⟩, 1, 2)] [0, 14, 17]))
 (.region [⟨some 111, .op (.mov (.t 17)), none⟩,
 ⟨some 112, .op (.bin .sub .basic (.t 111) (.c (.int .i64 1))), none⟩,
 ⟨some 17, .op (.mov (.t 112)), none⟩] [0, 14, 17]))))))
 (.ret)))))
 (.skip)))
 (.seq (.region [⟨some 129, .op (.mov (.t 1)), none⟩,
 ⟨some 130, .op (.mov (.t 3)), none⟩,
 ⟨some 131, .op (.bin .add .basic (.t 129) (.t 130)), none⟩,
 ⟨some 132, .op (.convInt .u64 (.t 131)), none⟩,
 ⟨some 133, .op (.bin .shr .basic (.t 132) (.c (.int .u64 1))), none⟩,
 ⟨some 134, .op (.convInt .i64 (.t 133)), none⟩,
 ⟨some 18, .op (.mov (.t 134)), none⟩] [0, 1, 2, 3, 4, 18])
 (.seq (.region [⟨some 135, .op (.mov (.t 18)), none⟩,
 ⟨some 136, .op (.mov (.t 2)), none⟩,
 ⟨some 137, .op (.bin .add .basic (.t 135) (.t 136)), none⟩,
 ⟨some 19, .op (.mov (.t 137)), none⟩] [0, 1, 2, 3, 4, 18, 19])
 (.seq (.region [⟨some 20, .op (.mov (.c (.int .i64 0))), none⟩,
 ⟨some 21, .op (.mov (.c (.int .i64 0))), none⟩] [0, 1, 2, 3, 4, 18, 19])
 (.seq (.seq (.region [⟨some 138, .op (.mov (.t 2)), none⟩,
 ⟨some 139, .op (.mov (.t 18)), none⟩,
 ⟨some 140, .op (.bin .gtr .basic (.t 138) (.t 139)), none⟩] [0, 1, 2, 3, 4, 18, 19, 140])
 (.cond (.t 140)
 (.seq (.region [⟨some 141, .op (.mov (.t 19)), none⟩,
 ⟨some 142, .op (.mov (.t 3)), none⟩,
 ⟨some 143, .op (.bin .sub .basic (.t 141) (.t 142)), none⟩,
 ⟨some 20, .op (.mov (.t 143)), none⟩] [0, 1, 2, 3, 4, 18, 19, 20])
 (.region [⟨some 144, .op (.mov (.t 18)), none⟩,
 ⟨some 21, .op (.mov (.t 144)), none⟩] [0, 1, 2, 3, 4, 18, 19, 20, 21]))
 (.seq (.region [⟨some 145, .op (.mov (.t 1)), none⟩,
 ⟨some 20, .op (.mov (.t 145)), none⟩] [0, 1, 2, 3, 4, 18, 19, 20])
 (.region [⟨some 146, .op (.mov (.t 2)), none⟩,
 ⟨some 21, .op (.mov (.t 146)), none⟩] [0, 1, 2, 3, 4, 18, 19, 20, 21]))))
 (.seq (.region [⟨some 147, .op (.mov (.t 19)), none⟩,
 ⟨some 148, .op (.bin .sub .basic (.t 147) (.c (.int .i64 1))), none⟩,
 ⟨some 22, .op (.mov (.t 148)), none⟩] [0, 1, 2, 3, 4, 18, 19, 20, 21, 22])
 (.seq (.block 8 (.loop (.seq (.seq (.region [⟨some 149, .op (.mov (.t 20)), none⟩,
 ⟨some 150, .op (.mov (.t 21)), none⟩,
 ⟨some 151, .op (.bin .lss .basic (.t 149) (.t 150)), none⟩] [0, 1, 2, 3, 4, 18, 19, 20, 21, 22, 151])
 (.cond (.t 151)
 (.skip)
 (.exit 8)))
 (.block 9 (.seq (.region [⟨some 152, .op (.mov (.t 20)), none⟩,
 ⟨some 153, .op (.mov (.t 21)), none⟩,
 ⟨some 154, .op (.bin .add .basic (.t 152) (.t 153)), none⟩,
 ⟨some 155, .op (.convInt .u64 (.t 154)), none⟩,
 ⟨some 156, .op (.bin .shr .basic (.t 155) (.c (.int .u64 1))), none⟩,
 ⟨some 157, .op (.convInt .i64 (.t 156)), none⟩,
 ⟨some 23, .op (.mov (.t 157)), none⟩] [0, 1, 2, 3, 4, 18, 19, 20, 21, 22, 23])
 (.seq (.dregion [(⟨some 158, .op (.mov (.t 4)), none⟩, 0, 0),
 (⟨some 159, .op (.mov (.t 0)), none⟩, 0, 0),
 (⟨some 160, .op (.mov (.t 22)), none⟩, 0, 0),
 (⟨some 161, .op (.mov (.t 23)), none⟩, 0, 0),
 (⟨some 162, .op (.bin .sub .basic (.t 160) (.t 161)), none⟩, 0, 0),
 (⟨some 163, .op (.idxAddrS 1 (.t 159) (.t 162)), none⟩, 0, 0),
 (⟨some 164, .op (.load1 (.t 163)), none⟩, 0, 0),
 (⟨some 165, .op (.mov (.t 0)), none⟩, 0, 0),
 (⟨some 166, .op (.mov (.t 23)), none⟩, 0, 0),
 (⟨some 167, .op (.idxAddrS 1 (.t 165) (.t 166)), none⟩, 0, 0),
 (⟨some 168, .op (.load1 (.t 167)), none⟩, 0, 0),
 (⟨some 169, .call (.t 158) [.t 164, .t 168], none⟩, 0, 1),
 (⟨some 170, .op (.bin .lss .basic (.t 169) (.c (.int .i64 0))), none⟩, 1, 1),
 (⟨some 171, .op (.un .not (.t 170)), none⟩, 1, 1)] [0, 1, 2, 3, 4, 18, 19, 20, 21, 22, 23, 171])
 (.cond (.t 171)
 (.region [⟨some 172, .op (.mov (.t 23)), none⟩,
 ⟨some 173, .op (.bin .add .basic (.t 172) (.c (.int .i64 1))), none⟩,
 ⟨some 20, .op (.mov (.t 173)), none⟩] [0, 1, 2, 3, 4, 18, 19, 20, 21, 22])
 (.region [⟨some 174, .op (.mov (.t 23)), none⟩,
 ⟨some 21, .op (.mov (.t 174)), none⟩] [0, 1, 2, 3, 4, 18, 19, 20, 21, 22]))))))))
 (.seq (.region [⟨some 175, .op (.mov (.t 19)), none⟩,
 ⟨some 176, .op (.mov (.t 20)), none⟩,
 ⟨some 177, .op (.bin .sub .basic (.t 175) (.t 176)), none⟩,
 ⟨some 24, .op (.mov (.t 177)), none⟩] [0, 1, 2, 3, 4, 18, 20, 24])
 (.seq (.seq (.region [⟨some 178, .op (.mov (.t 20)), none⟩,
 ⟨some 179, .op (.mov (.t 2)), none⟩,
 ⟨some 180, .op (.bin .lss .basic (.t 178) (.t 179)), none⟩,
 ⟨some 181, .op (.mov (.t 180)), none⟩,
 ⟨some 182, .op (.mov (.t 2)), some (181, true)⟩,
 ⟨some 183, .op (.mov (.t 24)), some (181, true)⟩,
 ⟨some 184, .op (.bin .lss .basic (.t 182) (.t 183)), some (181, true)⟩,
 ⟨some 185, .pick (.t 181) (.t 184) (.c (.bool false)), none⟩] [0, 1, 2, 3, 4, 18, 20, 24, 185])
 (.cond (.t 185)
 (.region [⟨some 186, .op (.mov (.t 0)), none⟩,
 ⟨some 187, .op (.mov (.t 20)), none⟩,
 ⟨some 188, .op (.mov (.t 2)), none⟩,
 ⟨some 189, .op (.mov (.t 24)), none⟩,
 ⟨some 190, .op (.mov (.t 4)), none⟩,
 ⟨some 191, .call (.c (.func (.func 273) #[] #[])) [.t 186, .t 187, .t 188, .t 189, .t 190], none⟩] [0, 1, 3, 4, 18, 20, 24])
 (.skip)))
 (.seq (.seq (.region [⟨some 192, .op (.mov (.t 1)), none⟩,
 ⟨some 193, .op (.mov (.t 20)), none⟩,
 ⟨some 194, .op (.bin .lss .basic (.t 192) (.t 193)), none⟩,
 ⟨some 195, .op (.mov (.t 194)), none⟩,
 ⟨some 196, .op (.mov (.t 20)), some (195, true)⟩,
 ⟨some 197, .op (.mov (.t 18)), some (195, true)⟩,
 ⟨some 198, .op (.bin .lss .basic (.t 196) (.t 197)), some (195, true)⟩,
 ⟨some 199, .pick (.t 195) (.t 198) (.c (.bool false)), none⟩] [0, 1, 3, 4, 18, 20, 24, 199])
 (.cond (.t 199)
 (.region [⟨some 200, .op (.mov (.t 0)), none⟩,
 ⟨some 201, .op (.mov (.t 1)), none⟩,
 ⟨some 202, .op (.mov (.t 20)), none⟩,
 ⟨some 203, .op (.mov (.t 18)), none⟩,
 ⟨some 204, .op (.mov (.t 4)), none⟩,
 ⟨some 205, .call (.c (.func (.func 268) #[] #[])) [.t 200, .t 201, .t 202, .t 203, .t 204], none⟩] [0, 3, 4, 18, 24])
 (.skip)))
 (.seq (.region [⟨some 206, .op (.mov (.t 18)), none⟩,
 ⟨some 207, .op (.mov (.t 24)), none⟩,
 ⟨some 208, .op (.bin .lss .basic (.t 206) (.t 207)), none⟩,
 ⟨some 209, .op (.mov (.t 208)), none⟩,
 ⟨some 210, .op (.mov (.t 24)), some (209, true)⟩,
 ⟨some 211, .op (.mov (.t 3)), some (209, true)⟩,
 ⟨some 212, .op (.bin .lss .basic (.t 210) (.t 211)), some (209, true)⟩,
 ⟨some 213, .pick (.t 209) (.t 212) (.c (.bool false)), none⟩] [0, 3, 4, 18, 24, 213])
 (.cond (.t 213)
 (.region [⟨some 214, .op (.mov (.t 0)), none⟩,
 ⟨some 215, .op (.mov (.t 18)), none⟩,
 ⟨some 216, .op (.mov (.t 24)), none⟩,
 ⟨some 217, .op (.mov (.t 3)), none⟩,
 ⟨some 218, .op (.mov (.t 4)), none⟩,
 ⟨some 219, .call (.c (.func (.func 268) #[] #[])) [.t 214, .t 215, .t 216, .t 217, .t 218], none⟩] [])
 (.skip)))))))))))))⟩

theorem lf268_ok : cFunc Tryz.prog Tryz.f268 [[0, 1, 2, 3, 4, 28], [0, 1, 3, 4, 10], [0, 1, 4, 10, 11], [0, 1, 4, 10, 11, 33], [0, 1, 4, 10, 11, 12], [0, 1, 4, 10, 11, 12, 50], [0, 1, 4, 10, 11], [0, 1, 4, 10, 11], [0, 10, 13], [0, 10, 13, 58], [0, 10, 13], [0, 10, 13], [0, 1, 2, 3, 4, 80], [0, 2, 4, 14], [0, 2, 4, 14, 15], [0, 2, 4, 14, 15, 85], [0, 2, 4, 14, 15, 16], [0, 2, 4, 14, 15, 16, 103], [0, 2, 4, 14, 15], [0, 2, 4, 14, 15], [0, 14, 17], [0, 14, 17, 110], [0, 14, 17], [0, 14, 17], [0, 1, 2, 3, 4, 18], [0, 1, 2, 3, 4, 18, 19], [0, 1, 2, 3, 4, 18, 19], [0, 1, 2, 3, 4, 18, 19, 140], [0, 1, 2, 3, 4, 18, 19, 20], [0, 1, 2, 3, 4, 18, 19, 20, 21], [0, 1, 2, 3, 4, 18, 19, 20], [0, 1, 2, 3, 4, 18, 19, 20, 21], [0, 1, 2, 3, 4, 18, 19, 20, 21, 22], [0, 1, 2, 3, 4, 18, 19, 20, 21, 22, 151], [0, 1, 2, 3, 4, 18, 19, 20, 21, 22, 23], [0, 1, 2, 3, 4, 18, 19, 20, 21, 22, 23, 171], [0, 1, 2, 3, 4, 18, 19, 20, 21, 22], [0, 1, 2, 3, 4, 18, 19, 20, 21, 22], [0, 1, 2, 3, 4, 18, 20, 24], [0, 1, 2, 3, 4, 18, 20, 24, 185], [0, 1, 3, 4, 18, 20, 24], [0, 1, 3, 4, 18, 20, 24, 199], [0, 3, 4, 18, 24], [0, 3, 4, 18, 24, 213], []] = some lf268 := by kernel_rfl

/-- slices.rotateCmpFunc[int] -/
def lf273 : LFunc := ⟨58, [],
 .seq (.region [⟨some 12, .op (.mov (.t 2)), none⟩,
 ⟨some 13, .op (.mov (.t 1)), none⟩,
 ⟨some 14, .op (.bin .sub .basic (.t 12) (.t 13)), none⟩,
 ⟨some 10, .op (.mov (.t 14)), none⟩] [0, 2, 3, 4, 10])
 (.seq (.region [⟨some 15, .op (.mov (.t 3)), none⟩,
 ⟨some 16, .op (.mov (.t 2)), none⟩,
 ⟨some 17, .op (.bin .sub .basic (.t 15) (.t 16)), none⟩,
 ⟨some 11, .op (.mov (.t 17)), none⟩] [0, 2, 4, 10, 11])
 (.seq (.block 0 (.loop (.seq (.seq (.region [⟨some 18, .op (.mov (.t 10)), none⟩,
 ⟨some 19, .op (.mov (.t 11)), none⟩,
 ⟨some 20, .op (.bin .neq .basic (.t 18) (.t 19)), none⟩] [0, 2, 4, 10, 11, 20])
 (.cond (.t 20)
 (.skip)
 (.exit 0)))
 (.block 1 (.seq (.region [⟨some 21, .op (.mov (.t 10)), none⟩,
 ⟨some 22, .op (.mov (.t 11)), none⟩,
 ⟨some 23, .op (.bin .gtr .basic (.t 21) (.t 22)), none⟩] [0, 2, 4, 10, 11, 23])
 (.cond (.t 23)
 (.seq (.region [⟨some 24, .op (.mov (.t 0)), none⟩,
 ⟨some 25, .op (.mov (.t 2)), none⟩,
 ⟨some 26, .op (.mov (.t 10)), none⟩,
 ⟨some 27, .op (.bin .sub .basic (.t 25) (.t 26)), none⟩,
 ⟨some 28, .op (.mov (.t 2)), none⟩,
 ⟨some 29, .op (.mov (.t 11)), none⟩,
 ⟨some 30, .op (.mov (.t 4)), none⟩,
 ⟨some 31, .call (.c (.func (.func 282) #[] #[])) [.t 24, .t 27, .t 28, .t 29, .t 30], none⟩] [0, 2, 4, 10, 11])
 (.region [⟨some 32, .op (.mov (.t 10)), none⟩,
 ⟨some 33, .op (.mov (.t 11)), none⟩,
 ⟨some 34, .op (.bin .sub .basic (.t 32) (.t 33)), none⟩,
 ⟨some 10, .op (.mov (.t 34)), none⟩] [0, 2, 4, 10, 11]))
 (.seq (.region [⟨some 35, .op (.mov (.t 0)), none⟩,
 ⟨some 36, .op (.mov (.t 2)), none⟩,
 ⟨some 37, .op (.mov (.t 10)), none⟩,
 ⟨some 38, .op (.bin .sub .basic (.t 36) (.t 37)), none⟩,
 ⟨some 39, .op (.mov (.t 2)), none⟩,
 ⟨some 40, .op (.mov (.t 11)), none⟩,
 ⟨some 41, .op (.bin .add .basic (.t 39) (.t 40)), none⟩,
 ⟨some 42, .op (.mov (.t 10)), none⟩,
 ⟨some 43, .op (.bin .sub .basic (.t 41) (.t 42)), none⟩,
 ⟨some 44, .op (.mov (.t 10)), none⟩,
 ⟨some 45, .op (.mov (.t 4)), none⟩,
 ⟨some 46, .call (.c (.func (.func 282) #[] #[])) [.t 35, .t 38, .t 43, .t 44, .t 45], none⟩] [0, 2, 4, 10, 11])
 (.region [⟨some 47, .op (.mov (.t 11)), none⟩,
 ⟨some 48, .op (.mov (.t 10)), none⟩,
 ⟨some 49, .op (.bin .sub .basic (.t 47) (.t 48)), none⟩,
 ⟨some 11, .op (.mov (.t 49)), none⟩] [0, 2, 4, 10, 11]))))))))
 (.region [⟨some 50, .op (.mov (.t 0)), none⟩,
 ⟨some 51, .op (.mov (.t 2)), none⟩,
 ⟨some 52, .op (.mov (.t 10)), none⟩,
 ⟨some 53, .op (.bin .sub .basic (.t 51) (.t 52)), none⟩,
 ⟨some 54, .op (.mov (.t 2)), none⟩,
 ⟨some 55, .op (.mov (.t 10)), none⟩,
 ⟨some 56, .op (.mov (.t 4)), none⟩,
 ⟨some 57, .call (.c (.func (.func 282) #[] #[])) [.t 50, .t 53, .t 54, .t 55, .t 56], none⟩] [])))⟩

theorem lf273_ok : cFunc Tryz.prog Tryz.f273 [[0, 2, 3, 4, 10], [0, 2, 4, 10, 11], [0, 2, 4, 10, 11, 20], [0, 2, 4, 10, 11, 23], [0, 2, 4, 10, 11], [0, 2, 4, 10, 11], [0, 2, 4, 10, 11], [0, 2, 4, 10, 11], []] = some lf273 := by kernel_rfl

/-- slices.swapRangeCmpFunc[int] -/
def lf282 : LFunc := ⟨38, [],
 .seq (.region [⟨some 10, .op (.mov (.c (.int .i64 0))), none⟩] [0, 1, 2, 3, 10])
 (.block 0 (.loop (.seq (.seq (.region [⟨some 11, .op (.mov (.t 10)), none⟩,
 ⟨some 12, .op (.mov (.t 3)), none⟩,
 ⟨some 13, .op (.bin .lss .basic (.t 11) (.t 12)), none⟩] [0, 1, 2, 3, 10, 13])
 (.cond (.t 13)
 (.skip)
 (.exit 0)))
 (.seq (.block 1 (.dregion [(⟨some 16, .op (.mov (.t 0)), none⟩, 0, 0),
 (⟨some 17, .op (.mov (.t 1)), none⟩, 0, 0),
 (⟨some 18, .op (.mov (.t 10)), none⟩, 0, 0),
 (⟨some 19, .op (.bin .add .basic (.t 17) (.t 18)), none⟩, 0, 0),
 (⟨some 20, .op (.mov (.t 0)), none⟩, 0, 1),
 (⟨some 21, .op (.mov (.t 2)), none⟩, 0, 1),
 (⟨some 22, .op (.mov (.t 10)), none⟩, 0, 1),
 (⟨some 23, .op (.bin .add .basic (.t 21) (.t 22)), none⟩, 0, 1),
 (⟨some 24, .op (.mov (.t 0)), none⟩, 0, 0),
 (⟨some 25, .op (.mov (.t 2)), none⟩, 0, 0),
 (⟨some 26, .op (.mov (.t 10)), none⟩, 0, 0),
 (⟨some 27, .op (.bin .add .basic (.t 25) (.t 26)), none⟩, 0, 0),
 (⟨some 28, .op (.idxAddrS 1 (.t 24) (.t 27)), none⟩, 0, 0),
 (⟨some 29, .op (.load1 (.t 28)), none⟩, 0, 0),
 (⟨some 30, .op (.mov (.t 0)), none⟩, 0, 0),
 (⟨some 31, .op (.mov (.t 1)), none⟩, 0, 0),
 (⟨some 32, .op (.mov (.t 10)), none⟩, 0, 0),
 (⟨some 33, .op (.bin .add .basic (.t 31) (.t 32)), none⟩, 0, 0),
 (⟨some 34, .op (.idxAddrS 1 (.t 30) (.t 33)), none⟩, 0, 0),
 (⟨some 35, .op (.load1 (.t 34)), none⟩, 0, 0),
 (⟨some 36, .op (.idxAddrS 1 (.t 16) (.t 19)), none⟩, 0, 0),
 (⟨none, .op (.store 1 (.t 36) (.t 29)), none⟩, 0, 1),
 (⟨some 37, .op (.idxAddrS 1 (.t 20) (.t 23)), none⟩, 1, 1),
 (⟨none, .op (.store 1 (.t 37) (.t 35)), none⟩, 1, 2)] [0, 1, 2, 3, 10]))
 (.region [⟨some 14, .op (.mov (.t 10)), none⟩,
 ⟨some 15, .op (.bin .add .basic (.t 14) (.c (.int .i64 1))), none⟩,
 ⟨some 10, .op (.mov (.t 15)), none⟩] [0, 1, 2, 3, 10])))))⟩

theorem lf282_ok : cFunc Tryz.prog Tryz.f282 [[0, 1, 2, 3, 10], [0, 1, 2, 3, 10, 13], [0, 1, 2, 3, 10], [0, 1, 2, 3, 10]] = some lf282 := by kernel_rfl

def tabA : List (FuncId × LFunc) := [(21, lf21), (27, lf27), (28, lf28), (29, lf29), (31, lf31), (41, lf41), (43, lf43), (51, lf51), (52, lf52), (54, lf54), (68, lf68), (79, lf79), (81, lf81), (99, lf99), (106, lf106), (107, lf107), (109, lf109), (113, lf113), (122, lf122), (123, lf123), (124, lf124), (126, lf126), (141, lf141), (142, lf142), (143, lf143), (149, lf149), (152, lf152), (156, lf156), (157, lf157), (158, lf158), (159, lf159), (160, lf160), (161, lf161), (162, lf162), (173, lf173), (178, lf178), (180, lf180), (183, lf183), (184, lf184), (185, lf185), (196, lf196), (198, lf198), (200, lf200), (203, lf203), (204, lf204), (205, lf205), (206, lf206), (214, lf214), (217, lf217), (218, lf218), (224, lf224), (225, lf225), (232, lf232), (237, lf237), (239, lf239), (240, lf240), (241, lf241), (247, lf247), (248, lf248), (249, lf249), (256, lf256), (257, lf257), (260, lf260), (267, lf267), (268, lf268), (273, lf273), (282, lf282)]

theorem tabA_ok : ∀ p ∈ tabA, ∃ fn ks nt, Tryz.prog.funcs[p.1]? = some fn ∧ cFunc Tryz.prog fn ks nt = some p.2 := by
  unfold tabA
  refine List.forall_mem_cons.2 ⟨⟨_, _, _, Tryz.func21, lf21_ok⟩, ?_⟩
  refine List.forall_mem_cons.2 ⟨⟨_, _, _, Tryz.func27, lf27_ok⟩, ?_⟩
  refine List.forall_mem_cons.2 ⟨⟨_, _, _, Tryz.func28, lf28_ok⟩, ?_⟩
  refine List.forall_mem_cons.2 ⟨⟨_, _, _, Tryz.func29, lf29_ok⟩, ?_⟩
  refine List.forall_mem_cons.2 ⟨⟨_, _, _, Tryz.func31, lf31_ok⟩, ?_⟩
  refine List.forall_mem_cons.2 ⟨⟨_, _, _, Tryz.func41, lf41_ok⟩, ?_⟩
  refine List.forall_mem_cons.2 ⟨⟨_, _, _, Tryz.func43, lf43_ok⟩, ?_⟩
  refine List.forall_mem_cons.2 ⟨⟨_, _, _, Tryz.func51, lf51_ok⟩, ?_⟩
  refine List.forall_mem_cons.2 ⟨⟨_, _, _, Tryz.func52, lf52_ok⟩, ?_⟩
  refine List.forall_mem_cons.2 ⟨⟨_, _, _, Tryz.func54, lf54_ok⟩, ?_⟩
  refine List.forall_mem_cons.2 ⟨⟨_, _, _, Tryz.func68, lf68_ok⟩, ?_⟩
  refine List.forall_mem_cons.2 ⟨⟨_, _, _, Tryz.func79, lf79_ok⟩, ?_⟩
  refine List.forall_mem_cons.2 ⟨⟨_, _, _, Tryz.func81, lf81_ok⟩, ?_⟩
  refine List.forall_mem_cons.2 ⟨⟨_, _, _, Tryz.func99, lf99_ok⟩, ?_⟩
  refine List.forall_mem_cons.2 ⟨⟨_, _, _, Tryz.func106, lf106_ok⟩, ?_⟩
  refine List.forall_mem_cons.2 ⟨⟨_, _, _, Tryz.func107, lf107_ok⟩, ?_⟩
  refine List.forall_mem_cons.2 ⟨⟨_, _, _, Tryz.func109, lf109_ok⟩, ?_⟩
  refine List.forall_mem_cons.2 ⟨⟨_, _, _, Tryz.func113, lf113_ok⟩, ?_⟩
  refine List.forall_mem_cons.2 ⟨⟨_, _, _, Tryz.func122, lf122_ok⟩, ?_⟩
  refine List.forall_mem_cons.2 ⟨⟨_, _, _, Tryz.func123, lf123_ok⟩, ?_⟩
  refine List.forall_mem_cons.2 ⟨⟨_, _, _, Tryz.func124, lf124_ok⟩, ?_⟩
  refine List.forall_mem_cons.2 ⟨⟨_, _, _, Tryz.func126, lf126_ok⟩, ?_⟩
  refine List.forall_mem_cons.2 ⟨⟨_, _, _, Tryz.func141, lf141_ok⟩, ?_⟩
  refine List.forall_mem_cons.2 ⟨⟨_, _, _, Tryz.func142, lf142_ok⟩, ?_⟩
  refine List.forall_mem_cons.2 ⟨⟨_, _, _, Tryz.func143, lf143_ok⟩, ?_⟩
  refine List.forall_mem_cons.2 ⟨⟨_, _, _, Tryz.func149, lf149_ok⟩, ?_⟩
  refine List.forall_mem_cons.2 ⟨⟨_, _, _, Tryz.func152, lf152_ok⟩, ?_⟩
  refine List.forall_mem_cons.2 ⟨⟨_, _, _, Tryz.func156, lf156_ok⟩, ?_⟩
  refine List.forall_mem_cons.2 ⟨⟨_, _, _, Tryz.func157, lf157_ok⟩, ?_⟩
  refine List.forall_mem_cons.2 ⟨⟨_, _, _, Tryz.func158, lf158_ok⟩, ?_⟩
  refine List.forall_mem_cons.2 ⟨⟨_, _, _, Tryz.func159, lf159_ok⟩, ?_⟩
  refine List.forall_mem_cons.2 ⟨⟨_, _, _, Tryz.func160, lf160_ok⟩, ?_⟩
  refine List.forall_mem_cons.2 ⟨⟨_, _, _, Tryz.func161, lf161_ok⟩, ?_⟩
  refine List.forall_mem_cons.2 ⟨⟨_, _, _, Tryz.func162, lf162_ok⟩, ?_⟩
  refine List.forall_mem_cons.2 ⟨⟨_, _, _, Tryz.func173, lf173_ok⟩, ?_⟩
  refine List.forall_mem_cons.2 ⟨⟨_, _, _, Tryz.func178, lf178_ok⟩, ?_⟩
  refine List.forall_mem_cons.2 ⟨⟨_, _, _, Tryz.func180, lf180_ok⟩, ?_⟩
  refine List.forall_mem_cons.2 ⟨⟨_, _, _, Tryz.func183, lf183_ok⟩, ?_⟩
  refine List.forall_mem_cons.2 ⟨⟨_, _, _, Tryz.func184, lf184_ok⟩, ?_⟩
  refine List.forall_mem_cons.2 ⟨⟨_, _, _, Tryz.func185, lf185_ok⟩, ?_⟩
  refine List.forall_mem_cons.2 ⟨⟨_, _, _, Tryz.func196, lf196_ok⟩, ?_⟩
  refine List.forall_mem_cons.2 ⟨⟨_, _, _, Tryz.func198, lf198_ok⟩, ?_⟩
  refine List.forall_mem_cons.2 ⟨⟨_, _, _, Tryz.func200, lf200_ok⟩, ?_⟩
  refine List.forall_mem_cons.2 ⟨⟨_, _, _, Tryz.func203, lf203_ok⟩, ?_⟩
  refine List.forall_mem_cons.2 ⟨⟨_, _, _, Tryz.func204, lf204_ok⟩, ?_⟩
  refine List.forall_mem_cons.2 ⟨⟨_, _, _, Tryz.func205, lf205_ok⟩, ?_⟩
  refine List.forall_mem_cons.2 ⟨⟨_, _, _, Tryz.func206, lf206_ok⟩, ?_⟩
  refine List.forall_mem_cons.2 ⟨⟨_, _, _, Tryz.func214, lf214_ok⟩, ?_⟩
  refine List.forall_mem_cons.2 ⟨⟨_, _, _, Tryz.func217, lf217_ok⟩, ?_⟩
  refine List.forall_mem_cons.2 ⟨⟨_, _, _, Tryz.func218, lf218_ok⟩, ?_⟩
  refine List.forall_mem_cons.2 ⟨⟨_, _, _, Tryz.func224, lf224_ok⟩, ?_⟩
  refine List.forall_mem_cons.2 ⟨⟨_, _, _, Tryz.func225, lf225_ok⟩, ?_⟩
  refine List.forall_mem_cons.2 ⟨⟨_, _, _, Tryz.func232, lf232_ok⟩, ?_⟩
  refine List.forall_mem_cons.2 ⟨⟨_, _, _, Tryz.func237, lf237_ok⟩, ?_⟩
  refine List.forall_mem_cons.2 ⟨⟨_, _, _, Tryz.func239, lf239_ok⟩, ?_⟩
  refine List.forall_mem_cons.2 ⟨⟨_, _, _, Tryz.func240, lf240_ok⟩, ?_⟩
  refine List.forall_mem_cons.2 ⟨⟨_, _, _, Tryz.func241, lf241_ok⟩, ?_⟩
  refine List.forall_mem_cons.2 ⟨⟨_, _, _, Tryz.func247, lf247_ok⟩, ?_⟩
  refine List.forall_mem_cons.2 ⟨⟨_, _, _, Tryz.func248, lf248_ok⟩, ?_⟩
  refine List.forall_mem_cons.2 ⟨⟨_, _, _, Tryz.func249, lf249_ok⟩, ?_⟩
  refine List.forall_mem_cons.2 ⟨⟨_, _, _, Tryz.func256, lf256_ok⟩, ?_⟩
  refine List.forall_mem_cons.2 ⟨⟨_, _, _, Tryz.func257, lf257_ok⟩, ?_⟩
  refine List.forall_mem_cons.2 ⟨⟨_, _, _, Tryz.func260, lf260_ok⟩, ?_⟩
  refine List.forall_mem_cons.2 ⟨⟨_, _, _, Tryz.func267, lf267_ok⟩, ?_⟩
  refine List.forall_mem_cons.2 ⟨⟨_, _, _, Tryz.func268, lf268_ok⟩, ?_⟩
  refine List.forall_mem_cons.2 ⟨⟨_, _, _, Tryz.func273, lf273_ok⟩, ?_⟩
  refine List.forall_mem_cons.2 ⟨⟨_, _, _, Tryz.func282, lf282_ok⟩, ?_⟩
  intro p hp; cases hp

end Go.E1
