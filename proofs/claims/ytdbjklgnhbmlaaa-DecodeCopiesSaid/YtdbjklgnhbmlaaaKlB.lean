/-
  The engine's code of some functions, printed by a small program, and that it is what the loaded functions become.
-/
import Derived.Test.YtdbjklgnhbmlaaaProg
import Derived.Test.YtdbjklgnhbmlaaaKd
namespace Go.E1
open Go Go.Proofs

/-- squint/decode.New -/
def lf19 : LFunc := ⟨28, [.tmp 4, .tmp 5],
  .seq (.region [⟨some 4, .op (.mov (.c (.pointer none))), none⟩,
      ⟨some 5, .op (.mov (.c (.int .i64 0))), none⟩] [0, 1])
  (.seq (.region [⟨some 9, .op (.mov (.t 0)), none⟩,
      ⟨some 10, .call (.c (.func (.func 46) #[] #[])) [.t 9], none⟩,
      ⟨some 8, .op (.mov (.t 10)), none⟩,
      ⟨some 11, .op (.extract 0 (.t 8)), none⟩,
      ⟨some 12, .op (.extract 1 (.t 8)), none⟩,
      ⟨some 6, .op (.mov (.t 11)), none⟩,
      ⟨some 7, .op (.mov (.t 12)), none⟩] [0, 1, 6, 7])
  (.seq (.seq (.region [⟨some 13, .op (.mov (.t 7)), none⟩,
        ⟨some 14, .op (.bin .neq .basic (.t 13) (.c (.int .i64 0))), none⟩,
        ⟨some 15, .op (.mov (.t 14)), none⟩,
        ⟨some 16, .op (.mov (.t 1)), some (15, false)⟩,
        ⟨some 17, .op (.bin .lss .basic (.t 16) (.c (.int .i64 0))), some (15, false)⟩,
        ⟨some 18, .pick (.t 15) (.c (.bool true)) (.t 17), none⟩,
        ⟨some 19, .op (.mov (.t 18)), none⟩,
        ⟨some 20, .op (.mov (.t 1)), some (19, false)⟩,
        ⟨some 21, .op (.bin .gtr .basic (.t 20) (.c (.int .i64 16384))), some (19, false)⟩,
        ⟨some 22, .pick (.t 19) (.c (.bool true)) (.t 21), none⟩] [0, 1, 6, 22])
    (.cond (.t 22)
      (.seq (.region [⟨some 4, .op (.mov (.c (.pointer none))), none⟩,
          ⟨some 5, .op (.mov (.c (.int .i64 11))), none⟩] [4, 5])
      (.ret))
      (.skip)))
  (.seq (.region [⟨some 23, .op (.mov (.t 6)), none⟩,
      ⟨some 24, .op (.mov (.t 0)), none⟩,
      ⟨some 25, .op (.mov (.t 1)), none⟩,
      ⟨some 26, .op (.build [.pointer none, .int .i64 0, .int .i64 0, .bool false] [(0, 1, .t 23), (1, 1, .t 24), (2, 1, .t 25)]), none⟩,
      ⟨some 27, .op (.box (.t 26)), none⟩,
      ⟨some 4, .op (.mov (.t 27)), none⟩,
      ⟨some 5, .op (.mov (.c (.int .i64 0))), none⟩] [4, 5])
  (.ret))))⟩

theorem lf19_ok : cFunc Try.prog Try.f19 [[0, 1], [0, 1, 6, 7], [0, 1, 6, 22], [4, 5], [4, 5]] = some lf19 := by kernel_rfl

/-- (*squint/decode.Decoder).Decode -/
def lf20 : LFunc := ⟨74, [.tmp 4, .tmp 5],
  .seq (.region [⟨some 4, .op (.mov (.c (.slice none 0 0))), none⟩,
      ⟨some 5, .op (.mov (.c (.int .i64 0))), none⟩] [0, 1])
  (.seq (.seq (.region [⟨some 11, .op (.mov (.t 0)), none⟩,
        ⟨some 12, .op (.nilCheck (.t 11)), none⟩,
        ⟨some 13, .op (.fieldAddr 3 (.t 12)), none⟩,
        ⟨some 14, .op (.load1 (.t 13)), none⟩] [0, 1, 14])
    (.cond (.t 14)
      (.seq (.region [⟨some 4, .op (.mov (.c (.slice none 0 0))), none⟩,
          ⟨some 5, .op (.mov (.c (.int .i64 25))), none⟩] [4, 5])
      (.ret))
      (.skip)))
  (.seq (.region [⟨some 15, .op (.mov (.t 1)), none⟩,
      ⟨some 16, .op (.build [.slice none 0 0, .int .i64 0, .int .i64 0] [(0, 1, .t 15)]), none⟩,
      ⟨some 17, .op (.box (.t 16)), none⟩,
      ⟨some 6, .op (.mov (.t 17)), none⟩] [0, 1, 6])
  (.seq (.region [⟨some 7, .op (.mov (.c (.slice none 0 0))), none⟩] [0, 1, 6, 7])
  (.seq (.region [⟨some 8, .op (.mov (.c (.int .i64 0))), none⟩] [0, 1, 6, 7, 8])
  (.seq (.block 0 (.loop (.seq (.seq (.region [⟨some 18, .op (.mov (.t 6)), none⟩,
              ⟨some 19, .op (.nilCheck (.t 18)), none⟩,
              ⟨some 20, .op (.fieldAddr 1 (.t 19)), none⟩,
              ⟨some 21, .op (.load1 (.t 20)), none⟩,
              ⟨some 22, .op (.mov (.t 1)), none⟩,
              ⟨some 23, .op (.lenS (.t 22)), none⟩,
              ⟨some 24, .op (.bin .lss .basic (.t 21) (.t 23)), none⟩,
              ⟨some 25, .op (.mov (.t 24)), none⟩,
              ⟨some 26, .op (.mov (.t 6)), some (25, true)⟩,
              ⟨some 27, .op (.nilCheck (.t 26)), some (25, true)⟩,
              ⟨some 28, .op (.fieldAddr 2 (.t 27)), some (25, true)⟩,
              ⟨some 29, .op (.load1 (.t 28)), some (25, true)⟩,
              ⟨some 30, .op (.bin .eql .basic (.t 29) (.c (.int .i64 0))), some (25, true)⟩,
              ⟨some 31, .pick (.t 25) (.t 30) (.c (.bool false)), none⟩] [0, 1, 6, 7, 8, 31])
          (.cond (.t 31)
            (.skip)
            (.exit 0)))
        (.block 1 (.seq (.region [⟨some 33, .op (.mov (.t 0)), none⟩,
              ⟨some 34, .op (.mov (.t 6)), none⟩,
              ⟨some 35, .op (.mov (.t 7)), none⟩,
              ⟨some 36, .op (.lenS (.t 35)), none⟩,
              ⟨some 37, .op (.bin .eql .basic (.t 36) (.c (.int .i64 0))), none⟩,
              ⟨some 38, .call (.c (.func (.func 47) #[] #[])) [.t 33, .t 34, .t 37], none⟩,
              ⟨some 32, .op (.mov (.t 38)), none⟩,
              ⟨some 39, .op (.extract 0 (.t 32)), none⟩,
              ⟨some 40, .op (.extract 1 (.t 32)), none⟩,
              ⟨some 9, .op (.alloc [.string ⟨#[]⟩, .string ⟨#[]⟩, .bool false]), none⟩,
              ⟨none, .op (.store 3 (.t 9) (.t 39)), none⟩,
              ⟨some 10, .op (.mov (.t 40)), none⟩] [0, 1, 6, 7, 8, 9, 10])
          (.seq (.seq (.region [⟨some 41, .op (.mov (.t 10)), none⟩,
                ⟨some 42, .op (.un .not (.t 41)), none⟩] [0, 1, 6, 7, 8, 9, 42])
            (.cond (.t 42)
              (.exit 1)
              (.skip)))
          (.seq (.region [⟨some 43, .op (.mov (.t 7)), none⟩,
              ⟨some 44, .op (.loadN 3 (.t 9)), none⟩,
              ⟨some 45, .op (.buildSlice 1 3 [.string ⟨#[]⟩, .string ⟨#[]⟩, .bool false] [(0, 3, .t 44)]), none⟩,
              ⟨some 46, .op (.append 3 40 (.t 43) (.t 45)), none⟩,
              ⟨some 7, .op (.mov (.t 46)), none⟩] [0, 1, 6, 7, 8, 9])
          (.seq (.region [⟨some 47, .op (.mov (.t 8)), none⟩,
              ⟨some 48, .op (.fieldAddr 0 (.t 9)), none⟩,
              ⟨some 49, .op (.loadN 2 (.t 48)), none⟩,
              ⟨some 50, .call (.c (.func (.func 29) #[] #[])) [.t 49], none⟩,
              ⟨some 51, .op (.bin .add .basic (.t 47) (.t 50)), none⟩,
              ⟨some 8, .op (.mov (.t 51)), none⟩] [0, 1, 6, 7, 8])
          (.seq (.region [⟨some 52, .op (.mov (.t 8)), none⟩,
              ⟨some 53, .op (.mov (.t 0)), none⟩,
              ⟨some 54, .op (.nilCheck (.t 53)), none⟩,
              ⟨some 55, .op (.fieldAddr 2 (.t 54)), none⟩,
              ⟨some 56, .op (.load1 (.t 55)), none⟩,
              ⟨some 57, .op (.bin .gtr .basic (.t 52) (.t 56)), none⟩] [0, 1, 6, 7, 8, 57])
          (.cond (.t 57)
            (.region [⟨some 58, .op (.mov (.t 6)), none⟩,
              ⟨some 59, .op (.nilCheck (.t 58)), none⟩,
              ⟨some 60, .op (.fieldAddr 2 (.t 59)), none⟩,
              ⟨none, .op (.store 1 (.t 60) (.c (.int .i64 22))), none⟩] [0, 1, 6, 7, 8])
            (.skip)))))))))))
  (.seq (.seq (.region [⟨some 61, .op (.mov (.t 6)), none⟩,
        ⟨some 62, .op (.nilCheck (.t 61)), none⟩,
        ⟨some 63, .op (.fieldAddr 2 (.t 62)), none⟩,
        ⟨some 64, .op (.load1 (.t 63)), none⟩,
        ⟨some 65, .op (.bin .neq .basic (.t 64) (.c (.int .i64 0))), none⟩] [0, 6, 7, 65])
    (.cond (.t 65)
      (.seq (.region [⟨some 66, .op (.mov (.t 0)), none⟩,
          ⟨some 67, .op (.nilCheck (.t 66)), none⟩,
          ⟨some 68, .op (.fieldAddr 3 (.t 67)), none⟩,
          ⟨none, .op (.store 1 (.t 68) (.c (.bool true))), none⟩] [6])
      (.seq (.dregion [(⟨some 69, .op (.mov (.t 6)), none⟩, 0, 0),
          (⟨some 70, .op (.nilCheck (.t 69)), none⟩, 0, 0),
          (⟨some 71, .op (.fieldAddr 2 (.t 70)), none⟩, 0, 0),
          (⟨some 72, .op (.load1 (.t 71)), none⟩, 0, 0),
          (⟨some 4, .op (.mov (.c (.slice none 0 0))), none⟩, 0, 0),
          (⟨some 5, .op (.mov (.t 72)), none⟩, 0, 0)] [4, 5])
      (.ret)))
      (.skip)))
  (.seq (.region [⟨some 73, .op (.mov (.t 7)), none⟩,
      ⟨some 4, .op (.mov (.t 73)), none⟩,
      ⟨some 5, .op (.mov (.c (.int .i64 0))), none⟩] [4, 5])
  (.ret))))))))⟩

theorem lf20_ok : cFunc Try.prog Try.f20 [[0, 1], [0, 1, 14], [4, 5], [0, 1, 6], [0, 1, 6, 7], [0, 1, 6, 7, 8], [0, 1, 6, 7, 8, 31], [0, 1, 6, 7, 8, 9, 10], [0, 1, 6, 7, 8, 9, 42], [0, 1, 6, 7, 8, 9], [0, 1, 6, 7, 8], [0, 1, 6, 7, 8, 57], [0, 1, 6, 7, 8], [0, 6, 7, 65], [6], [4, 5], [4, 5]] = some lf20 := by kernel_rfl

/-- (*squint/decode.Decoder).Dead -/
def lf21 : LFunc := ⟨7, [.tmp 2],
  .seq (.region [⟨some 2, .op (.mov (.c (.bool false))), none⟩] [0])
  (.seq (.region [⟨some 3, .op (.mov (.t 0)), none⟩,
      ⟨some 4, .op (.nilCheck (.t 3)), none⟩,
      ⟨some 5, .op (.fieldAddr 3 (.t 4)), none⟩,
      ⟨some 6, .op (.load1 (.t 5)), none⟩,
      ⟨some 2, .op (.mov (.t 6)), none⟩] [2])
  (.ret))⟩

theorem lf21_ok : cFunc Try.prog Try.f21 [[0], [2]] = some lf21 := by kernel_rfl

/-- (*squint/decode.Decoder).Table -/
def lf22 : LFunc := ⟨8, [.tmp 2],
  .seq (.region [⟨some 2, .op (.mov (.c (.pointer none))), none⟩] [0])
  (.seq (.region [⟨some 3, .op (.mov (.t 0)), none⟩,
      ⟨some 4, .op (.nilCheck (.t 3)), none⟩,
      ⟨some 5, .op (.fieldAddr 0 (.t 4)), none⟩,
      ⟨some 6, .op (.load1 (.t 5)), none⟩,
      ⟨some 7, .call (.c (.func (.func 48) #[] #[])) [.t 6], none⟩,
      ⟨some 2, .op (.mov (.t 7)), none⟩] [2])
  (.ret))⟩

theorem lf22_ok : cFunc Try.prog Try.f22 [[0], [2]] = some lf22 := by kernel_rfl

/-- (*squint/dyn.Table).Len -/
def lf23 : LFunc := ⟨13, [.tmp 2],
  .seq (.region [⟨some 2, .op (.mov (.c (.int .i64 0))), none⟩] [0])
  (.seq (.dregion [(⟨some 3, .op (.mov (.t 0)), none⟩, 0, 0),
      (⟨some 4, .op (.nilCheck (.t 3)), none⟩, 0, 0),
      (⟨some 5, .op (.fieldAddr 0 (.t 4)), none⟩, 0, 0),
      (⟨some 6, .op (.load1 (.t 5)), none⟩, 0, 0),
      (⟨some 7, .op (.lenS (.t 6)), none⟩, 0, 0),
      (⟨some 8, .op (.mov (.t 0)), none⟩, 0, 0),
      (⟨some 9, .op (.nilCheck (.t 8)), none⟩, 0, 0),
      (⟨some 10, .op (.fieldAddr 1 (.t 9)), none⟩, 0, 0),
      (⟨some 11, .op (.load1 (.t 10)), none⟩, 0, 0),
      (⟨some 12, .op (.bin .sub .basic (.t 7) (.t 11)), none⟩, 0, 0),
      (⟨some 2, .op (.mov (.t 12)), none⟩, 0, 0)] [2])
  (.ret))⟩

theorem lf23_ok : cFunc Try.prog Try.f23 [[0], [2]] = some lf23 := by kernel_rfl

/-- (*squint/decode.Decoder).Copy -/
def lf27 : LFunc := ⟨22, [.tmp 2],
  .seq (.region [⟨some 2, .op (.mov (.c (.pointer none))), none⟩] [0])
  (.seq (.dregion [(⟨some 3, .op (.mov (.t 0)), none⟩, 0, 0),
      (⟨some 4, .op (.nilCheck (.t 3)), none⟩, 0, 0),
      (⟨some 5, .op (.fieldAddr 0 (.t 4)), none⟩, 0, 0),
      (⟨some 6, .op (.load1 (.t 5)), none⟩, 0, 0),
      (⟨some 7, .call (.c (.func (.func 48) #[] #[])) [.t 6], none⟩, 0, 1),
      (⟨some 8, .op (.mov (.t 0)), none⟩, 0, 1),
      (⟨some 9, .op (.nilCheck (.t 8)), none⟩, 0, 1),
      (⟨some 10, .op (.fieldAddr 1 (.t 9)), none⟩, 0, 1),
      (⟨some 11, .op (.load1 (.t 10)), none⟩, 0, 1),
      (⟨some 12, .op (.mov (.t 0)), none⟩, 0, 1),
      (⟨some 13, .op (.nilCheck (.t 12)), none⟩, 0, 1),
      (⟨some 14, .op (.fieldAddr 2 (.t 13)), none⟩, 0, 1),
      (⟨some 15, .op (.load1 (.t 14)), none⟩, 0, 1),
      (⟨some 16, .op (.mov (.t 0)), none⟩, 0, 1),
      (⟨some 17, .op (.nilCheck (.t 16)), none⟩, 0, 1),
      (⟨some 18, .op (.fieldAddr 3 (.t 17)), none⟩, 0, 1),
      (⟨some 19, .op (.load1 (.t 18)), none⟩, 0, 1),
      (⟨some 20, .op (.build [.pointer none, .int .i64 0, .int .i64 0, .bool false] [(0, 1, .t 7), (1, 1, .t 11), (2, 1, .t 15), (3, 1, .t 19)]), none⟩, 1, 1),
      (⟨some 21, .op (.box (.t 20)), none⟩, 1, 2),
      (⟨some 2, .op (.mov (.t 21)), none⟩, 2, 2)] [2])
  (.ret))⟩

theorem lf27_ok : cFunc Try.prog Try.f27 [[0], [2]] = some lf27 := by kernel_rfl

/-- squint/decode.Fields -/
def lf28 : LFunc := ⟨19, [.tmp 2],
  .seq (.region [⟨some 2, .op (.mov (.c (.slice none 0 0))), none⟩] [0])
  (.seq (.region [⟨some 3, .op (.mov (.c (.slice none 0 0))), none⟩] [0, 3])
  (.seq (.seq (.region [⟨some 6, .op (.mov (.t 0)), none⟩,
        ⟨some 7, .op (.lenS (.t 6)), none⟩,
        ⟨some 8, .op (.mov (.c (.int .i64 0))), none⟩] [3, 6, 7, 8])
    (.block 0 (.loop (.seq (.region [⟨some 9, .op (.bin .lss .basic (.t 8) (.t 7)), none⟩] [3, 6, 7, 8, 9])
        (.seq (.cond (.t 9)
            (.skip)
            (.exit 0))
        (.seq (.block 1 (.seq (.region [⟨some 10, .op (.idxAddrS 3 (.t 6) (.t 8)), none⟩,
                ⟨some 11, .op (.loadN 3 (.t 10)), none⟩,
                ⟨some 5, .op (.alloc [.string ⟨#[]⟩, .string ⟨#[]⟩, .bool false]), none⟩,
                ⟨none, .op (.store 3 (.t 5) (.t 11)), none⟩] [3, 5, 6, 7, 8])
            (.region [⟨some 12, .op (.mov (.t 3)), none⟩,
              ⟨some 13, .op (.fieldAddr 0 (.t 5)), none⟩,
              ⟨some 14, .op (.loadN 2 (.t 13)), none⟩,
              ⟨some 15, .op (.buildSlice 1 2 [.string ⟨#[]⟩, .string ⟨#[]⟩] [(0, 2, .t 14)]), none⟩,
              ⟨some 16, .op (.append 2 32 (.t 12) (.t 15)), none⟩,
              ⟨some 3, .op (.mov (.t 16)), none⟩] [3, 6, 7, 8])))
        (.region [⟨some 17, .op (.bin .add .basic (.t 8) (.c (.int .i64 1))), none⟩,
          ⟨some 8, .op (.mov (.t 17)), none⟩] [3, 6, 7, 8])))))))
  (.seq (.region [⟨some 18, .op (.mov (.t 3)), none⟩,
      ⟨some 2, .op (.mov (.t 18)), none⟩] [2])
  (.ret))))⟩

theorem lf28_ok : cFunc Try.prog Try.f28 [[0], [0, 3], [3, 6, 7, 8], [3, 6, 7, 8, 9], [3, 5, 6, 7, 8], [3, 6, 7, 8], [3, 6, 7, 8], [2]] = some lf28 := by kernel_rfl

/-- (*squint/dyn.Table).Size -/
def lf30 : LFunc := ⟨7, [.tmp 2],
  .seq (.region [⟨some 2, .op (.mov (.c (.int .i64 0))), none⟩] [0])
  (.seq (.region [⟨some 3, .op (.mov (.t 0)), none⟩,
      ⟨some 4, .op (.nilCheck (.t 3)), none⟩,
      ⟨some 5, .op (.fieldAddr 2 (.t 4)), none⟩,
      ⟨some 6, .op (.load1 (.t 5)), none⟩,
      ⟨some 2, .op (.mov (.t 6)), none⟩] [2])
  (.ret))⟩

theorem lf30_ok : cFunc Try.prog Try.f30 [[0], [2]] = some lf30 := by kernel_rfl

/-- (*squint/dyn.Table).Limit -/
def lf31 : LFunc := ⟨7, [.tmp 2],
  .seq (.region [⟨some 2, .op (.mov (.c (.int .i64 0))), none⟩] [0])
  (.seq (.region [⟨some 3, .op (.mov (.t 0)), none⟩,
      ⟨some 4, .op (.nilCheck (.t 3)), none⟩,
      ⟨some 5, .op (.fieldAddr 3 (.t 4)), none⟩,
      ⟨some 6, .op (.load1 (.t 5)), none⟩,
      ⟨some 2, .op (.mov (.t 6)), none⟩] [2])
  (.ret))⟩

theorem lf31_ok : cFunc Try.prog Try.f31 [[0], [2]] = some lf31 := by kernel_rfl

/-- squint/encode.Plain -/
def lf33 : LFunc := ⟨14, [.tmp 2],
  .seq (.region [⟨some 2, .op (.mov (.c (.bool false))), none⟩] [0])
  (.seq (.block 0 (.loop (.seq (.seq (.region [⟨some 4, .op (.mov (.t 0)), none⟩,
              ⟨some 5, .op (.lenS (.t 4)), none⟩,
              ⟨some 6, .op (.bin .gtr .basic (.t 5) (.c (.int .i64 0))), none⟩] [0, 6])
          (.cond (.t 6)
            (.skip)
            (.exit 0)))
        (.block 1 (.seq (.region [⟨some 7, .op (.mov (.t 0)), none⟩,
              ⟨some 8, .call (.c (.func (.func 56) #[] #[])) [.t 7], none⟩,
              ⟨some 3, .op (.mov (.t 8)), none⟩] [0, 3])
          (.seq (.seq (.region [⟨some 9, .op (.mov (.t 3)), none⟩,
                ⟨some 10, .op (.bin .eql .basic (.t 9) (.c (.int .i64 0))), none⟩] [0, 3, 10])
            (.cond (.t 10)
              (.seq (.region [⟨some 2, .op (.mov (.c (.bool false))), none⟩] [2])
              (.ret))
              (.skip)))
          (.region [⟨some 11, .op (.mov (.t 0)), none⟩,
            ⟨some 12, .op (.mov (.t 3)), none⟩,
            ⟨some 13, .op (.slice 1 (.t 11) (some (.t 12)) none none), none⟩,
            ⟨some 0, .op (.mov (.t 13)), none⟩] [0])))))))
  (.seq (.region [⟨some 2, .op (.mov (.c (.bool true))), none⟩] [2])
  (.ret)))⟩

theorem lf33_ok : cFunc Try.prog Try.f33 [[0], [0, 6], [0, 3], [0, 3, 10], [2], [0], [2]] = some lf33 := by kernel_rfl

/-- squint/encode.Line -/
def lf36 : LFunc := ⟨65, [.tmp 2, .tmp 3],
  .seq (.region [⟨some 1, .op (.box (.t 0)), none⟩,
      ⟨some 2, .op (.mov (.c (.slice none 0 0))), none⟩,
      ⟨some 3, .op (.mov (.c (.int .i64 0))), none⟩] [1])
  (.seq (.seq (.region [⟨some 9, .op (.fieldAddr 0 (.t 1)), none⟩,
        ⟨some 10, .op (.fieldAddr 0 (.t 9)), none⟩,
        ⟨some 11, .op (.load1 (.t 10)), none⟩,
        ⟨some 12, .op (.lenStr (.t 11)), none⟩,
        ⟨some 13, .op (.bin .gtr .basic (.t 12) (.c (.int .i64 4096))), none⟩,
        ⟨some 14, .op (.mov (.t 13)), none⟩,
        ⟨some 15, .op (.fieldAddr 0 (.t 1)), some (14, false)⟩,
        ⟨some 16, .op (.fieldAddr 1 (.t 15)), some (14, false)⟩,
        ⟨some 17, .op (.load1 (.t 16)), some (14, false)⟩,
        ⟨some 18, .op (.lenStr (.t 17)), some (14, false)⟩,
        ⟨some 19, .op (.bin .gtr .basic (.t 18) (.c (.int .i64 4096))), some (14, false)⟩,
        ⟨some 20, .pick (.t 14) (.c (.bool true)) (.t 19), none⟩] [1, 20])
    (.cond (.t 20)
      (.seq (.region [⟨some 2, .op (.mov (.c (.slice none 0 0))), none⟩,
          ⟨some 3, .op (.mov (.c (.int .i64 11))), none⟩] [2, 3])
      (.ret))
      (.skip)))
  (.seq (.region [⟨some 22, .op (.fieldAddr 0 (.t 1)), none⟩,
      ⟨some 23, .op (.loadN 2 (.t 22)), none⟩,
      ⟨some 24, .call (.c (.func (.func 42) #[] #[])) [.t 23], none⟩,
      ⟨some 21, .op (.mov (.t 24)), none⟩,
      ⟨some 25, .op (.extract 0 (.t 21)), none⟩,
      ⟨some 26, .op (.extract 1 (.t 21)), none⟩,
      ⟨some 4, .op (.mov (.t 25)), none⟩,
      ⟨some 5, .op (.mov (.t 26)), none⟩] [1, 4, 5])
  (.seq (.seq (.region [⟨some 27, .op (.mov (.t 5)), none⟩,
        ⟨some 28, .op (.mov (.t 27)), none⟩,
        ⟨some 29, .op (.fieldAddr 2 (.t 1)), some (28, true)⟩,
        ⟨some 30, .op (.load1 (.t 29)), some (28, true)⟩,
        ⟨some 31, .op (.un .not (.t 30)), some (28, true)⟩,
        ⟨some 32, .pick (.t 28) (.t 31) (.c (.bool false)), none⟩] [1, 4, 32])
    (.cond (.t 32)
      (.seq (.region [⟨some 33, .op (.mov (.t 4)), none⟩,
          ⟨some 34, .call (.c (.func (.func 57) #[] #[])) [.t 33, .c (.int .i64 7), .c (.int .i64 1)], none⟩,
          ⟨some 35, .op (.extract 0 (.t 34)), none⟩,
          ⟨some 36, .op (.extract 1 (.t 34)), none⟩,
          ⟨some 2, .op (.mov (.t 35)), none⟩,
          ⟨some 3, .op (.mov (.t 36)), none⟩] [2, 3])
      (.ret))
      (.skip)))
  (.seq (.region [⟨some 37, .op (.fieldAddr 0 (.t 1)), none⟩,
      ⟨some 38, .op (.fieldAddr 0 (.t 37)), none⟩,
      ⟨some 39, .op (.load1 (.t 38)), none⟩,
      ⟨some 40, .call (.c (.func (.func 43) #[] #[])) [.t 39], none⟩,
      ⟨some 6, .op (.mov (.t 40)), none⟩] [1, 6])
  (.seq (.region [⟨some 42, .op (.mov (.t 6)), none⟩,
      ⟨some 43, .op (.loadN 3 (.t 1)), none⟩,
      ⟨some 44, .call (.c (.func (.func 58) #[] #[])) [.t 43], none⟩,
      ⟨some 45, .call (.c (.func (.func 57) #[] #[])) [.t 42, .c (.int .i64 4), .t 44], none⟩,
      ⟨some 41, .op (.mov (.t 45)), none⟩,
      ⟨some 46, .op (.extract 0 (.t 41)), none⟩,
      ⟨some 47, .op (.extract 1 (.t 41)), none⟩,
      ⟨some 7, .op (.mov (.t 46)), none⟩,
      ⟨some 8, .op (.mov (.t 47)), none⟩] [1, 6, 7, 8])
  (.seq (.seq (.region [⟨some 48, .op (.mov (.t 6)), none⟩,
        ⟨some 49, .op (.bin .eql .basic (.t 48) (.c (.int .i64 0))), none⟩] [1, 7, 8, 49])
    (.cond (.t 49)
      (.region [⟨some 50, .op (.mov (.t 7)), none⟩,
        ⟨some 51, .op (.fieldAddr 0 (.t 1)), none⟩,
        ⟨some 52, .op (.fieldAddr 0 (.t 51)), none⟩,
        ⟨some 53, .op (.load1 (.t 52)), none⟩,
        ⟨some 54, .op (.strBytes (.t 53)), none⟩,
        ⟨some 55, .call (.c (.func (.func 59) #[] #[])) [.t 54], none⟩,
        ⟨some 56, .op (.append 1 1 (.t 50) (.t 55)), none⟩,
        ⟨some 7, .op (.mov (.t 56)), none⟩] [1, 7, 8])
      (.skip)))
  (.seq (.region [⟨some 57, .op (.mov (.t 7)), none⟩,
      ⟨some 58, .op (.fieldAddr 0 (.t 1)), none⟩,
      ⟨some 59, .op (.fieldAddr 1 (.t 58)), none⟩,
      ⟨some 60, .op (.load1 (.t 59)), none⟩,
      ⟨some 61, .op (.strBytes (.t 60)), none⟩,
      ⟨some 62, .call (.c (.func (.func 59) #[] #[])) [.t 61], none⟩,
      ⟨some 63, .op (.append 1 1 (.t 57) (.t 62)), none⟩,
      ⟨some 64, .op (.mov (.t 8)), none⟩,
      ⟨some 2, .op (.mov (.t 63)), none⟩,
      ⟨some 3, .op (.mov (.t 64)), none⟩] [2, 3])
  (.ret))))))))⟩

theorem lf36_ok : cFunc Try.prog Try.f36 [[1], [1, 20], [2, 3], [1, 4, 5], [1, 4, 32], [2, 3], [1, 6], [1, 6, 7, 8], [1, 7, 8, 49], [1, 7, 8], [2, 3]] = some lf36 := by kernel_rfl

/-- squint/encode.Encode -/
def lf39 : LFunc := ⟨30, [.tmp 2, .tmp 3],
  .seq (.region [⟨some 2, .op (.mov (.c (.slice none 0 0))), none⟩,
      ⟨some 3, .op (.mov (.c (.int .i64 0))), none⟩] [0])
  (.seq (.region [⟨some 4, .op (.mov (.c (.slice none 0 0))), none⟩] [0, 4])
  (.seq (.seq (.region [⟨some 9, .op (.mov (.t 0)), none⟩,
        ⟨some 10, .op (.lenS (.t 9)), none⟩,
        ⟨some 11, .op (.mov (.c (.int .i64 0))), none⟩] [4, 9, 10, 11])
    (.block 0 (.loop (.seq (.region [⟨some 12, .op (.bin .lss .basic (.t 11) (.t 10)), none⟩] [4, 9, 10, 11, 12])
        (.seq (.cond (.t 12)
            (.skip)
            (.exit 0))
        (.seq (.block 1 (.seq (.region [⟨some 13, .op (.idxAddrS 3 (.t 9) (.t 11)), none⟩,
                ⟨some 14, .op (.loadN 3 (.t 13)), none⟩,
                ⟨some 6, .op (.alloc [.string ⟨#[]⟩, .string ⟨#[]⟩, .bool false]), none⟩,
                ⟨none, .op (.store 3 (.t 6) (.t 14)), none⟩] [4, 6, 9, 10, 11])
            (.seq (.region [⟨some 16, .op (.loadN 3 (.t 6)), none⟩,
                ⟨some 17, .call (.c (.func (.func 36) #[] #[])) [.t 16], none⟩,
                ⟨some 15, .op (.mov (.t 17)), none⟩,
                ⟨some 18, .op (.extract 0 (.t 15)), none⟩,
                ⟨some 19, .op (.extract 1 (.t 15)), none⟩,
                ⟨some 7, .op (.mov (.t 18)), none⟩,
                ⟨some 8, .op (.mov (.t 19)), none⟩] [4, 7, 8, 9, 10, 11])
            (.seq (.seq (.region [⟨some 20, .op (.mov (.t 8)), none⟩,
                  ⟨some 21, .op (.bin .neq .basic (.t 20) (.c (.int .i64 0))), none⟩] [4, 7, 8, 9, 10, 11, 21])
              (.cond (.t 21)
                (.seq (.region [⟨some 22, .op (.mov (.t 8)), none⟩,
                    ⟨some 2, .op (.mov (.c (.slice none 0 0))), none⟩,
                    ⟨some 3, .op (.mov (.t 22)), none⟩] [2, 3])
                (.ret))
                (.skip)))
            (.region [⟨some 23, .op (.mov (.t 4)), none⟩,
              ⟨some 24, .op (.mov (.t 7)), none⟩,
              ⟨some 25, .op (.buildSlice 1 1 [.slice none 0 0] [(0, 1, .t 24)]), none⟩,
              ⟨some 26, .op (.append 1 24 (.t 23) (.t 25)), none⟩,
              ⟨some 4, .op (.mov (.t 26)), none⟩] [4, 9, 10, 11])))))
        (.region [⟨some 27, .op (.bin .add .basic (.t 11) (.c (.int .i64 1))), none⟩,
          ⟨some 11, .op (.mov (.t 27)), none⟩] [4, 9, 10, 11])))))))
  (.seq (.region [⟨some 28, .op (.mov (.t 4)), none⟩,
      ⟨some 29, .call (.c (.func (.func 64) #[] #[])) [.t 28], none⟩,
      ⟨some 2, .op (.mov (.t 29)), none⟩,
      ⟨some 3, .op (.mov (.c (.int .i64 0))), none⟩] [2, 3])
  (.ret))))⟩

theorem lf39_ok : cFunc Try.prog Try.f39 [[0], [0, 4], [4, 9, 10, 11], [4, 9, 10, 11, 12], [4, 6, 9, 10, 11], [4, 7, 8, 9, 10, 11], [4, 7, 8, 9, 10, 11, 21], [2, 3], [4, 9, 10, 11], [4, 9, 10, 11], [2, 3]] = some lf39 := by kernel_rfl

/-- squint/encode.Len -/
def lf40 : LFunc := ⟨12, [.tmp 2],
  .seq (.region [⟨some 2, .op (.mov (.c (.int .i64 0))), none⟩] [0])
  (.seq (.region [⟨some 6, .op (.mov (.t 0)), none⟩,
      ⟨some 7, .call (.c (.func (.func 39) #[] #[])) [.t 6], none⟩,
      ⟨some 5, .op (.mov (.t 7)), none⟩,
      ⟨some 8, .op (.extract 0 (.t 5)), none⟩,
      ⟨some 9, .op (.extract 1 (.t 5)), none⟩,
      ⟨some 3, .op (.mov (.t 8)), none⟩,
      ⟨some 4, .op (.mov (.t 9)), none⟩] [3])
  (.seq (.region [⟨some 10, .op (.mov (.t 3)), none⟩,
      ⟨some 11, .op (.lenS (.t 10)), none⟩,
      ⟨some 2, .op (.mov (.t 11)), none⟩] [2])
  (.ret)))⟩

theorem lf40_ok : cFunc Try.prog Try.f40 [[0], [3], [2]] = some lf40 := by kernel_rfl

/-- squint/dyn.New -/
def lf46 : LFunc := ⟨10, [.tmp 2, .tmp 3],
  .seq (.region [⟨some 2, .op (.mov (.c (.pointer none))), none⟩,
      ⟨some 3, .op (.mov (.c (.int .i64 0))), none⟩] [0])
  (.seq (.seq (.region [⟨some 4, .op (.mov (.t 0)), none⟩,
        ⟨some 5, .call (.c (.func (.func 68) #[] #[])) [.t 4], none⟩,
        ⟨some 6, .op (.un .not (.t 5)), none⟩] [0, 6])
    (.cond (.t 6)
      (.seq (.region [⟨some 2, .op (.mov (.c (.pointer none))), none⟩,
          ⟨some 3, .op (.mov (.c (.int .i64 11))), none⟩] [2, 3])
      (.ret))
      (.skip)))
  (.seq (.region [⟨some 7, .op (.mov (.t 0)), none⟩,
      ⟨some 8, .op (.build [.slice none 0 0, .int .i64 0, .int .i64 0, .int .i64 0] [(3, 1, .t 7)]), none⟩,
      ⟨some 9, .op (.box (.t 8)), none⟩,
      ⟨some 2, .op (.mov (.t 9)), none⟩,
      ⟨some 3, .op (.mov (.c (.int .i64 0))), none⟩] [2, 3])
  (.ret)))⟩

theorem lf46_ok : cFunc Try.prog Try.f46 [[0], [0, 6], [2, 3], [2, 3]] = some lf46 := by kernel_rfl

/-- (*squint/decode.Decoder).next -/
def lf47 : LFunc := ⟨71, [.cellN 6 3, .tmp 7],
  .seq (.region [⟨some 6, .op (.alloc [.string ⟨#[]⟩, .string ⟨#[]⟩, .bool false]), none⟩,
      ⟨some 7, .op (.mov (.c (.bool false))), none⟩] [0, 1, 2, 6])
  (.seq (.dregion [(⟨some 11, .op (.mov (.t 1)), none⟩, 0, 1),
      (⟨some 12, .op (.nilCheck (.t 11)), none⟩, 0, 1),
      (⟨some 13, .op (.fieldAddr 0 (.t 12)), none⟩, 0, 1),
      (⟨some 14, .op (.load1 (.t 13)), none⟩, 0, 1),
      (⟨some 15, .op (.mov (.t 1)), none⟩, 0, 1),
      (⟨some 16, .op (.nilCheck (.t 15)), none⟩, 0, 1),
      (⟨some 17, .op (.fieldAddr 1 (.t 16)), none⟩, 0, 1),
      (⟨some 18, .op (.load1 (.t 17)), none⟩, 0, 1),
      (⟨some 19, .op (.idxAddrS 1 (.t 14) (.t 18)), none⟩, 0, 1),
      (⟨some 20, .op (.load1 (.t 19)), none⟩, 0, 1),
      (⟨some 21, .ncall 69 [.t 20], none⟩, 0, 1),
      (⟨some 8, .op (.alloc [.int .i64 0, .bool false, .bool false, .bool false, .bool false]), none⟩, 0, 1),
      (⟨none, .op (.store 5 (.t 8) (.t 21)), none⟩, 1, 2)] [0, 1, 2, 6, 8])
  (.seq (.region [⟨some 22, .op (.mov (.t 1)), none⟩,
      ⟨some 23, .op (.fieldAddr 0 (.t 8)), none⟩,
      ⟨some 24, .op (.load1 (.t 23)), none⟩,
      ⟨some 25, .call (.c (.func (.func 70) #[] #[])) [.t 22, .t 24], none⟩,
      ⟨some 9, .op (.mov (.t 25)), none⟩] [0, 1, 2, 6, 8, 9])
  (.seq (.block 0 (.seq (.region [⟨some 27, .op (.mov (.t 1)), none⟩,
          ⟨some 28, .op (.nilCheck (.t 27)), none⟩,
          ⟨some 29, .op (.fieldAddr 2 (.t 28)), none⟩,
          ⟨some 30, .op (.load1 (.t 29)), none⟩,
          ⟨some 31, .op (.bin .neq .basic (.t 30) (.c (.int .i64 0))), none⟩,
          ⟨some 26, .op (.mov (.t 31)), none⟩] [0, 1, 2, 6, 8, 9, 26])
      (.cond (.t 26)
        (.seq (.region [⟨some 32, .op (.build [.string ⟨#[]⟩, .string ⟨#[]⟩, .bool false] []), none⟩,
            ⟨none, .op (.store 3 (.t 6) (.t 32)), none⟩,
            ⟨some 7, .op (.mov (.c (.bool false))), none⟩] [6, 7])
        (.ret))
        (.seq (.region [⟨some 34, .op (.fieldAddr 3 (.t 8)), none⟩,
            ⟨some 35, .op (.load1 (.t 34)), none⟩,
            ⟨some 33, .op (.mov (.t 35)), none⟩] [0, 1, 2, 6, 8, 9, 33])
        (.cond (.t 33)
          (.seq (.region [⟨some 36, .op (.mov (.t 1)), none⟩,
              ⟨some 37, .op (.mov (.t 0)), none⟩,
              ⟨some 38, .op (.mov (.t 9)), none⟩,
              ⟨some 39, .op (.mov (.t 2)), none⟩,
              ⟨some 40, .call (.c (.func (.func 71) #[] #[])) [.t 37, .t 38, .t 39], none⟩,
              ⟨some 41, .op (.nilCheck (.t 36)), none⟩,
              ⟨some 42, .op (.fieldAddr 2 (.t 41)), none⟩,
              ⟨none, .op (.store 1 (.t 42) (.t 40)), none⟩] [6])
          (.seq (.region [⟨some 43, .op (.build [.string ⟨#[]⟩, .string ⟨#[]⟩, .bool false] []), none⟩,
              ⟨none, .op (.store 3 (.t 6) (.t 43)), none⟩,
              ⟨some 7, .op (.mov (.c (.bool false))), none⟩] [6, 7])
          (.ret)))
          (.skip))))))
  (.seq (.region [⟨some 44, .op (.mov (.t 0)), none⟩,
      ⟨some 45, .op (.mov (.t 1)), none⟩,
      ⟨some 46, .op (.loadN 5 (.t 8)), none⟩,
      ⟨some 47, .op (.mov (.t 9)), none⟩,
      ⟨some 48, .call (.c (.func (.func 72) #[] #[])) [.t 44, .t 45, .t 46, .t 47], none⟩,
      ⟨some 10, .op (.alloc [.string ⟨#[]⟩, .string ⟨#[]⟩, .bool false]), none⟩,
      ⟨none, .op (.store 3 (.t 10) (.t 48)), none⟩] [0, 1, 6, 8, 10])
  (.seq (.seq (.region [⟨some 49, .op (.mov (.t 1)), none⟩,
        ⟨some 50, .op (.nilCheck (.t 49)), none⟩,
        ⟨some 51, .op (.fieldAddr 2 (.t 50)), none⟩,
        ⟨some 52, .op (.load1 (.t 51)), none⟩,
        ⟨some 53, .op (.bin .eql .basic (.t 52) (.c (.int .i64 0))), none⟩,
        ⟨some 54, .op (.mov (.t 53)), none⟩,
        ⟨some 55, .op (.fieldAddr 2 (.t 8)), some (54, true)⟩,
        ⟨some 56, .op (.load1 (.t 55)), some (54, true)⟩,
        ⟨some 57, .pick (.t 54) (.t 56) (.c (.bool false)), none⟩] [0, 1, 6, 10, 57])
    (.cond (.t 57)
      (.dregion [(⟨some 58, .op (.mov (.t 0)), none⟩, 0, 0),
        (⟨some 59, .op (.nilCheck (.t 58)), none⟩, 0, 0),
        (⟨some 60, .op (.fieldAddr 0 (.t 59)), none⟩, 0, 0),
        (⟨some 61, .op (.load1 (.t 60)), none⟩, 0, 0),
        (⟨some 62, .op (.fieldAddr 0 (.t 10)), none⟩, 0, 0),
        (⟨some 63, .op (.loadN 2 (.t 62)), none⟩, 0, 0),
        (⟨some 64, .call (.c (.func (.func 73) #[] #[])) [.t 61, .t 63], none⟩, 0, 1)] [1, 6, 10])
      (.skip)))
  (.seq (.dregion [(⟨some 65, .op (.loadN 3 (.t 10)), none⟩, 0, 0),
      (⟨some 66, .op (.mov (.t 1)), none⟩, 0, 1),
      (⟨some 67, .op (.nilCheck (.t 66)), none⟩, 0, 1),
      (⟨some 68, .op (.fieldAddr 2 (.t 67)), none⟩, 0, 1),
      (⟨some 69, .op (.load1 (.t 68)), none⟩, 0, 1),
      (⟨some 70, .op (.bin .eql .basic (.t 69) (.c (.int .i64 0))), none⟩, 0, 1),
      (⟨none, .op (.store 3 (.t 6) (.t 65)), none⟩, 0, 1),
      (⟨some 7, .op (.mov (.t 70)), none⟩, 1, 1)] [6, 7])
  (.ret)))))))⟩

theorem lf47_ok : cFunc Try.prog Try.f47 [[0, 1, 2, 6], [0, 1, 2, 6, 8], [0, 1, 2, 6, 8, 9], [0, 1, 2, 6, 8, 9, 26], [6, 7], [0, 1, 2, 6, 8, 9, 33], [6], [6, 7], [0, 1, 6, 8, 10], [0, 1, 6, 10, 57], [1, 6, 10], [6, 7]] [69] = some lf47 := by kernel_rfl

/-- (*squint/dyn.Table).Copy -/
def lf48 : LFunc := ⟨23, [.tmp 2],
  .seq (.region [⟨some 2, .op (.mov (.c (.pointer none))), none⟩] [0])
  (.seq (.dregion [(⟨some 3, .op (.mov (.t 0)), none⟩, 0, 0),
      (⟨some 4, .op (.nilCheck (.t 3)), none⟩, 0, 0),
      (⟨some 5, .op (.fieldAddr 0 (.t 4)), none⟩, 0, 0),
      (⟨some 6, .op (.load1 (.t 5)), none⟩, 0, 0),
      (⟨some 7, .op (.mov (.t 0)), none⟩, 0, 0),
      (⟨some 8, .op (.nilCheck (.t 7)), none⟩, 0, 0),
      (⟨some 9, .op (.fieldAddr 1 (.t 8)), none⟩, 0, 0),
      (⟨some 10, .op (.load1 (.t 9)), none⟩, 0, 0),
      (⟨some 11, .op (.slice 2 (.t 6) (some (.t 10)) none none), none⟩, 0, 0),
      (⟨some 12, .call (.c (.func (.func 74) #[] #[])) [.t 11], none⟩, 0, 1),
      (⟨some 13, .op (.mov (.t 0)), none⟩, 0, 1),
      (⟨some 14, .op (.nilCheck (.t 13)), none⟩, 0, 1),
      (⟨some 15, .op (.fieldAddr 2 (.t 14)), none⟩, 0, 1),
      (⟨some 16, .op (.load1 (.t 15)), none⟩, 0, 1),
      (⟨some 17, .op (.mov (.t 0)), none⟩, 0, 1),
      (⟨some 18, .op (.nilCheck (.t 17)), none⟩, 0, 1),
      (⟨some 19, .op (.fieldAddr 3 (.t 18)), none⟩, 0, 1),
      (⟨some 20, .op (.load1 (.t 19)), none⟩, 0, 1),
      (⟨some 21, .op (.build [.slice none 0 0, .int .i64 0, .int .i64 0, .int .i64 0] [(0, 1, .t 12), (1, 1, .c (.int .i64 0)), (2, 1, .t 16), (3, 1, .t 20)]), none⟩, 1, 1),
      (⟨some 22, .op (.box (.t 21)), none⟩, 1, 2),
      (⟨some 2, .op (.mov (.t 22)), none⟩, 2, 2)] [2])
  (.ret))⟩

theorem lf48_ok : cFunc Try.prog Try.f48 [[0], [2]] = some lf48 := by kernel_rfl

/-- (*squint/dyn.Table).Get -/
def lf55 : LFunc := ⟨28, [.cellN 4 2, .tmp 5],
  .seq (.region [⟨some 4, .op (.alloc [.string ⟨#[]⟩, .string ⟨#[]⟩]), none⟩,
      ⟨some 5, .op (.mov (.c (.int .i64 0))), none⟩] [0, 1, 4])
  (.seq (.seq (.region [⟨some 6, .op (.mov (.t 1)), none⟩,
        ⟨some 7, .op (.bin .lss .basic (.t 6) (.c (.int .i64 1))), none⟩,
        ⟨some 8, .op (.mov (.t 7)), none⟩,
        ⟨some 9, .op (.mov (.t 1)), some (8, false)⟩,
        ⟨some 10, .op (.mov (.t 0)), some (8, false)⟩,
        ⟨some 11, .call (.c (.func (.func 23) #[] #[])) [.t 10], some (8, false)⟩,
        ⟨some 12, .op (.bin .gtr .basic (.t 9) (.t 11)), some (8, false)⟩,
        ⟨some 13, .pick (.t 8) (.c (.bool true)) (.t 12), none⟩] [0, 1, 4, 13])
    (.cond (.t 13)
      (.seq (.region [⟨some 14, .op (.build [.string ⟨#[]⟩, .string ⟨#[]⟩] []), none⟩,
          ⟨none, .op (.store 2 (.t 4) (.t 14)), none⟩,
          ⟨some 5, .op (.mov (.c (.int .i64 23))), none⟩] [4, 5])
      (.ret))
      (.skip)))
  (.seq (.dregion [(⟨some 15, .op (.mov (.t 0)), none⟩, 0, 0),
      (⟨some 16, .op (.nilCheck (.t 15)), none⟩, 0, 0),
      (⟨some 17, .op (.fieldAddr 0 (.t 16)), none⟩, 0, 0),
      (⟨some 18, .op (.load1 (.t 17)), none⟩, 0, 0),
      (⟨some 19, .op (.mov (.t 0)), none⟩, 0, 0),
      (⟨some 20, .op (.nilCheck (.t 19)), none⟩, 0, 0),
      (⟨some 21, .op (.fieldAddr 0 (.t 20)), none⟩, 0, 0),
      (⟨some 22, .op (.load1 (.t 21)), none⟩, 0, 0),
      (⟨some 23, .op (.lenS (.t 22)), none⟩, 0, 0),
      (⟨some 24, .op (.mov (.t 1)), none⟩, 0, 0),
      (⟨some 25, .op (.bin .sub .basic (.t 23) (.t 24)), none⟩, 0, 0),
      (⟨some 26, .op (.idxAddrS 2 (.t 18) (.t 25)), none⟩, 0, 0),
      (⟨some 27, .op (.loadN 2 (.t 26)), none⟩, 0, 0),
      (⟨none, .op (.store 2 (.t 4) (.t 27)), none⟩, 0, 1),
      (⟨some 5, .op (.mov (.c (.int .i64 0))), none⟩, 1, 1)] [4, 5])
  (.ret)))⟩

theorem lf55_ok : cFunc Try.prog Try.f55 [[0, 1, 4], [0, 1, 4, 13], [4, 5], [4, 5]] = some lf55 := by kernel_rfl

/-- squint/encode.form -/
def lf56 : LFunc := ⟨54, [.tmp 2],
  .seq (.region [⟨some 2, .op (.mov (.c (.int .i64 0))), none⟩] [0])
  (.seq (.region [⟨some 3, .op (.mov (.c (.int .i64 4))), none⟩,
      ⟨some 4, .op (.mov (.c (.int .i64 1))), none⟩] [0, 3, 4])
  (.seq (.seq (.region [⟨some 10, .op (.mov (.t 0)), none⟩,
        ⟨some 11, .op (.idxAddrS 1 (.t 10) (.c (.int .i64 0))), none⟩,
        ⟨some 12, .op (.load1 (.t 11)), none⟩,
        ⟨some 5, .op (.mov (.t 12)), none⟩] [0, 3, 4, 5])
    (.block 0 (.seq (.region [⟨some 14, .op (.mov (.t 5)), none⟩,
          ⟨some 15, .op (.bin .geq .basic (.t 14) (.c (.int .u8 128))), none⟩,
          ⟨some 13, .op (.mov (.t 15)), none⟩] [0, 3, 4, 5, 13])
      (.cond (.t 13)
        (.region [⟨some 3, .op (.mov (.c (.int .i64 7))), none⟩,
          ⟨some 4, .op (.mov (.c (.int .i64 0))), none⟩] [0, 3, 4])
        (.seq (.region [⟨some 17, .op (.mov (.t 5)), none⟩,
            ⟨some 18, .op (.bin .geq .basic (.t 17) (.c (.int .u8 32))), none⟩,
            ⟨some 16, .op (.mov (.t 18)), none⟩] [0, 3, 4, 16])
        (.cond (.t 16)
          (.seq (.region [⟨some 2, .op (.mov (.c (.int .i64 0))), none⟩] [2])
          (.ret))
          (.skip)))))))
  (.seq (.region [⟨some 20, .op (.mov (.t 0)), none⟩,
      ⟨some 21, .op (.mov (.t 3)), none⟩,
      ⟨some 22, .call (.c (.func (.func 79) #[] #[])) [.t 20, .t 21], none⟩,
      ⟨some 19, .op (.mov (.t 22)), none⟩,
      ⟨some 23, .op (.extract 0 (.t 19)), none⟩,
      ⟨some 24, .op (.extract 1 (.t 19)), none⟩,
      ⟨some 25, .op (.extract 2 (.t 19)), none⟩,
      ⟨some 6, .op (.mov (.t 23)), none⟩,
      ⟨some 7, .op (.mov (.t 24)), none⟩,
      ⟨some 8, .op (.mov (.t 25)), none⟩] [0, 3, 4, 6, 7, 8])
  (.seq (.seq (.region [⟨some 26, .op (.mov (.t 8)), none⟩,
        ⟨some 27, .op (.bin .neq .basic (.t 26) (.c (.int .i64 0))), none⟩,
        ⟨some 28, .op (.mov (.t 27)), none⟩,
        ⟨some 29, .op (.mov (.t 6)), some (28, false)⟩,
        ⟨some 30, .op (.bin .gtr .basic (.t 29) (.c (.int .i64 61))), some (28, false)⟩,
        ⟨some 31, .pick (.t 28) (.c (.bool true)) (.t 30), none⟩,
        ⟨some 32, .op (.mov (.t 31)), none⟩,
        ⟨some 33, .op (.mov (.t 6)), some (32, false)⟩,
        ⟨some 34, .op (.bin .eql .basic (.t 33) (.c (.int .i64 0))), some (32, false)⟩,
        ⟨some 35, .op (.mov (.t 34)), some (32, false)⟩,
        ⟨some 36, .op (.mov (.t 3)), some (35, true)⟩,
        ⟨some 37, .op (.bin .eql .basic (.t 36) (.c (.int .i64 7))), some (35, true)⟩,
        ⟨some 38, .pick (.t 35) (.t 37) (.c (.bool false)), some (32, false)⟩,
        ⟨some 39, .pick (.t 32) (.c (.bool true)) (.t 38), none⟩] [0, 4, 6, 7, 39])
    (.cond (.t 39)
      (.seq (.region [⟨some 2, .op (.mov (.c (.int .i64 0))), none⟩] [2])
      (.ret))
      (.skip)))
  (.seq (.seq (.region [⟨some 40, .op (.mov (.t 6)), none⟩,
        ⟨some 41, .op (.bin .eql .basic (.t 40) (.c (.int .i64 0))), none⟩] [0, 4, 7, 41])
    (.cond (.t 41)
      (.region [⟨some 42, .op (.mov (.t 4)), none⟩,
        ⟨some 43, .op (.bin .add .basic (.t 42) (.c (.int .i64 1))), none⟩,
        ⟨some 4, .op (.mov (.t 43)), none⟩] [0, 4, 7])
      (.skip)))
  (.seq (.region [⟨some 44, .op (.mov (.t 0)), none⟩,
      ⟨some 45, .op (.mov (.t 7)), none⟩,
      ⟨some 46, .op (.slice 1 (.t 44) (some (.t 45)) none none), none⟩,
      ⟨some 47, .op (.mov (.t 4)), none⟩,
      ⟨some 48, .call (.c (.func (.func 80) #[] #[])) [.t 46, .t 47], none⟩,
      ⟨some 9, .op (.mov (.t 48)), none⟩] [7, 9])
  (.seq (.seq (.region [⟨some 49, .op (.mov (.t 9)), none⟩,
        ⟨some 50, .op (.bin .lss .basic (.t 49) (.c (.int .i64 0))), none⟩] [7, 9, 50])
    (.cond (.t 50)
      (.seq (.region [⟨some 2, .op (.mov (.c (.int .i64 0))), none⟩] [2])
      (.ret))
      (.skip)))
  (.seq (.region [⟨some 51, .op (.mov (.t 7)), none⟩,
      ⟨some 52, .op (.mov (.t 9)), none⟩,
      ⟨some 53, .op (.bin .add .basic (.t 51) (.t 52)), none⟩,
      ⟨some 2, .op (.mov (.t 53)), none⟩] [2])
  (.ret)))))))))⟩

theorem lf56_ok : cFunc Try.prog Try.f56 [[0], [0, 3, 4], [0, 3, 4, 5], [0, 3, 4, 5, 13], [0, 3, 4], [0, 3, 4, 16], [2], [0, 3, 4, 6, 7, 8], [0, 4, 6, 7, 39], [2], [0, 4, 7, 41], [0, 4, 7], [7, 9], [7, 9, 50], [2], [2]] = some lf56 := by kernel_rfl

/-- squint/encode.mark -/
def lf58 : LFunc := ⟨5, [.tmp 2],
  .seq (.region [⟨some 1, .op (.box (.t 0)), none⟩,
      ⟨some 2, .op (.mov (.c (.int .i64 0))), none⟩] [1])
  (.seq (.seq (.region [⟨some 3, .op (.fieldAddr 2 (.t 1)), none⟩,
        ⟨some 4, .op (.load1 (.t 3)), none⟩] [4])
    (.cond (.t 4)
      (.seq (.region [⟨some 2, .op (.mov (.c (.int .i64 1))), none⟩] [2])
      (.ret))
      (.skip)))
  (.seq (.region [⟨some 2, .op (.mov (.c (.int .i64 0))), none⟩] [2])
  (.ret)))⟩

theorem lf58_ok : cFunc Try.prog Try.f58 [[1], [4], [2], [2]] = some lf58 := by kernel_rfl

/-- squint/dyn.right -/
def lf68 : LFunc := ⟨9, [.tmp 2],
  .seq (.region [⟨some 2, .op (.mov (.c (.bool false))), none⟩] [0])
  (.seq (.region [⟨some 3, .op (.mov (.t 0)), none⟩,
      ⟨some 4, .op (.bin .geq .basic (.t 3) (.c (.int .i64 0))), none⟩,
      ⟨some 5, .op (.mov (.t 4)), none⟩,
      ⟨some 6, .op (.mov (.t 0)), some (5, true)⟩,
      ⟨some 7, .op (.bin .leq .basic (.t 6) (.c (.int .i64 65536))), some (5, true)⟩,
      ⟨some 8, .pick (.t 5) (.t 7) (.c (.bool false)), none⟩,
      ⟨some 2, .op (.mov (.t 8)), none⟩] [2])
  (.ret))⟩

theorem lf68_ok : cFunc Try.prog Try.f68 [[0], [2]] = some lf68 := by kernel_rfl

/-- squint/decode.kindOf -/
def lf69 : LFunc := ⟨20, [.cellN 2 5],
  .seq (.region [⟨some 2, .op (.alloc [.int .i64 0, .bool false, .bool false, .bool false, .bool false]), none⟩] [0, 2])
  (.seq (.block 0 (.seq (.region [⟨some 4, .op (.mov (.t 0)), none⟩,
          ⟨some 5, .op (.bin .geq .basic (.t 4) (.c (.int .u8 128))), none⟩,
          ⟨some 3, .op (.mov (.t 5)), none⟩] [0, 2, 3])
      (.cond (.t 3)
        (.seq (.region [⟨some 6, .op (.build [.int .i64 0, .bool false, .bool false, .bool false, .bool false] [(0, 1, .c (.int .i64 7)), (1, 1, .c (.bool true))]), none⟩,
            ⟨none, .op (.store 5 (.t 2) (.t 6)), none⟩] [2])
        (.ret))
        (.seq (.region [⟨some 8, .op (.mov (.t 0)), none⟩,
            ⟨some 9, .op (.bin .geq .basic (.t 8) (.c (.int .u8 64))), none⟩,
            ⟨some 7, .op (.mov (.t 9)), none⟩] [0, 2, 7])
        (.cond (.t 7)
          (.seq (.region [⟨some 10, .op (.build [.int .i64 0, .bool false, .bool false, .bool false, .bool false] [(0, 1, .c (.int .i64 6)), (2, 1, .c (.bool true))]), none⟩,
              ⟨none, .op (.store 5 (.t 2) (.t 10)), none⟩] [2])
          (.ret))
          (.seq (.region [⟨some 12, .op (.mov (.t 0)), none⟩,
              ⟨some 13, .op (.bin .geq .basic (.t 12) (.c (.int .u8 32))), none⟩,
              ⟨some 11, .op (.mov (.t 13)), none⟩] [0, 2, 11])
          (.cond (.t 11)
            (.seq (.region [⟨some 14, .op (.build [.int .i64 0, .bool false, .bool false, .bool false, .bool false] [(0, 1, .c (.int .i64 5)), (3, 1, .c (.bool true))]), none⟩,
                ⟨none, .op (.store 5 (.t 2) (.t 14)), none⟩] [2])
            (.ret))
            (.seq (.region [⟨some 16, .op (.mov (.t 0)), none⟩,
                ⟨some 17, .op (.bin .geq .basic (.t 16) (.c (.int .u8 16))), none⟩,
                ⟨some 15, .op (.mov (.t 17)), none⟩] [2, 15])
            (.cond (.t 15)
              (.seq (.region [⟨some 18, .op (.build [.int .i64 0, .bool false, .bool false, .bool false, .bool false] [(0, 1, .c (.int .i64 4)), (4, 1, .c (.bool true))]), none⟩,
                  ⟨none, .op (.store 5 (.t 2) (.t 18)), none⟩] [2])
              (.ret))
              (.skip))))))))))
  (.seq (.region [⟨some 19, .op (.build [.int .i64 0, .bool false, .bool false, .bool false, .bool false] [(0, 1, .c (.int .i64 4))]), none⟩,
      ⟨none, .op (.store 5 (.t 2) (.t 19)), none⟩] [2])
  (.ret)))⟩

theorem lf69_ok : cFunc Try.prog Try.f69 [[0, 2], [0, 2, 3], [2], [0, 2, 7], [2], [0, 2, 11], [2], [2, 15], [2], [2]] = some lf69 := by kernel_rfl

/-- (*squint/decode.reading).number -/
def lf70 : LFunc := ⟨37, [.tmp 4],
  .seq (.region [⟨some 4, .op (.mov (.c (.int .i64 0))), none⟩] [0, 1])
  (.seq (.dregion [(⟨some 9, .op (.mov (.t 0)), none⟩, 0, 0),
      (⟨some 10, .op (.nilCheck (.t 9)), none⟩, 0, 0),
      (⟨some 11, .op (.fieldAddr 0 (.t 10)), none⟩, 0, 0),
      (⟨some 12, .op (.load1 (.t 11)), none⟩, 0, 0),
      (⟨some 13, .op (.mov (.t 0)), none⟩, 0, 0),
      (⟨some 14, .op (.nilCheck (.t 13)), none⟩, 0, 0),
      (⟨some 15, .op (.fieldAddr 1 (.t 14)), none⟩, 0, 0),
      (⟨some 16, .op (.load1 (.t 15)), none⟩, 0, 0),
      (⟨some 17, .op (.slice 1 (.t 12) (some (.t 16)) none none), none⟩, 0, 0),
      (⟨some 18, .op (.mov (.t 1)), none⟩, 0, 0),
      (⟨some 19, .call (.c (.func (.func 79) #[] #[])) [.t 17, .t 18], none⟩, 0, 1),
      (⟨some 8, .op (.mov (.t 19)), none⟩, 1, 1),
      (⟨some 20, .op (.extract 0 (.t 8)), none⟩, 1, 1),
      (⟨some 21, .op (.extract 1 (.t 8)), none⟩, 1, 1),
      (⟨some 22, .op (.extract 2 (.t 8)), none⟩, 1, 1),
      (⟨some 5, .op (.mov (.t 20)), none⟩, 1, 1),
      (⟨some 6, .op (.mov (.t 21)), none⟩, 1, 1),
      (⟨some 7, .op (.mov (.t 22)), none⟩, 1, 1)] [0, 5, 6, 7])
  (.seq (.region [⟨some 23, .op (.mov (.t 0)), none⟩,
      ⟨some 24, .op (.mov (.t 0)), none⟩,
      ⟨some 25, .op (.mov (.t 0)), none⟩,
      ⟨some 26, .op (.nilCheck (.t 25)), none⟩,
      ⟨some 27, .op (.fieldAddr 1 (.t 26)), none⟩,
      ⟨some 28, .op (.load1 (.t 27)), none⟩,
      ⟨some 29, .op (.mov (.t 6)), none⟩,
      ⟨some 30, .op (.bin .add .basic (.t 28) (.t 29)), none⟩,
      ⟨some 31, .op (.mov (.t 7)), none⟩,
      ⟨some 32, .op (.nilCheck (.t 23)), none⟩,
      ⟨some 33, .op (.fieldAddr 1 (.t 32)), none⟩,
      ⟨none, .op (.store 1 (.t 33) (.t 30)), none⟩,
      ⟨some 34, .op (.nilCheck (.t 24)), none⟩,
      ⟨some 35, .op (.fieldAddr 2 (.t 34)), none⟩,
      ⟨none, .op (.store 1 (.t 35) (.t 31)), none⟩] [5])
  (.seq (.region [⟨some 36, .op (.mov (.t 5)), none⟩,
      ⟨some 4, .op (.mov (.t 36)), none⟩] [4])
  (.ret))))⟩

theorem lf70_ok : cFunc Try.prog Try.f70 [[0, 1], [0, 5, 6, 7], [5], [4]] = some lf70 := by kernel_rfl

/-- (*squint/decode.Decoder).resize -/
def lf71 : LFunc := ⟨29, [.tmp 6],
  .seq (.region [⟨some 6, .op (.mov (.c (.int .i64 0))), none⟩] [0, 1, 2])
  (.seq (.seq (.region [⟨some 9, .op (.mov (.t 2)), none⟩,
        ⟨some 10, .op (.un .not (.t 9)), none⟩,
        ⟨some 11, .op (.mov (.t 10)), none⟩,
        ⟨some 12, .op (.mov (.t 1)), some (11, false)⟩,
        ⟨some 13, .op (.mov (.t 0)), some (11, false)⟩,
        ⟨some 14, .op (.nilCheck (.t 13)), some (11, false)⟩,
        ⟨some 15, .op (.fieldAddr 1 (.t 14)), some (11, false)⟩,
        ⟨some 16, .op (.load1 (.t 15)), some (11, false)⟩,
        ⟨some 17, .op (.bin .gtr .basic (.t 12) (.t 16)), some (11, false)⟩,
        ⟨some 18, .pick (.t 11) (.c (.bool true)) (.t 17), none⟩] [0, 1, 18])
    (.cond (.t 18)
      (.seq (.region [⟨some 6, .op (.mov (.c (.int .i64 24))), none⟩] [6])
      (.ret))
      (.skip)))
  (.seq (.region [⟨some 20, .op (.mov (.t 0)), none⟩,
      ⟨some 21, .op (.nilCheck (.t 20)), none⟩,
      ⟨some 22, .op (.fieldAddr 0 (.t 21)), none⟩,
      ⟨some 23, .op (.load1 (.t 22)), none⟩,
      ⟨some 24, .op (.mov (.t 1)), none⟩,
      ⟨some 25, .call (.c (.func (.func 88) #[] #[])) [.t 23, .t 24], none⟩,
      ⟨some 19, .op (.mov (.t 25)), none⟩,
      ⟨some 26, .op (.extract 0 (.t 19)), none⟩,
      ⟨some 27, .op (.extract 1 (.t 19)), none⟩,
      ⟨some 7, .op (.mov (.t 26)), none⟩,
      ⟨some 8, .op (.mov (.t 27)), none⟩] [8])
  (.seq (.region [⟨some 28, .op (.mov (.t 8)), none⟩,
      ⟨some 6, .op (.mov (.t 28)), none⟩] [6])
  (.ret))))⟩

theorem lf71_ok : cFunc Try.prog Try.f71 [[0, 1, 2], [0, 1, 18], [6], [8], [6]] = some lf71 := by kernel_rfl

/-- (*squint/decode.Decoder).field -/
def lf72 : LFunc := ⟨41, [.cellN 8 3],
  .seq (.region [⟨some 6, .op (.box (.t 2)), none⟩,
      ⟨some 8, .op (.alloc [.string ⟨#[]⟩, .string ⟨#[]⟩, .bool false]), none⟩] [0, 1, 3, 6, 8])
  (.seq (.region [⟨some 9, .op (.alloc [.string ⟨#[]⟩, .string ⟨#[]⟩, .bool false]), none⟩] [0, 1, 3, 6, 8, 9])
  (.seq (.seq (.region [⟨some 10, .op (.mov (.t 3)), none⟩,
        ⟨some 11, .op (.bin .gtr .basic (.t 10) (.c (.int .i64 0))), none⟩,
        ⟨some 12, .op (.mov (.t 11)), none⟩,
        ⟨some 13, .op (.fieldAddr 1 (.t 6)), some (12, false)⟩,
        ⟨some 14, .op (.load1 (.t 13)), some (12, false)⟩,
        ⟨some 15, .pick (.t 12) (.c (.bool true)) (.t 14), none⟩] [0, 1, 3, 6, 8, 9, 15])
    (.cond (.t 15)
      (.region [⟨some 17, .op (.mov (.t 1)), none⟩,
        ⟨some 18, .op (.mov (.t 0)), none⟩,
        ⟨some 19, .op (.mov (.t 3)), none⟩,
        ⟨some 20, .call (.c (.func (.func 89) #[] #[])) [.t 18, .t 19], none⟩,
        ⟨some 16, .op (.mov (.t 20)), none⟩,
        ⟨some 21, .op (.extract 0 (.t 16)), none⟩,
        ⟨some 22, .op (.extract 1 (.t 16)), none⟩,
        ⟨some 23, .op (.fieldAddr 0 (.t 9)), none⟩,
        ⟨none, .op (.store 2 (.t 23) (.t 21)), none⟩,
        ⟨some 24, .op (.nilCheck (.t 17)), none⟩,
        ⟨some 25, .op (.fieldAddr 2 (.t 24)), none⟩,
        ⟨none, .op (.store 1 (.t 25) (.t 22)), none⟩] [1, 6, 8, 9])
      (.region [⟨some 26, .op (.mov (.t 1)), none⟩,
        ⟨some 27, .call (.c (.func (.func 90) #[] #[])) [.t 26], none⟩,
        ⟨some 28, .op (.fieldAddr 0 (.t 9)), none⟩,
        ⟨some 29, .op (.fieldAddr 0 (.t 28)), none⟩,
        ⟨none, .op (.store 1 (.t 29) (.t 27)), none⟩] [1, 6, 8, 9])))
  (.seq (.seq (.region [⟨some 30, .op (.fieldAddr 1 (.t 6)), none⟩,
        ⟨some 31, .op (.load1 (.t 30)), none⟩,
        ⟨some 32, .op (.un .not (.t 31)), none⟩] [1, 6, 8, 9, 32])
    (.cond (.t 32)
      (.region [⟨some 33, .op (.mov (.t 1)), none⟩,
        ⟨some 34, .call (.c (.func (.func 90) #[] #[])) [.t 33], none⟩,
        ⟨some 35, .op (.fieldAddr 0 (.t 9)), none⟩,
        ⟨some 36, .op (.fieldAddr 1 (.t 35)), none⟩,
        ⟨none, .op (.store 1 (.t 36) (.t 34)), none⟩] [6, 8, 9])
      (.skip)))
  (.seq (.region [⟨some 37, .op (.fieldAddr 4 (.t 6)), none⟩,
      ⟨some 38, .op (.load1 (.t 37)), none⟩,
      ⟨some 39, .op (.fieldAddr 2 (.t 9)), none⟩,
      ⟨none, .op (.store 1 (.t 39) (.t 38)), none⟩] [8, 9])
  (.seq (.region [⟨some 40, .op (.loadN 3 (.t 9)), none⟩,
      ⟨none, .op (.store 3 (.t 8) (.t 40)), none⟩] [8])
  (.ret))))))⟩

theorem lf72_ok : cFunc Try.prog Try.f72 [[0, 1, 3, 6, 8], [0, 1, 3, 6, 8, 9], [0, 1, 3, 6, 8, 9, 15], [1, 6, 8, 9], [1, 6, 8, 9], [1, 6, 8, 9, 32], [6, 8, 9], [8, 9], [8]] = some lf72 := by kernel_rfl

/-- (*squint/dyn.Table).Add -/
def lf73 : LFunc := ⟨42, [.tmp 4],
  .seq (.region [⟨some 3, .op (.box (.t 1)), none⟩,
      ⟨some 4, .op (.mov (.c (.int .i64 0))), none⟩] [0, 3])
  (.seq (.dregion [(⟨some 6, .op (.mov (.t 0)), none⟩, 0, 1),
      (⟨some 7, .op (.mov (.t 0)), none⟩, 0, 1),
      (⟨some 8, .op (.nilCheck (.t 7)), none⟩, 0, 1),
      (⟨some 9, .op (.fieldAddr 3 (.t 8)), none⟩, 0, 1),
      (⟨some 10, .op (.load1 (.t 9)), none⟩, 0, 1),
      (⟨some 11, .op (.loadN 2 (.t 3)), none⟩, 0, 0),
      (⟨some 12, .call (.c (.func (.func 29) #[] #[])) [.t 11], none⟩, 0, 1),
      (⟨some 13, .op (.bin .sub .basic (.t 10) (.t 12)), none⟩, 1, 1),
      (⟨some 14, .call (.c (.func (.func 91) #[] #[])) [.t 6, .t 13], none⟩, 1, 2),
      (⟨some 5, .op (.mov (.t 14)), none⟩, 2, 2)] [0, 3, 5])
  (.seq (.seq (.dregion [(⟨some 15, .op (.loadN 2 (.t 3)), none⟩, 0, 0),
        (⟨some 16, .call (.c (.func (.func 29) #[] #[])) [.t 15], none⟩, 0, 1),
        (⟨some 17, .op (.mov (.t 0)), none⟩, 0, 1),
        (⟨some 18, .op (.nilCheck (.t 17)), none⟩, 0, 1),
        (⟨some 19, .op (.fieldAddr 3 (.t 18)), none⟩, 0, 1),
        (⟨some 20, .op (.load1 (.t 19)), none⟩, 0, 1),
        (⟨some 21, .op (.bin .leq .basic (.t 16) (.t 20)), none⟩, 1, 1)] [0, 3, 5, 21])
    (.cond (.t 21)
      (.seq (.dregion [(⟨some 22, .op (.mov (.t 0)), none⟩, 0, 2),
          (⟨some 23, .op (.mov (.t 0)), none⟩, 0, 1),
          (⟨some 24, .op (.nilCheck (.t 23)), none⟩, 0, 1),
          (⟨some 25, .op (.fieldAddr 0 (.t 24)), none⟩, 0, 1),
          (⟨some 26, .op (.load1 (.t 25)), none⟩, 0, 1),
          (⟨some 27, .op (.loadN 2 (.t 3)), none⟩, 0, 0),
          (⟨some 28, .op (.buildSlice 1 2 [.string ⟨#[]⟩, .string ⟨#[]⟩] [(0, 2, .t 27)]), none⟩, 0, 1),
          (⟨some 29, .op (.append 2 32 (.t 26) (.t 28)), none⟩, 1, 2),
          (⟨some 30, .op (.nilCheck (.t 22)), none⟩, 2, 2),
          (⟨some 31, .op (.fieldAddr 0 (.t 30)), none⟩, 2, 2),
          (⟨none, .op (.store 1 (.t 31) (.t 29)), none⟩, 2, 3)] [0, 3, 5])
      (.dregion [(⟨some 32, .op (.mov (.t 0)), none⟩, 0, 1),
        (⟨some 33, .op (.nilCheck (.t 32)), none⟩, 0, 1),
        (⟨some 34, .op (.fieldAddr 2 (.t 33)), none⟩, 0, 1),
        (⟨some 35, .op (.load1 (.t 34)), none⟩, 0, 1),
        (⟨some 36, .op (.loadN 2 (.t 3)), none⟩, 0, 0),
        (⟨some 37, .call (.c (.func (.func 29) #[] #[])) [.t 36], none⟩, 0, 1),
        (⟨some 38, .op (.bin .add .basic (.t 35) (.t 37)), none⟩, 1, 1),
        (⟨some 39, .op (.nilCheck (.t 32)), none⟩, 1, 1),
        (⟨some 40, .op (.fieldAddr 2 (.t 39)), none⟩, 1, 1),
        (⟨none, .op (.store 1 (.t 40) (.t 38)), none⟩, 1, 2)] [5]))
      (.skip)))
  (.seq (.region [⟨some 41, .op (.mov (.t 5)), none⟩,
      ⟨some 4, .op (.mov (.t 41)), none⟩] [4])
  (.ret))))⟩

theorem lf73_ok : cFunc Try.prog Try.f73 [[0, 3], [0, 3, 5], [0, 3, 5, 21], [0, 3, 5], [5], [4]] = some lf73 := by kernel_rfl

/-- squint/encode.texts -/
def lf80 : LFunc := ⟨27, [.tmp 4],
  .seq (.region [⟨some 4, .op (.mov (.c (.int .i64 0))), none⟩] [0, 1])
  (.seq (.region [⟨some 5, .op (.mov (.c (.int .i64 0))), none⟩] [0, 1, 5])
  (.seq (.seq (.region [⟨some 9, .op (.mov (.t 1)), none⟩,
        ⟨some 10, .op (.mov (.c (.int .i64 0))), none⟩] [0, 5, 9, 10])
    (.block 0 (.loop (.seq (.region [⟨some 11, .op (.bin .lss .basic (.t 10) (.t 9)), none⟩] [0, 5, 9, 10, 11])
        (.seq (.cond (.t 11)
            (.skip)
            (.exit 0))
        (.seq (.block 1 (.seq (.region [⟨some 13, .op (.mov (.t 0)), none⟩,
                ⟨some 14, .op (.mov (.t 5)), none⟩,
                ⟨some 15, .op (.slice 1 (.t 13) (some (.t 14)) none none), none⟩,
                ⟨some 16, .call (.c (.func (.func 93) #[] #[])) [.t 15, .c (.int .i64 4096)], none⟩,
                ⟨some 12, .op (.mov (.t 16)), none⟩,
                ⟨some 17, .op (.extract 0 (.t 12)), none⟩,
                ⟨some 18, .op (.extract 1 (.t 12)), none⟩,
                ⟨some 19, .op (.extract 2 (.t 12)), none⟩,
                ⟨some 6, .op (.mov (.t 17)), none⟩,
                ⟨some 7, .op (.mov (.t 18)), none⟩,
                ⟨some 8, .op (.mov (.t 19)), none⟩] [0, 5, 7, 8, 9, 10])
            (.seq (.seq (.region [⟨some 20, .op (.mov (.t 8)), none⟩,
                  ⟨some 21, .op (.bin .neq .basic (.t 20) (.c (.int .i64 0))), none⟩] [0, 5, 7, 9, 10, 21])
              (.cond (.t 21)
                (.seq (.region [⟨some 4, .op (.mov (.c (.int .i64 (-1)))), none⟩] [4])
                (.ret))
                (.skip)))
            (.region [⟨some 22, .op (.mov (.t 5)), none⟩,
              ⟨some 23, .op (.mov (.t 7)), none⟩,
              ⟨some 24, .op (.bin .add .basic (.t 22) (.t 23)), none⟩,
              ⟨some 5, .op (.mov (.t 24)), none⟩] [0, 5, 9, 10]))))
        (.region [⟨some 25, .op (.bin .add .basic (.t 10) (.c (.int .i64 1))), none⟩,
          ⟨some 10, .op (.mov (.t 25)), none⟩] [0, 5, 9, 10])))))))
  (.seq (.region [⟨some 26, .op (.mov (.t 5)), none⟩,
      ⟨some 4, .op (.mov (.t 26)), none⟩] [4])
  (.ret))))⟩

theorem lf80_ok : cFunc Try.prog Try.f80 [[0, 1], [0, 1, 5], [0, 5, 9, 10], [0, 5, 9, 10, 11], [0, 5, 7, 8, 9, 10], [0, 5, 7, 9, 10, 21], [4], [0, 5, 9, 10], [0, 5, 9, 10], [4]] = some lf80 := by kernel_rfl

/-- (*squint/dyn.Table).Resize -/
def lf88 : LFunc := ⟨16, [.tmp 4, .tmp 5],
  .seq (.region [⟨some 4, .op (.mov (.c (.int .i64 0))), none⟩,
      ⟨some 5, .op (.mov (.c (.int .i64 0))), none⟩] [0, 1])
  (.seq (.seq (.region [⟨some 6, .op (.mov (.t 1)), none⟩,
        ⟨some 7, .call (.c (.func (.func 68) #[] #[])) [.t 6], none⟩,
        ⟨some 8, .op (.un .not (.t 7)), none⟩] [0, 1, 8])
    (.cond (.t 8)
      (.seq (.region [⟨some 4, .op (.mov (.c (.int .i64 0))), none⟩,
          ⟨some 5, .op (.mov (.c (.int .i64 11))), none⟩] [4, 5])
      (.ret))
      (.skip)))
  (.seq (.region [⟨some 9, .op (.mov (.t 0)), none⟩,
      ⟨some 10, .op (.mov (.t 1)), none⟩,
      ⟨some 11, .op (.nilCheck (.t 9)), none⟩,
      ⟨some 12, .op (.fieldAddr 3 (.t 11)), none⟩,
      ⟨none, .op (.store 1 (.t 12) (.t 10)), none⟩] [0, 1])
  (.seq (.region [⟨some 13, .op (.mov (.t 0)), none⟩,
      ⟨some 14, .op (.mov (.t 1)), none⟩,
      ⟨some 15, .call (.c (.func (.func 91) #[] #[])) [.t 13, .t 14], none⟩,
      ⟨some 4, .op (.mov (.t 15)), none⟩,
      ⟨some 5, .op (.mov (.c (.int .i64 0))), none⟩] [4, 5])
  (.ret))))⟩

theorem lf88_ok : cFunc Try.prog Try.f88 [[0, 1], [0, 1, 8], [4, 5], [0, 1], [4, 5]] = some lf88 := by kernel_rfl

/-- (*squint/decode.Decoder).entry -/
def lf89 : LFunc := ⟨21, [.cellN 4 2, .tmp 5],
  .seq (.region [⟨some 4, .op (.alloc [.string ⟨#[]⟩, .string ⟨#[]⟩]), none⟩,
      ⟨some 5, .op (.mov (.c (.int .i64 0))), none⟩] [0, 1, 4])
  (.seq (.seq (.region [⟨some 6, .op (.mov (.t 1)), none⟩,
        ⟨some 7, .op (.bin .leq .basic (.t 6) (.c (.int .i64 61))), none⟩] [0, 1, 4, 7])
    (.cond (.t 7)
      (.seq (.region [⟨some 8, .op (.mov (.t 1)), none⟩,
          ⟨some 9, .call (.c (.func (.func 41) #[] #[])) [.t 8], none⟩,
          ⟨some 10, .op (.extract 0 (.t 9)), none⟩,
          ⟨some 11, .op (.extract 1 (.t 9)), none⟩,
          ⟨none, .op (.store 2 (.t 4) (.t 10)), none⟩,
          ⟨some 5, .op (.mov (.t 11)), none⟩] [4, 5])
      (.ret))
      (.skip)))
  (.seq (.region [⟨some 12, .op (.mov (.t 0)), none⟩,
      ⟨some 13, .op (.nilCheck (.t 12)), none⟩,
      ⟨some 14, .op (.fieldAddr 0 (.t 13)), none⟩,
      ⟨some 15, .op (.load1 (.t 14)), none⟩,
      ⟨some 16, .op (.mov (.t 1)), none⟩,
      ⟨some 17, .op (.bin .sub .basic (.t 16) (.c (.int .i64 61))), none⟩,
      ⟨some 18, .call (.c (.func (.func 55) #[] #[])) [.t 15, .t 17], none⟩,
      ⟨some 19, .op (.extract 0 (.t 18)), none⟩,
      ⟨some 20, .op (.extract 1 (.t 18)), none⟩,
      ⟨none, .op (.store 2 (.t 4) (.t 19)), none⟩,
      ⟨some 5, .op (.mov (.t 20)), none⟩] [4, 5])
  (.ret)))⟩

theorem lf89_ok : cFunc Try.prog Try.f89 [[0, 1, 4], [0, 1, 4, 7], [4, 5], [4, 5]] = some lf89 := by kernel_rfl

/-- (*squint/decode.reading).text -/
def lf90 : LFunc := ⟨40, [.tmp 2],
  .seq (.region [⟨some 2, .op (.mov (.c (.string ⟨#[]⟩))), none⟩] [0])
  (.seq (.seq (.region [⟨some 6, .op (.mov (.t 0)), none⟩,
        ⟨some 7, .op (.nilCheck (.t 6)), none⟩,
        ⟨some 8, .op (.fieldAddr 2 (.t 7)), none⟩,
        ⟨some 9, .op (.load1 (.t 8)), none⟩,
        ⟨some 10, .op (.bin .neq .basic (.t 9) (.c (.int .i64 0))), none⟩] [0, 10])
    (.cond (.t 10)
      (.seq (.region [⟨some 2, .op (.mov (.c (.string ⟨#[]⟩))), none⟩] [2])
      (.ret))
      (.skip)))
  (.seq (.dregion [(⟨some 12, .op (.mov (.t 0)), none⟩, 0, 0),
      (⟨some 13, .op (.nilCheck (.t 12)), none⟩, 0, 0),
      (⟨some 14, .op (.fieldAddr 0 (.t 13)), none⟩, 0, 0),
      (⟨some 15, .op (.load1 (.t 14)), none⟩, 0, 0),
      (⟨some 16, .op (.mov (.t 0)), none⟩, 0, 0),
      (⟨some 17, .op (.nilCheck (.t 16)), none⟩, 0, 0),
      (⟨some 18, .op (.fieldAddr 1 (.t 17)), none⟩, 0, 0),
      (⟨some 19, .op (.load1 (.t 18)), none⟩, 0, 0),
      (⟨some 20, .op (.slice 1 (.t 15) (some (.t 19)) none none), none⟩, 0, 0),
      (⟨some 21, .call (.c (.func (.func 93) #[] #[])) [.t 20, .c (.int .i64 4096)], none⟩, 0, 1),
      (⟨some 11, .op (.mov (.t 21)), none⟩, 1, 1),
      (⟨some 22, .op (.extract 0 (.t 11)), none⟩, 1, 1),
      (⟨some 23, .op (.extract 1 (.t 11)), none⟩, 1, 1),
      (⟨some 24, .op (.extract 2 (.t 11)), none⟩, 1, 1),
      (⟨some 3, .op (.mov (.t 22)), none⟩, 1, 1),
      (⟨some 4, .op (.mov (.t 23)), none⟩, 1, 1),
      (⟨some 5, .op (.mov (.t 24)), none⟩, 1, 1)] [0, 3, 4, 5])
  (.seq (.region [⟨some 25, .op (.mov (.t 0)), none⟩,
      ⟨some 26, .op (.mov (.t 0)), none⟩,
      ⟨some 27, .op (.mov (.t 0)), none⟩,
      ⟨some 28, .op (.nilCheck (.t 27)), none⟩,
      ⟨some 29, .op (.fieldAddr 1 (.t 28)), none⟩,
      ⟨some 30, .op (.load1 (.t 29)), none⟩,
      ⟨some 31, .op (.mov (.t 4)), none⟩,
      ⟨some 32, .op (.bin .add .basic (.t 30) (.t 31)), none⟩,
      ⟨some 33, .op (.mov (.t 5)), none⟩,
      ⟨some 34, .op (.nilCheck (.t 25)), none⟩,
      ⟨some 35, .op (.fieldAddr 1 (.t 34)), none⟩,
      ⟨none, .op (.store 1 (.t 35) (.t 32)), none⟩,
      ⟨some 36, .op (.nilCheck (.t 26)), none⟩,
      ⟨some 37, .op (.fieldAddr 2 (.t 36)), none⟩,
      ⟨none, .op (.store 1 (.t 37) (.t 33)), none⟩] [3])
  (.seq (.region [⟨some 38, .op (.mov (.t 3)), none⟩,
      ⟨some 39, .op (.bytesStr (.t 38)), none⟩,
      ⟨some 2, .op (.mov (.t 39)), none⟩] [2])
  (.ret)))))⟩

theorem lf90_ok : cFunc Try.prog Try.f90 [[0], [0, 10], [2], [0, 3, 4, 5], [3], [2]] = some lf90 := by kernel_rfl

/-- (*squint/dyn.Table).shrink -/
def lf91 : LFunc := ⟨78, [.tmp 4],
  .seq (.region [⟨some 4, .op (.mov (.c (.int .i64 0))), none⟩] [0, 1])
  (.seq (.region [⟨some 5, .op (.mov (.c (.int .i64 0))), none⟩] [0, 1, 5])
  (.seq (.block 0 (.loop (.seq (.seq (.region [⟨some 6, .op (.mov (.t 0)), none⟩,
              ⟨some 7, .op (.nilCheck (.t 6)), none⟩,
              ⟨some 8, .op (.fieldAddr 2 (.t 7)), none⟩,
              ⟨some 9, .op (.load1 (.t 8)), none⟩,
              ⟨some 10, .op (.mov (.t 1)), none⟩,
              ⟨some 11, .op (.bin .gtr .basic (.t 9) (.t 10)), none⟩,
              ⟨some 12, .op (.mov (.t 11)), none⟩,
              ⟨some 13, .op (.mov (.t 0)), some (12, true)⟩,
              ⟨some 14, .call (.c (.func (.func 23) #[] #[])) [.t 13], some (12, true)⟩,
              ⟨some 15, .op (.bin .gtr .basic (.t 14) (.c (.int .i64 0))), some (12, true)⟩,
              ⟨some 16, .pick (.t 12) (.t 15) (.c (.bool false)), none⟩] [0, 1, 5, 16])
          (.cond (.t 16)
            (.skip)
            (.exit 0)))
        (.block 1 (.seq (.dregion [(⟨some 17, .op (.mov (.t 0)), none⟩, 0, 1),
              (⟨some 18, .op (.nilCheck (.t 17)), none⟩, 0, 1),
              (⟨some 19, .op (.fieldAddr 2 (.t 18)), none⟩, 0, 1),
              (⟨some 20, .op (.load1 (.t 19)), none⟩, 0, 1),
              (⟨some 21, .op (.mov (.t 0)), none⟩, 0, 0),
              (⟨some 22, .op (.nilCheck (.t 21)), none⟩, 0, 0),
              (⟨some 23, .op (.fieldAddr 0 (.t 22)), none⟩, 0, 0),
              (⟨some 24, .op (.load1 (.t 23)), none⟩, 0, 0),
              (⟨some 25, .op (.mov (.t 0)), none⟩, 0, 0),
              (⟨some 26, .op (.nilCheck (.t 25)), none⟩, 0, 0),
              (⟨some 27, .op (.fieldAddr 1 (.t 26)), none⟩, 0, 0),
              (⟨some 28, .op (.load1 (.t 27)), none⟩, 0, 0),
              (⟨some 29, .op (.idxAddrS 2 (.t 24) (.t 28)), none⟩, 0, 0),
              (⟨some 30, .op (.loadN 2 (.t 29)), none⟩, 0, 0),
              (⟨some 31, .call (.c (.func (.func 29) #[] #[])) [.t 30], none⟩, 0, 1),
              (⟨some 32, .op (.bin .sub .basic (.t 20) (.t 31)), none⟩, 1, 1),
              (⟨some 33, .op (.nilCheck (.t 17)), none⟩, 1, 1),
              (⟨some 34, .op (.fieldAddr 2 (.t 33)), none⟩, 1, 1),
              (⟨none, .op (.store 1 (.t 34) (.t 32)), none⟩, 1, 2)] [0, 1, 5])
          (.seq (.dregion [(⟨some 35, .op (.mov (.t 0)), none⟩, 0, 0),
              (⟨some 36, .op (.nilCheck (.t 35)), none⟩, 0, 0),
              (⟨some 37, .op (.fieldAddr 0 (.t 36)), none⟩, 0, 0),
              (⟨some 38, .op (.load1 (.t 37)), none⟩, 0, 0),
              (⟨some 39, .op (.mov (.t 0)), none⟩, 0, 0),
              (⟨some 40, .op (.nilCheck (.t 39)), none⟩, 0, 0),
              (⟨some 41, .op (.fieldAddr 1 (.t 40)), none⟩, 0, 0),
              (⟨some 42, .op (.load1 (.t 41)), none⟩, 0, 0),
              (⟨some 43, .op (.build [.string ⟨#[]⟩, .string ⟨#[]⟩] []), none⟩, 0, 0),
              (⟨some 44, .op (.idxAddrS 2 (.t 38) (.t 42)), none⟩, 0, 0),
              (⟨none, .op (.store 2 (.t 44) (.t 43)), none⟩, 0, 1)] [0, 1, 5])
          (.seq (.region [⟨some 45, .op (.mov (.t 0)), none⟩,
              ⟨some 46, .op (.nilCheck (.t 45)), none⟩,
              ⟨some 47, .op (.fieldAddr 1 (.t 46)), none⟩,
              ⟨some 48, .op (.load1 (.t 47)), none⟩,
              ⟨some 49, .op (.bin .add .basic (.t 48) (.c (.int .i64 1))), none⟩,
              ⟨some 50, .op (.nilCheck (.t 45)), none⟩,
              ⟨some 51, .op (.fieldAddr 1 (.t 50)), none⟩,
              ⟨none, .op (.store 1 (.t 51) (.t 49)), none⟩] [0, 1, 5])
          (.region [⟨some 52, .op (.mov (.t 5)), none⟩,
            ⟨some 53, .op (.bin .add .basic (.t 52) (.c (.int .i64 1))), none⟩,
            ⟨some 5, .op (.mov (.t 53)), none⟩] [0, 1, 5]))))))))
  (.seq (.seq (.dregion [(⟨some 54, .op (.mov (.t 0)), none⟩, 0, 1),
        (⟨some 55, .op (.nilCheck (.t 54)), none⟩, 0, 1),
        (⟨some 56, .op (.fieldAddr 1 (.t 55)), none⟩, 0, 1),
        (⟨some 57, .op (.load1 (.t 56)), none⟩, 0, 1),
        (⟨some 58, .op (.mov (.t 0)), none⟩, 0, 0),
        (⟨some 59, .call (.c (.func (.func 23) #[] #[])) [.t 58], none⟩, 0, 1),
        (⟨some 60, .op (.bin .gtr .basic (.t 57) (.t 59)), none⟩, 1, 1)] [0, 5, 60])
    (.cond (.t 60)
      (.seq (.dregion [(⟨some 61, .op (.mov (.t 0)), none⟩, 0, 1),
          (⟨some 62, .op (.mov (.t 0)), none⟩, 0, 0),
          (⟨some 63, .op (.nilCheck (.t 62)), none⟩, 0, 0),
          (⟨some 64, .op (.fieldAddr 0 (.t 63)), none⟩, 0, 0),
          (⟨some 65, .op (.load1 (.t 64)), none⟩, 0, 0),
          (⟨some 66, .op (.mov (.t 0)), none⟩, 0, 0),
          (⟨some 67, .op (.nilCheck (.t 66)), none⟩, 0, 0),
          (⟨some 68, .op (.fieldAddr 1 (.t 67)), none⟩, 0, 0),
          (⟨some 69, .op (.load1 (.t 68)), none⟩, 0, 0),
          (⟨some 70, .op (.slice 2 (.t 65) (some (.t 69)) none none), none⟩, 0, 0),
          (⟨some 71, .call (.c (.func (.func 74) #[] #[])) [.t 70], none⟩, 0, 1),
          (⟨some 72, .op (.nilCheck (.t 61)), none⟩, 1, 1),
          (⟨some 73, .op (.fieldAddr 0 (.t 72)), none⟩, 1, 1),
          (⟨none, .op (.store 1 (.t 73) (.t 71)), none⟩, 1, 2)] [0, 5])
      (.region [⟨some 74, .op (.mov (.t 0)), none⟩,
        ⟨some 75, .op (.nilCheck (.t 74)), none⟩,
        ⟨some 76, .op (.fieldAddr 1 (.t 75)), none⟩,
        ⟨none, .op (.store 1 (.t 76) (.c (.int .i64 0))), none⟩] [5]))
      (.skip)))
  (.seq (.region [⟨some 77, .op (.mov (.t 5)), none⟩,
      ⟨some 4, .op (.mov (.t 77)), none⟩] [4])
  (.ret)))))⟩

theorem lf91_ok : cFunc Try.prog Try.f91 [[0, 1], [0, 1, 5], [0, 1, 5, 16], [0, 1, 5], [0, 1, 5], [0, 1, 5], [0, 1, 5], [0, 5, 60], [0, 5], [5], [4]] = some lf91 := by kernel_rfl

def tabB : List (FuncId × LFunc) := [(19, lf19), (20, lf20), (21, lf21), (22, lf22), (23, lf23), (27, lf27), (28, lf28), (30, lf30), (31, lf31), (33, lf33), (36, lf36), (39, lf39), (40, lf40), (46, lf46), (47, lf47), (48, lf48), (55, lf55), (56, lf56), (58, lf58), (68, lf68), (69, lf69), (70, lf70), (71, lf71), (72, lf72), (73, lf73), (80, lf80), (88, lf88), (89, lf89), (90, lf90), (91, lf91)]

theorem tabB_ok : ∀ p ∈ tabB, ∃ fn ks nt, Try.prog.funcs[p.1]? = some fn ∧ cFunc Try.prog fn ks nt = some p.2 := by
  unfold tabB
  refine List.forall_mem_cons.2 ⟨⟨_, _, _, Try.func19, lf19_ok⟩, ?_⟩
  refine List.forall_mem_cons.2 ⟨⟨_, _, _, Try.func20, lf20_ok⟩, ?_⟩
  refine List.forall_mem_cons.2 ⟨⟨_, _, _, Try.func21, lf21_ok⟩, ?_⟩
  refine List.forall_mem_cons.2 ⟨⟨_, _, _, Try.func22, lf22_ok⟩, ?_⟩
  refine List.forall_mem_cons.2 ⟨⟨_, _, _, Try.func23, lf23_ok⟩, ?_⟩
  refine List.forall_mem_cons.2 ⟨⟨_, _, _, Try.func27, lf27_ok⟩, ?_⟩
  refine List.forall_mem_cons.2 ⟨⟨_, _, _, Try.func28, lf28_ok⟩, ?_⟩
  refine List.forall_mem_cons.2 ⟨⟨_, _, _, Try.func30, lf30_ok⟩, ?_⟩
  refine List.forall_mem_cons.2 ⟨⟨_, _, _, Try.func31, lf31_ok⟩, ?_⟩
  refine List.forall_mem_cons.2 ⟨⟨_, _, _, Try.func33, lf33_ok⟩, ?_⟩
  refine List.forall_mem_cons.2 ⟨⟨_, _, _, Try.func36, lf36_ok⟩, ?_⟩
  refine List.forall_mem_cons.2 ⟨⟨_, _, _, Try.func39, lf39_ok⟩, ?_⟩
  refine List.forall_mem_cons.2 ⟨⟨_, _, _, Try.func40, lf40_ok⟩, ?_⟩
  refine List.forall_mem_cons.2 ⟨⟨_, _, _, Try.func46, lf46_ok⟩, ?_⟩
  refine List.forall_mem_cons.2 ⟨⟨_, _, _, Try.func47, lf47_ok⟩, ?_⟩
  refine List.forall_mem_cons.2 ⟨⟨_, _, _, Try.func48, lf48_ok⟩, ?_⟩
  refine List.forall_mem_cons.2 ⟨⟨_, _, _, Try.func55, lf55_ok⟩, ?_⟩
  refine List.forall_mem_cons.2 ⟨⟨_, _, _, Try.func56, lf56_ok⟩, ?_⟩
  refine List.forall_mem_cons.2 ⟨⟨_, _, _, Try.func58, lf58_ok⟩, ?_⟩
  refine List.forall_mem_cons.2 ⟨⟨_, _, _, Try.func68, lf68_ok⟩, ?_⟩
  refine List.forall_mem_cons.2 ⟨⟨_, _, _, Try.func69, lf69_ok⟩, ?_⟩
  refine List.forall_mem_cons.2 ⟨⟨_, _, _, Try.func70, lf70_ok⟩, ?_⟩
  refine List.forall_mem_cons.2 ⟨⟨_, _, _, Try.func71, lf71_ok⟩, ?_⟩
  refine List.forall_mem_cons.2 ⟨⟨_, _, _, Try.func72, lf72_ok⟩, ?_⟩
  refine List.forall_mem_cons.2 ⟨⟨_, _, _, Try.func73, lf73_ok⟩, ?_⟩
  refine List.forall_mem_cons.2 ⟨⟨_, _, _, Try.func80, lf80_ok⟩, ?_⟩
  refine List.forall_mem_cons.2 ⟨⟨_, _, _, Try.func88, lf88_ok⟩, ?_⟩
  refine List.forall_mem_cons.2 ⟨⟨_, _, _, Try.func89, lf89_ok⟩, ?_⟩
  refine List.forall_mem_cons.2 ⟨⟨_, _, _, Try.func90, lf90_ok⟩, ?_⟩
  refine List.forall_mem_cons.2 ⟨⟨_, _, _, Try.func91, lf91_ok⟩, ?_⟩
  intro p hp; cases hp

end Go.E1
