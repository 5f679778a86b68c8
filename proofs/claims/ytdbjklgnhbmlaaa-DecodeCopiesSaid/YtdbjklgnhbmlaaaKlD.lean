/-
  The engine's code of some functions, printed by a small program, and that it is what the loaded functions become.
-/
import Derived.Test.YtdbjklgnhbmlaaaProg
import Derived.Test.YtdbjklgnhbmlaaaKd
namespace Go.E1
open Go Go.Proofs

/-- squint/squintlaw05.StaticAll -/
def lf3 : LFunc := ⟨43, [.cell1 2],
  .seq (.region [⟨some 1, .op (.box (.t 0)), none⟩,
      ⟨some 2, .op (.alloc [.bool false]), none⟩] [2])
  (.seq (.seq (.region [⟨some 7, .call (.c (.func (.func 14) #[] #[])) [], none⟩,
        ⟨some 8, .op (.un .not (.t 7)), none⟩] [2, 8])
    (.cond (.t 8)
      (.seq (.region [⟨none, .op (.store 1 (.t 2) (.c (.bool false))), none⟩] [2])
      (.ret))
      (.skip)))
  (.seq (.region [⟨some 3, .op (.alloc [.int .i64 0]), none⟩,
      ⟨none, .op (.store 1 (.t 3) (.c (.int .i64 0))), none⟩] [])
  (.seq (.seq (.region [⟨some 9, .call (.c (.func (.func 15) #[] #[])) [], none⟩] [])
    (.block 0 (.bad)))
  (.seq (.region [⟨some 33, .op (.load1 (.t 3)), none⟩,
      ⟨some 34, .op (.bin .eql .basic (.t 33) (.c (.int .i64 61))), none⟩,
      ⟨some 35, .op (.mov (.t 34)), none⟩,
      ⟨some 36, .op (.load1 (.t 3)), some (35, false)⟩,
      ⟨some 37, .op (.load1 (.t 1)), some (35, false)⟩,
      ⟨some 38, .op (.bin .eql .basic (.t 36) (.t 37)), some (35, false)⟩,
      ⟨some 39, .pick (.t 35) (.c (.bool true)) (.t 38), none⟩,
      ⟨some 40, .op (.mov (.t 39)), none⟩,
      ⟨some 41, .call (.c (.func (.func 14) #[] #[])) [], some (40, true)⟩,
      ⟨some 42, .pick (.t 40) (.t 41) (.c (.bool false)), none⟩,
      ⟨none, .op (.store 1 (.t 2) (.t 42)), none⟩] [2])
  (.ret)))))⟩

theorem lf3_ok : cFunc Try.prog Try.f3 [[2], [2, 8], [2], [], [], [2]] = some lf3 := by kernel_rfl

/-- squint/squintlaw07.DecodeEmpty -/
def lf4 : LFunc := ⟨115, [.tmp 6],
  .seq (.region [⟨some 6, .op (.mov (.c (.bool false))), none⟩] [0, 1, 2])
  (.seq (.seq (.region [⟨some 18, .op (.mov (.t 0)), none⟩,
        ⟨some 19, .op (.mov (.t 1)), none⟩,
        ⟨some 20, .op (.build [.int .i64 0, .int .i64 0, .slice none 0 0] [(0, 1, .c (.int .i64 0)), (1, 1, .t 18), (2, 1, .t 19)]), none⟩,
        ⟨some 21, .call (.c (.func (.func 17) #[] #[])) [.t 20], none⟩,
        ⟨some 22, .op (.un .not (.t 21)), none⟩,
        ⟨some 23, .op (.mov (.t 22)), none⟩,
        ⟨some 24, .op (.mov (.t 2)), some (23, false)⟩,
        ⟨some 25, .op (.lenS (.t 24)), some (23, false)⟩,
        ⟨some 26, .op (.bin .gtr .basic (.t 25) (.c (.int .i64 300))), some (23, false)⟩,
        ⟨some 27, .pick (.t 23) (.c (.bool true)) (.t 26), none⟩] [0, 1, 2, 27])
    (.cond (.t 27)
      (.seq (.region [⟨some 28, .call (.c (.func (.func 18) #[] #[])) [], none⟩,
          ⟨some 6, .op (.mov (.t 28)), none⟩] [6])
      (.ret))
      (.skip)))
  (.seq (.region [⟨some 30, .op (.mov (.t 0)), none⟩,
      ⟨some 31, .call (.c (.func (.func 19) #[] #[])) [.c (.int .i64 0), .t 30], none⟩,
      ⟨some 29, .op (.mov (.t 31)), none⟩,
      ⟨some 32, .op (.extract 0 (.t 29)), none⟩,
      ⟨some 33, .op (.extract 1 (.t 29)), none⟩,
      ⟨some 7, .op (.mov (.t 32)), none⟩,
      ⟨some 8, .op (.mov (.t 33)), none⟩] [0, 1, 2, 7, 8])
  (.seq (.region [⟨some 35, .op (.mov (.t 0)), none⟩,
      ⟨some 36, .call (.c (.func (.func 19) #[] #[])) [.c (.int .i64 0), .t 35], none⟩,
      ⟨some 34, .op (.mov (.t 36)), none⟩,
      ⟨some 37, .op (.extract 0 (.t 34)), none⟩,
      ⟨some 38, .op (.extract 1 (.t 34)), none⟩,
      ⟨some 9, .op (.mov (.t 37)), none⟩,
      ⟨some 10, .op (.mov (.t 38)), none⟩] [1, 2, 7, 8, 9, 10])
  (.seq (.seq (.region [⟨some 39, .op (.mov (.t 8)), none⟩,
        ⟨some 40, .op (.bin .neq .basic (.t 39) (.c (.int .i64 0))), none⟩,
        ⟨some 41, .op (.mov (.t 40)), none⟩,
        ⟨some 42, .op (.mov (.t 10)), some (41, false)⟩,
        ⟨some 43, .op (.bin .neq .basic (.t 42) (.c (.int .i64 0))), some (41, false)⟩,
        ⟨some 44, .pick (.t 41) (.c (.bool true)) (.t 43), none⟩,
        ⟨some 45, .op (.mov (.t 44)), none⟩,
        ⟨some 46, .op (.mov (.t 7)), some (45, false)⟩,
        ⟨some 47, .op (.bin .eql .ptr (.t 46) (.c (.pointer none))), some (45, false)⟩,
        ⟨some 48, .pick (.t 45) (.c (.bool true)) (.t 47), none⟩,
        ⟨some 49, .op (.mov (.t 48)), none⟩,
        ⟨some 50, .op (.mov (.t 9)), some (49, false)⟩,
        ⟨some 51, .op (.bin .eql .ptr (.t 50) (.c (.pointer none))), some (49, false)⟩,
        ⟨some 52, .pick (.t 49) (.c (.bool true)) (.t 51), none⟩] [1, 2, 7, 9, 52])
    (.cond (.t 52)
      (.seq (.region [⟨some 6, .op (.mov (.c (.bool false))), none⟩] [6])
      (.ret))
      (.skip)))
  (.seq (.seq (.region [⟨some 53, .op (.mov (.t 1)), none⟩,
        ⟨some 54, .op (.lenS (.t 53)), none⟩,
        ⟨some 55, .op (.mov (.c (.int .i64 0))), none⟩] [2, 7, 9, 53, 54, 55])
    (.block 0 (.loop (.seq (.region [⟨some 56, .op (.bin .lss .basic (.t 55) (.t 54)), none⟩] [2, 7, 9, 53, 54, 55, 56])
        (.seq (.cond (.t 56)
            (.skip)
            (.exit 0))
        (.seq (.block 1 (.seq (.region [⟨some 57, .op (.idxAddrS 1 (.t 53) (.t 55)), none⟩,
                ⟨some 58, .op (.load1 (.t 57)), none⟩,
                ⟨some 12, .op (.mov (.t 58)), none⟩] [2, 7, 9, 12, 53, 54, 55])
            (.region [⟨some 59, .op (.mov (.t 7)), none⟩,
              ⟨some 60, .op (.mov (.t 12)), none⟩,
              ⟨some 61, .call (.c (.func (.func 20) #[] #[])) [.t 59, .t 60], none⟩] [2, 7, 9, 53, 54, 55])))
        (.region [⟨some 62, .op (.bin .add .basic (.t 55) (.c (.int .i64 1))), none⟩,
          ⟨some 55, .op (.mov (.t 62)), none⟩] [2, 7, 9, 53, 54, 55])))))))
  (.seq (.seq (.region [⟨some 63, .op (.mov (.t 7)), none⟩,
        ⟨some 64, .call (.c (.func (.func 21) #[] #[])) [.t 63], none⟩] [2, 7, 9, 64])
    (.cond (.t 64)
      (.seq (.region [⟨some 65, .call (.c (.func (.func 18) #[] #[])) [], none⟩,
          ⟨some 6, .op (.mov (.t 65)), none⟩] [6])
      (.ret))
      (.skip)))
  (.seq (.region [⟨some 67, .op (.mov (.t 7)), none⟩,
      ⟨some 68, .op (.mov (.t 2)), none⟩,
      ⟨some 69, .call (.c (.func (.func 20) #[] #[])) [.t 67, .t 68], none⟩,
      ⟨some 66, .op (.mov (.t 69)), none⟩,
      ⟨some 70, .op (.extract 0 (.t 66)), none⟩,
      ⟨some 71, .op (.extract 1 (.t 66)), none⟩,
      ⟨some 13, .op (.mov (.t 70)), none⟩,
      ⟨some 14, .op (.mov (.t 71)), none⟩] [2, 7, 9, 13, 14])
  (.seq (.region [⟨some 73, .op (.mov (.t 9)), none⟩,
      ⟨some 74, .op (.mov (.t 2)), none⟩,
      ⟨some 75, .call (.c (.func (.func 20) #[] #[])) [.t 73, .t 74], none⟩,
      ⟨some 72, .op (.mov (.t 75)), none⟩,
      ⟨some 76, .op (.extract 0 (.t 72)), none⟩,
      ⟨some 77, .op (.extract 1 (.t 72)), none⟩,
      ⟨some 15, .op (.mov (.t 76)), none⟩,
      ⟨some 16, .op (.mov (.t 77)), none⟩] [7, 13, 14, 15, 16])
  (.seq (.seq (.region [⟨some 78, .op (.mov (.t 14)), none⟩,
        ⟨some 79, .op (.mov (.t 16)), none⟩,
        ⟨some 80, .op (.bin .neq .basic (.t 78) (.t 79)), none⟩,
        ⟨some 81, .op (.mov (.t 80)), none⟩,
        ⟨some 82, .op (.mov (.t 13)), some (81, false)⟩,
        ⟨some 83, .op (.lenS (.t 82)), some (81, false)⟩,
        ⟨some 84, .op (.mov (.t 15)), some (81, false)⟩,
        ⟨some 85, .op (.lenS (.t 84)), some (81, false)⟩,
        ⟨some 86, .op (.bin .neq .basic (.t 83) (.t 85)), some (81, false)⟩,
        ⟨some 87, .pick (.t 81) (.c (.bool true)) (.t 86), none⟩,
        ⟨some 88, .op (.mov (.t 87)), none⟩,
        ⟨some 89, .op (.mov (.t 7)), some (88, false)⟩,
        ⟨some 90, .call (.c (.func (.func 22) #[] #[])) [.t 89], some (88, false)⟩,
        ⟨some 91, .op (.bin .eql .ptr (.t 90) (.c (.pointer none))), some (88, false)⟩,
        ⟨some 92, .pick (.t 88) (.c (.bool true)) (.t 91), none⟩,
        ⟨some 93, .op (.mov (.t 92)), none⟩,
        ⟨some 94, .op (.mov (.t 7)), some (93, false)⟩,
        ⟨some 95, .call (.c (.func (.func 22) #[] #[])) [.t 94], some (93, false)⟩,
        ⟨some 96, .call (.c (.func (.func 23) #[] #[])) [.t 95], some (93, false)⟩,
        ⟨some 97, .op (.bin .neq .basic (.t 96) (.c (.int .i64 0))), some (93, false)⟩,
        ⟨some 98, .pick (.t 93) (.c (.bool true)) (.t 97), none⟩] [13, 15, 98])
    (.cond (.t 98)
      (.seq (.region [⟨some 6, .op (.mov (.c (.bool false))), none⟩] [6])
      (.ret))
      (.skip)))
  (.seq (.seq (.region [⟨some 99, .op (.mov (.t 13)), none⟩,
        ⟨some 100, .op (.lenS (.t 99)), none⟩,
        ⟨some 101, .op (.mov (.c (.int .i64 0))), none⟩] [13, 15, 100, 101])
    (.block 2 (.loop (.seq (.region [⟨some 102, .op (.bin .lss .basic (.t 101) (.t 100)), none⟩] [13, 15, 100, 101, 102])
        (.seq (.cond (.t 102)
            (.skip)
            (.exit 2))
        (.seq (.block 3 (.seq (.region [⟨some 103, .op (.mov (.t 101)), none⟩,
                ⟨some 17, .op (.mov (.t 103)), none⟩] [13, 15, 17, 100, 101])
            (.seq (.dregion [(⟨some 104, .op (.mov (.t 13)), none⟩, 0, 0),
                (⟨some 105, .op (.mov (.t 17)), none⟩, 0, 0),
                (⟨some 106, .op (.idxAddrS 3 (.t 104) (.t 105)), none⟩, 0, 0),
                (⟨some 107, .op (.loadN 3 (.t 106)), none⟩, 0, 0),
                (⟨some 108, .op (.mov (.t 15)), none⟩, 0, 0),
                (⟨some 109, .op (.mov (.t 17)), none⟩, 0, 0),
                (⟨some 110, .op (.idxAddrS 3 (.t 108) (.t 109)), none⟩, 0, 0),
                (⟨some 111, .op (.loadN 3 (.t 110)), none⟩, 0, 0),
                (⟨some 112, .op (.bin .neq (.typed 47) (.t 107) (.t 111)), none⟩, 0, 0)] [13, 15, 100, 101, 112])
            (.cond (.t 112)
              (.seq (.region [⟨some 6, .op (.mov (.c (.bool false))), none⟩] [6])
              (.ret))
              (.skip)))))
        (.region [⟨some 113, .op (.bin .add .basic (.t 101) (.c (.int .i64 1))), none⟩,
          ⟨some 101, .op (.mov (.t 113)), none⟩] [13, 15, 100, 101])))))))
  (.seq (.region [⟨some 114, .call (.c (.func (.func 18) #[] #[])) [], none⟩,
      ⟨some 6, .op (.mov (.t 114)), none⟩] [6])
  (.ret))))))))))))⟩

theorem lf4_ok : cFunc Try.prog Try.f4 [[0, 1, 2], [0, 1, 2, 27], [6], [0, 1, 2, 7, 8], [1, 2, 7, 8, 9, 10], [1, 2, 7, 9, 52], [6], [2, 7, 9, 53, 54, 55], [2, 7, 9, 53, 54, 55, 56], [2, 7, 9, 12, 53, 54, 55], [2, 7, 9, 53, 54, 55], [2, 7, 9, 53, 54, 55], [2, 7, 9, 64], [6], [2, 7, 9, 13, 14], [7, 13, 14, 15, 16], [13, 15, 98], [6], [13, 15, 100, 101], [13, 15, 100, 101, 102], [13, 15, 17, 100, 101], [13, 15, 100, 101, 112], [6], [13, 15, 100, 101], [6]] = some lf4 := by kernel_rfl

/-- squint/squintlaw07.DecodePlays -/
def lf5 : LFunc := ⟨75, [.tmp 2],
  .seq (.region [⟨some 1, .op (.box (.t 0)), none⟩,
      ⟨some 2, .op (.mov (.c (.bool false))), none⟩] [1])
  (.seq (.seq (.region [⟨some 12, .op (.loadN 3 (.t 1)), none⟩,
        ⟨some 13, .call (.c (.func (.func 17) #[] #[])) [.t 12], none⟩,
        ⟨some 14, .op (.un .not (.t 13)), none⟩] [1, 14])
    (.cond (.t 14)
      (.seq (.region [⟨some 15, .call (.c (.func (.func 18) #[] #[])) [], none⟩,
          ⟨some 2, .op (.mov (.t 15)), none⟩] [2])
      (.ret))
      (.skip)))
  (.seq (.region [⟨some 17, .op (.fieldAddr 0 (.t 1)), none⟩,
      ⟨some 18, .op (.load1 (.t 17)), none⟩,
      ⟨some 19, .op (.fieldAddr 1 (.t 1)), none⟩,
      ⟨some 20, .op (.load1 (.t 19)), none⟩,
      ⟨some 21, .call (.c (.func (.func 19) #[] #[])) [.t 18, .t 20], none⟩,
      ⟨some 16, .op (.mov (.t 21)), none⟩,
      ⟨some 22, .op (.extract 0 (.t 16)), none⟩,
      ⟨some 23, .op (.extract 1 (.t 16)), none⟩,
      ⟨some 3, .op (.mov (.t 22)), none⟩,
      ⟨some 4, .op (.mov (.t 23)), none⟩] [1, 3, 4])
  (.seq (.seq (.region [⟨some 24, .op (.mov (.t 4)), none⟩,
        ⟨some 25, .op (.bin .neq .basic (.t 24) (.c (.int .i64 0))), none⟩,
        ⟨some 26, .op (.mov (.t 25)), none⟩,
        ⟨some 27, .op (.mov (.t 3)), some (26, false)⟩,
        ⟨some 28, .op (.bin .eql .ptr (.t 27) (.c (.pointer none))), some (26, false)⟩,
        ⟨some 29, .pick (.t 26) (.c (.bool true)) (.t 28), none⟩] [1, 3, 29])
    (.cond (.t 29)
      (.seq (.region [⟨some 2, .op (.mov (.c (.bool false))), none⟩] [2])
      (.ret))
      (.skip)))
  (.seq (.region [⟨some 30, .op (.fieldAddr 0 (.t 1)), none⟩,
      ⟨some 31, .op (.load1 (.t 30)), none⟩,
      ⟨some 32, .op (.fieldAddr 0 (.t 1)), none⟩,
      ⟨some 33, .op (.load1 (.t 32)), none⟩,
      ⟨some 34, .op (.fieldAddr 1 (.t 1)), none⟩,
      ⟨some 35, .op (.load1 (.t 34)), none⟩,
      ⟨some 36, .op (.build [.slice none 0 0, .int .i64 0, .int .i64 0, .int .i64 0, .bool false] [(1, 1, .t 31), (2, 1, .t 33), (3, 1, .t 35)]), none⟩,
      ⟨some 5, .op (.alloc [.slice none 0 0, .int .i64 0, .int .i64 0, .int .i64 0, .bool false]), none⟩,
      ⟨none, .op (.store 5 (.t 5) (.t 36)), none⟩] [1, 3, 5])
  (.seq (.seq (.region [⟨some 37, .op (.fieldAddr 2 (.t 1)), none⟩,
        ⟨some 38, .op (.load1 (.t 37)), none⟩,
        ⟨some 39, .op (.lenS (.t 38)), none⟩,
        ⟨some 40, .op (.mov (.c (.int .i64 0))), none⟩] [3, 5, 38, 39, 40])
    (.block 0 (.loop (.seq (.region [⟨some 41, .op (.bin .lss .basic (.t 40) (.t 39)), none⟩] [3, 5, 38, 39, 40, 41])
        (.seq (.cond (.t 41)
            (.skip)
            (.exit 0))
        (.seq (.block 1 (.seq (.region [⟨some 42, .op (.idxAddrS 1 (.t 38) (.t 40)), none⟩,
                ⟨some 43, .op (.load1 (.t 42)), none⟩,
                ⟨some 7, .op (.mov (.t 43)), none⟩] [3, 5, 7, 38, 39, 40])
            (.seq (.region [⟨some 45, .op (.mov (.t 3)), none⟩,
                ⟨some 46, .op (.mov (.t 7)), none⟩,
                ⟨some 47, .call (.c (.func (.func 20) #[] #[])) [.t 45, .t 46], none⟩,
                ⟨some 44, .op (.mov (.t 47)), none⟩,
                ⟨some 48, .op (.extract 0 (.t 44)), none⟩,
                ⟨some 49, .op (.extract 1 (.t 44)), none⟩,
                ⟨some 8, .op (.mov (.t 48)), none⟩,
                ⟨some 9, .op (.mov (.t 49)), none⟩] [3, 5, 7, 8, 9, 38, 39, 40])
            (.seq (.region [⟨some 10, .op (.mov (.c (.slice none 0 0))), none⟩] [3, 5, 7, 8, 9, 38, 39, 40])
            (.seq (.region [⟨some 11, .op (.mov (.c (.int .i64 0))), none⟩] [3, 5, 7, 8, 9, 38, 39, 40])
            (.seq (.region [⟨some 51, .op (.loadN 5 (.t 5)), none⟩,
                ⟨some 52, .op (.mov (.t 7)), none⟩,
                ⟨some 53, .op (.bytesStr (.t 52)), none⟩,
                ⟨some 54, .call (.c (.func (.func 24) #[] #[])) [.t 51, .t 53], none⟩,
                ⟨some 50, .op (.mov (.t 54)), none⟩,
                ⟨some 55, .op (.extract 0 (.t 50)), none⟩,
                ⟨some 56, .op (.extract 1 (.t 50)), none⟩,
                ⟨some 57, .op (.extract 2 (.t 50)), none⟩,
                ⟨none, .op (.store 5 (.t 5) (.t 55)), none⟩,
                ⟨some 10, .op (.mov (.t 56)), none⟩,
                ⟨some 11, .op (.mov (.t 57)), none⟩] [3, 5, 8, 9, 10, 11, 38, 39, 40])
            (.seq (.region [⟨some 58, .op (.mov (.t 9)), none⟩,
                ⟨some 59, .op (.mov (.t 11)), none⟩,
                ⟨some 60, .op (.bin .neq .basic (.t 58) (.t 59)), none⟩,
                ⟨some 61, .op (.mov (.t 60)), none⟩,
                ⟨some 62, .op (.mov (.t 8)), some (61, false)⟩,
                ⟨some 63, .op (.mov (.t 10)), some (61, false)⟩,
                ⟨some 64, .call (.c (.func (.func 25) #[] #[])) [.t 62, .t 63], some (61, false)⟩,
                ⟨some 65, .op (.un .not (.t 64)), some (61, false)⟩,
                ⟨some 66, .pick (.t 61) (.c (.bool true)) (.t 65), none⟩,
                ⟨some 67, .op (.mov (.t 66)), none⟩,
                ⟨some 68, .op (.mov (.t 3)), some (67, false)⟩,
                ⟨some 69, .op (.loadN 5 (.t 5)), some (67, false)⟩,
                ⟨some 70, .call (.c (.func (.func 26) #[] #[])) [.t 68, .t 69], some (67, false)⟩,
                ⟨some 71, .op (.un .not (.t 70)), some (67, false)⟩,
                ⟨some 72, .pick (.t 67) (.c (.bool true)) (.t 71), none⟩] [3, 5, 38, 39, 40, 72])
            (.cond (.t 72)
              (.seq (.region [⟨some 2, .op (.mov (.c (.bool false))), none⟩] [2])
              (.ret))
              (.skip)))))))))
        (.region [⟨some 73, .op (.bin .add .basic (.t 40) (.c (.int .i64 1))), none⟩,
          ⟨some 40, .op (.mov (.t 73)), none⟩] [3, 5, 38, 39, 40])))))))
  (.seq (.region [⟨some 74, .call (.c (.func (.func 18) #[] #[])) [], none⟩,
      ⟨some 2, .op (.mov (.t 74)), none⟩] [2])
  (.ret)))))))⟩

theorem lf5_ok : cFunc Try.prog Try.f5 [[1], [1, 14], [2], [1, 3, 4], [1, 3, 29], [2], [1, 3, 5], [3, 5, 38, 39, 40], [3, 5, 38, 39, 40, 41], [3, 5, 7, 38, 39, 40], [3, 5, 7, 8, 9, 38, 39, 40], [3, 5, 7, 8, 9, 38, 39, 40], [3, 5, 7, 8, 9, 38, 39, 40], [3, 5, 8, 9, 10, 11, 38, 39, 40], [3, 5, 38, 39, 40, 72], [2], [3, 5, 38, 39, 40], [2]] = some lf5 := by kernel_rfl

/-- squint/squintlaw07.DecodeCopies -/
def lf6 : LFunc := ⟨145, [.tmp 4],
  .seq (.region [⟨some 2, .op (.box (.t 0)), none⟩,
      ⟨some 4, .op (.mov (.c (.bool false))), none⟩] [1, 2])
  (.seq (.region [⟨some 19, .op (.fieldAddr 0 (.t 2)), none⟩,
      ⟨some 20, .op (.load1 (.t 19)), none⟩,
      ⟨some 21, .op (.fieldAddr 1 (.t 2)), none⟩,
      ⟨some 22, .op (.load1 (.t 21)), none⟩,
      ⟨some 23, .call (.c (.func (.func 19) #[] #[])) [.t 20, .t 22], none⟩,
      ⟨some 18, .op (.mov (.t 23)), none⟩,
      ⟨some 24, .op (.extract 0 (.t 18)), none⟩,
      ⟨some 25, .op (.extract 1 (.t 18)), none⟩,
      ⟨some 5, .op (.mov (.t 24)), none⟩,
      ⟨some 6, .op (.mov (.t 25)), none⟩] [1, 2, 5, 6])
  (.seq (.seq (.region [⟨some 26, .op (.fieldAddr 0 (.t 2)), none⟩,
        ⟨some 27, .op (.load1 (.t 26)), none⟩,
        ⟨some 28, .op (.bin .lss .basic (.t 27) (.c (.int .i64 0))), none⟩,
        ⟨some 29, .op (.mov (.t 28)), none⟩,
        ⟨some 30, .op (.fieldAddr 0 (.t 2)), some (29, false)⟩,
        ⟨some 31, .op (.load1 (.t 30)), some (29, false)⟩,
        ⟨some 32, .op (.bin .gtr .basic (.t 31) (.c (.int .i64 65536))), some (29, false)⟩,
        ⟨some 33, .pick (.t 29) (.c (.bool true)) (.t 32), none⟩,
        ⟨some 34, .op (.mov (.t 33)), none⟩,
        ⟨some 35, .op (.fieldAddr 1 (.t 2)), some (34, false)⟩,
        ⟨some 36, .op (.load1 (.t 35)), some (34, false)⟩,
        ⟨some 37, .op (.bin .lss .basic (.t 36) (.c (.int .i64 0))), some (34, false)⟩,
        ⟨some 38, .pick (.t 34) (.c (.bool true)) (.t 37), none⟩,
        ⟨some 39, .op (.mov (.t 38)), none⟩,
        ⟨some 40, .op (.fieldAddr 1 (.t 2)), some (39, false)⟩,
        ⟨some 41, .op (.load1 (.t 40)), some (39, false)⟩,
        ⟨some 42, .op (.bin .gtr .basic (.t 41) (.c (.int .i64 16384))), some (39, false)⟩,
        ⟨some 43, .pick (.t 39) (.c (.bool true)) (.t 42), none⟩] [1, 2, 5, 6, 43])
    (.cond (.t 43)
      (.seq (.region [⟨some 44, .op (.mov (.t 5)), none⟩,
          ⟨some 45, .op (.bin .eql .ptr (.t 44) (.c (.pointer none))), none⟩,
          ⟨some 46, .op (.mov (.t 45)), none⟩,
          ⟨some 47, .op (.mov (.t 6)), some (46, true)⟩,
          ⟨some 48, .op (.bin .eql .basic (.t 47) (.c (.int .i64 11))), some (46, true)⟩,
          ⟨some 49, .pick (.t 46) (.t 48) (.c (.bool false)), none⟩,
          ⟨some 50, .op (.mov (.t 49)), none⟩,
          ⟨some 51, .call (.c (.func (.func 18) #[] #[])) [], some (50, true)⟩,
          ⟨some 52, .pick (.t 50) (.t 51) (.c (.bool false)), none⟩,
          ⟨some 4, .op (.mov (.t 52)), none⟩] [4])
      (.ret))
      (.skip)))
  (.seq (.seq (.region [⟨some 53, .op (.mov (.t 6)), none⟩,
        ⟨some 54, .op (.bin .neq .basic (.t 53) (.c (.int .i64 0))), none⟩,
        ⟨some 55, .op (.mov (.t 54)), none⟩,
        ⟨some 56, .op (.mov (.t 5)), some (55, false)⟩,
        ⟨some 57, .op (.bin .eql .ptr (.t 56) (.c (.pointer none))), some (55, false)⟩,
        ⟨some 58, .pick (.t 55) (.c (.bool true)) (.t 57), none⟩] [1, 2, 5, 58])
    (.cond (.t 58)
      (.seq (.region [⟨some 4, .op (.mov (.c (.bool false))), none⟩] [4])
      (.ret))
      (.skip)))
  (.seq (.seq (.region [⟨some 59, .op (.loadN 3 (.t 2)), none⟩,
        ⟨some 60, .call (.c (.func (.func 17) #[] #[])) [.t 59], none⟩,
        ⟨some 61, .op (.un .not (.t 60)), none⟩,
        ⟨some 62, .op (.mov (.t 61)), none⟩,
        ⟨some 63, .op (.fieldAddr 0 (.t 2)), some (62, false)⟩,
        ⟨some 64, .op (.load1 (.t 63)), some (62, false)⟩,
        ⟨some 65, .op (.fieldAddr 1 (.t 2)), some (62, false)⟩,
        ⟨some 66, .op (.load1 (.t 65)), some (62, false)⟩,
        ⟨some 67, .op (.mov (.t 1)), some (62, false)⟩,
        ⟨some 68, .op (.build [.int .i64 0, .int .i64 0, .slice none 0 0] [(0, 1, .t 64), (1, 1, .t 66), (2, 1, .t 67)]), some (62, false)⟩,
        ⟨some 69, .call (.c (.func (.func 17) #[] #[])) [.t 68], some (62, false)⟩,
        ⟨some 70, .op (.un .not (.t 69)), some (62, false)⟩,
        ⟨some 71, .pick (.t 62) (.c (.bool true)) (.t 70), none⟩] [1, 2, 5, 71])
    (.cond (.t 71)
      (.seq (.region [⟨some 72, .call (.c (.func (.func 18) #[] #[])) [], none⟩,
          ⟨some 4, .op (.mov (.t 72)), none⟩] [4])
      (.ret))
      (.skip)))
  (.seq (.region [⟨some 73, .op (.fieldAddr 0 (.t 2)), none⟩,
      ⟨some 74, .op (.load1 (.t 73)), none⟩,
      ⟨some 75, .op (.fieldAddr 0 (.t 2)), none⟩,
      ⟨some 76, .op (.load1 (.t 75)), none⟩,
      ⟨some 77, .op (.fieldAddr 1 (.t 2)), none⟩,
      ⟨some 78, .op (.load1 (.t 77)), none⟩,
      ⟨some 79, .op (.build [.slice none 0 0, .int .i64 0, .int .i64 0, .int .i64 0, .bool false] [(1, 1, .t 74), (2, 1, .t 76), (3, 1, .t 78)]), none⟩,
      ⟨some 7, .op (.alloc [.slice none 0 0, .int .i64 0, .int .i64 0, .int .i64 0, .bool false]), none⟩,
      ⟨none, .op (.store 5 (.t 7) (.t 79)), none⟩] [1, 2, 5, 7])
  (.seq (.seq (.region [⟨some 80, .op (.fieldAddr 2 (.t 2)), none⟩,
        ⟨some 81, .op (.load1 (.t 80)), none⟩,
        ⟨some 82, .op (.lenS (.t 81)), none⟩,
        ⟨some 83, .op (.mov (.c (.int .i64 0))), none⟩] [1, 5, 7, 81, 82, 83])
    (.block 0 (.loop (.seq (.region [⟨some 84, .op (.bin .lss .basic (.t 83) (.t 82)), none⟩] [1, 5, 7, 81, 82, 83, 84])
        (.seq (.cond (.t 84)
            (.skip)
            (.exit 0))
        (.seq (.block 1 (.seq (.region [⟨some 85, .op (.idxAddrS 1 (.t 81) (.t 83)), none⟩,
                ⟨some 86, .op (.load1 (.t 85)), none⟩,
                ⟨some 9, .op (.mov (.t 86)), none⟩] [1, 5, 7, 9, 81, 82, 83])
            (.seq (.region [⟨some 87, .op (.mov (.t 5)), none⟩,
                ⟨some 88, .op (.mov (.t 9)), none⟩,
                ⟨some 89, .call (.c (.func (.func 20) #[] #[])) [.t 87, .t 88], none⟩] [1, 5, 7, 9, 81, 82, 83])
            (.region [⟨some 91, .op (.loadN 5 (.t 7)), none⟩,
              ⟨some 92, .op (.mov (.t 9)), none⟩,
              ⟨some 93, .op (.bytesStr (.t 92)), none⟩,
              ⟨some 94, .call (.c (.func (.func 24) #[] #[])) [.t 91, .t 93], none⟩,
              ⟨some 90, .op (.mov (.t 94)), none⟩,
              ⟨some 95, .op (.extract 0 (.t 90)), none⟩,
              ⟨some 96, .op (.extract 1 (.t 90)), none⟩,
              ⟨some 97, .op (.extract 2 (.t 90)), none⟩,
              ⟨none, .op (.store 5 (.t 7) (.t 95)), none⟩] [1, 5, 7, 81, 82, 83]))))
        (.region [⟨some 98, .op (.bin .add .basic (.t 83) (.c (.int .i64 1))), none⟩,
          ⟨some 83, .op (.mov (.t 98)), none⟩] [1, 5, 7, 81, 82, 83])))))))
  (.seq (.region [⟨some 99, .op (.mov (.t 5)), none⟩,
      ⟨some 100, .call (.c (.func (.func 27) #[] #[])) [.t 99], none⟩,
      ⟨some 10, .op (.mov (.t 100)), none⟩] [1, 5, 7, 10])
  (.seq (.seq (.region [⟨some 101, .op (.mov (.t 10)), none⟩,
        ⟨some 102, .op (.bin .eql .ptr (.t 101) (.c (.pointer none))), none⟩] [1, 5, 7, 10, 102])
    (.cond (.t 102)
      (.seq (.region [⟨some 4, .op (.mov (.c (.bool false))), none⟩] [4])
      (.ret))
      (.skip)))
  (.seq (.region [⟨some 103, .op (.loadN 5 (.t 7)), none⟩,
      ⟨some 11, .op (.alloc [.slice none 0 0, .int .i64 0, .int .i64 0, .int .i64 0, .bool false]), none⟩,
      ⟨none, .op (.store 5 (.t 11) (.t 103)), none⟩] [1, 5, 7, 10, 11])
  (.seq (.seq (.region [⟨some 104, .op (.mov (.t 1)), none⟩,
        ⟨some 105, .op (.lenS (.t 104)), none⟩,
        ⟨some 106, .op (.mov (.c (.int .i64 0))), none⟩] [5, 7, 10, 11, 104, 105, 106])
    (.block 2 (.loop (.seq (.region [⟨some 107, .op (.bin .lss .basic (.t 106) (.t 105)), none⟩] [5, 7, 10, 11, 104, 105, 106, 107])
        (.seq (.cond (.t 107)
            (.skip)
            (.exit 2))
        (.seq (.block 3 (.seq (.region [⟨some 108, .op (.idxAddrS 1 (.t 104) (.t 106)), none⟩,
                ⟨some 109, .op (.load1 (.t 108)), none⟩,
                ⟨some 13, .op (.mov (.t 109)), none⟩] [5, 7, 10, 11, 13, 104, 105, 106])
            (.seq (.region [⟨some 111, .op (.mov (.t 10)), none⟩,
                ⟨some 112, .op (.mov (.t 13)), none⟩,
                ⟨some 113, .call (.c (.func (.func 20) #[] #[])) [.t 111, .t 112], none⟩,
                ⟨some 110, .op (.mov (.t 113)), none⟩,
                ⟨some 114, .op (.extract 0 (.t 110)), none⟩,
                ⟨some 115, .op (.extract 1 (.t 110)), none⟩,
                ⟨some 14, .op (.mov (.t 114)), none⟩,
                ⟨some 15, .op (.mov (.t 115)), none⟩] [5, 7, 10, 11, 13, 14, 15, 104, 105, 106])
            (.seq (.region [⟨some 16, .op (.mov (.c (.slice none 0 0))), none⟩] [5, 7, 10, 11, 13, 14, 15, 104, 105, 106])
            (.seq (.region [⟨some 17, .op (.mov (.c (.int .i64 0))), none⟩] [5, 7, 10, 11, 13, 14, 15, 104, 105, 106])
            (.seq (.region [⟨some 117, .op (.loadN 5 (.t 11)), none⟩,
                ⟨some 118, .op (.mov (.t 13)), none⟩,
                ⟨some 119, .op (.bytesStr (.t 118)), none⟩,
                ⟨some 120, .call (.c (.func (.func 24) #[] #[])) [.t 117, .t 119], none⟩,
                ⟨some 116, .op (.mov (.t 120)), none⟩,
                ⟨some 121, .op (.extract 0 (.t 116)), none⟩,
                ⟨some 122, .op (.extract 1 (.t 116)), none⟩,
                ⟨some 123, .op (.extract 2 (.t 116)), none⟩,
                ⟨none, .op (.store 5 (.t 11) (.t 121)), none⟩,
                ⟨some 16, .op (.mov (.t 122)), none⟩,
                ⟨some 17, .op (.mov (.t 123)), none⟩] [5, 7, 10, 11, 14, 15, 16, 17, 104, 105, 106])
            (.seq (.region [⟨some 124, .op (.mov (.t 15)), none⟩,
                ⟨some 125, .op (.mov (.t 17)), none⟩,
                ⟨some 126, .op (.bin .neq .basic (.t 124) (.t 125)), none⟩,
                ⟨some 127, .op (.mov (.t 126)), none⟩,
                ⟨some 128, .op (.mov (.t 14)), some (127, false)⟩,
                ⟨some 129, .op (.mov (.t 16)), some (127, false)⟩,
                ⟨some 130, .call (.c (.func (.func 25) #[] #[])) [.t 128, .t 129], some (127, false)⟩,
                ⟨some 131, .op (.un .not (.t 130)), some (127, false)⟩,
                ⟨some 132, .pick (.t 127) (.c (.bool true)) (.t 131), none⟩] [5, 7, 10, 11, 104, 105, 106, 132])
            (.cond (.t 132)
              (.seq (.region [⟨some 4, .op (.mov (.c (.bool false))), none⟩] [4])
              (.ret))
              (.skip)))))))))
        (.region [⟨some 133, .op (.bin .add .basic (.t 106) (.c (.int .i64 1))), none⟩,
          ⟨some 106, .op (.mov (.t 133)), none⟩] [5, 7, 10, 11, 104, 105, 106])))))))
  (.seq (.region [⟨some 134, .op (.mov (.t 5)), none⟩,
      ⟨some 135, .op (.loadN 5 (.t 7)), none⟩,
      ⟨some 136, .call (.c (.func (.func 26) #[] #[])) [.t 134, .t 135], none⟩,
      ⟨some 137, .op (.mov (.t 136)), none⟩,
      ⟨some 138, .op (.mov (.t 10)), some (137, true)⟩,
      ⟨some 139, .op (.loadN 5 (.t 11)), some (137, true)⟩,
      ⟨some 140, .call (.c (.func (.func 26) #[] #[])) [.t 138, .t 139], some (137, true)⟩,
      ⟨some 141, .pick (.t 137) (.t 140) (.c (.bool false)), none⟩,
      ⟨some 142, .op (.mov (.t 141)), none⟩,
      ⟨some 143, .call (.c (.func (.func 18) #[] #[])) [], some (142, true)⟩,
      ⟨some 144, .pick (.t 142) (.t 143) (.c (.bool false)), none⟩,
      ⟨some 4, .op (.mov (.t 144)), none⟩] [4])
  (.ret))))))))))))⟩

theorem lf6_ok : cFunc Try.prog Try.f6 [[1, 2], [1, 2, 5, 6], [1, 2, 5, 6, 43], [4], [1, 2, 5, 58], [4], [1, 2, 5, 71], [4], [1, 2, 5, 7], [1, 5, 7, 81, 82, 83], [1, 5, 7, 81, 82, 83, 84], [1, 5, 7, 9, 81, 82, 83], [1, 5, 7, 9, 81, 82, 83], [1, 5, 7, 81, 82, 83], [1, 5, 7, 81, 82, 83], [1, 5, 7, 10], [1, 5, 7, 10, 102], [4], [1, 5, 7, 10, 11], [5, 7, 10, 11, 104, 105, 106], [5, 7, 10, 11, 104, 105, 106, 107], [5, 7, 10, 11, 13, 104, 105, 106], [5, 7, 10, 11, 13, 14, 15, 104, 105, 106], [5, 7, 10, 11, 13, 14, 15, 104, 105, 106], [5, 7, 10, 11, 13, 14, 15, 104, 105, 106], [5, 7, 10, 11, 14, 15, 16, 17, 104, 105, 106], [5, 7, 10, 11, 104, 105, 106, 132], [4], [5, 7, 10, 11, 104, 105, 106], [4]] = some lf6 := by kernel_rfl

/-- squint/squintlaw07.DecodeRows -/
def lf7 : LFunc := ⟨195, [.tmp 6],
  .seq (.region [⟨some 6, .op (.mov (.c (.bool false))), none⟩] [0, 1, 2])
  (.seq (.seq (.region [⟨some 21, .op (.mov (.t 0)), none⟩,
        ⟨some 22, .op (.mov (.t 1)), none⟩,
        ⟨some 23, .op (.mov (.t 2)), none⟩,
        ⟨some 24, .op (.buildSlice 2 1 [.slice none 0 0, .slice none 0 0] [(0, 1, .t 22), (1, 1, .t 23)]), none⟩,
        ⟨some 25, .op (.build [.int .i64 0, .int .i64 0, .slice none 0 0] [(0, 1, .t 21), (1, 1, .c (.int .i64 16384)), (2, 1, .t 24)]), none⟩,
        ⟨some 26, .call (.c (.func (.func 17) #[] #[])) [.t 25], none⟩,
        ⟨some 27, .op (.un .not (.t 26)), none⟩,
        ⟨some 28, .op (.mov (.t 27)), none⟩,
        ⟨some 29, .op (.mov (.t 2)), some (28, false)⟩,
        ⟨some 30, .op (.lenS (.t 29)), some (28, false)⟩,
        ⟨some 31, .op (.bin .gtr .basic (.t 30) (.c (.int .i64 0))), some (28, false)⟩,
        ⟨some 32, .op (.mov (.t 31)), some (28, false)⟩,
        ⟨some 33, .op (.mov (.t 2)), some (32, true)⟩,
        ⟨some 34, .op (.idxAddrS 1 (.t 33) (.c (.int .i64 0))), some (32, true)⟩,
        ⟨some 35, .op (.load1 (.t 34)), some (32, true)⟩,
        ⟨some 36, .op (.bin .geq .basic (.t 35) (.c (.int .u8 32))), some (32, true)⟩,
        ⟨some 37, .pick (.t 32) (.t 36) (.c (.bool false)), some (28, false)⟩,
        ⟨some 38, .op (.mov (.t 37)), some (28, false)⟩,
        ⟨some 39, .op (.mov (.t 2)), some (38, true)⟩,
        ⟨some 40, .op (.idxAddrS 1 (.t 39) (.c (.int .i64 0))), some (38, true)⟩,
        ⟨some 41, .op (.load1 (.t 40)), some (38, true)⟩,
        ⟨some 42, .op (.bin .lss .basic (.t 41) (.c (.int .u8 64))), some (38, true)⟩,
        ⟨some 43, .pick (.t 38) (.t 42) (.c (.bool false)), some (28, false)⟩,
        ⟨some 44, .pick (.t 28) (.c (.bool true)) (.t 43), none⟩] [0, 1, 2, 44])
    (.cond (.t 44)
      (.seq (.region [⟨some 45, .call (.c (.func (.func 18) #[] #[])) [], none⟩,
          ⟨some 6, .op (.mov (.t 45)), none⟩] [6])
      (.ret))
      (.skip)))
  (.seq (.region [⟨some 47, .op (.mov (.t 0)), none⟩,
      ⟨some 48, .call (.c (.func (.func 19) #[] #[])) [.t 47, .c (.int .i64 16384)], none⟩,
      ⟨some 46, .op (.mov (.t 48)), none⟩,
      ⟨some 49, .op (.extract 0 (.t 46)), none⟩,
      ⟨some 50, .op (.extract 1 (.t 46)), none⟩,
      ⟨some 7, .op (.mov (.t 49)), none⟩,
      ⟨some 8, .op (.mov (.t 50)), none⟩] [0, 1, 2, 7, 8])
  (.seq (.region [⟨some 52, .op (.mov (.t 0)), none⟩,
      ⟨some 53, .call (.c (.func (.func 19) #[] #[])) [.t 52, .c (.int .i64 16384)], none⟩,
      ⟨some 51, .op (.mov (.t 53)), none⟩,
      ⟨some 54, .op (.extract 0 (.t 51)), none⟩,
      ⟨some 55, .op (.extract 1 (.t 51)), none⟩,
      ⟨some 9, .op (.mov (.t 54)), none⟩,
      ⟨some 10, .op (.mov (.t 55)), none⟩] [1, 2, 7, 8, 9, 10])
  (.seq (.seq (.region [⟨some 56, .op (.mov (.t 8)), none⟩,
        ⟨some 57, .op (.bin .neq .basic (.t 56) (.c (.int .i64 0))), none⟩,
        ⟨some 58, .op (.mov (.t 57)), none⟩,
        ⟨some 59, .op (.mov (.t 10)), some (58, false)⟩,
        ⟨some 60, .op (.bin .neq .basic (.t 59) (.c (.int .i64 0))), some (58, false)⟩,
        ⟨some 61, .pick (.t 58) (.c (.bool true)) (.t 60), none⟩,
        ⟨some 62, .op (.mov (.t 61)), none⟩,
        ⟨some 63, .op (.mov (.t 7)), some (62, false)⟩,
        ⟨some 64, .op (.bin .eql .ptr (.t 63) (.c (.pointer none))), some (62, false)⟩,
        ⟨some 65, .pick (.t 62) (.c (.bool true)) (.t 64), none⟩,
        ⟨some 66, .op (.mov (.t 65)), none⟩,
        ⟨some 67, .op (.mov (.t 9)), some (66, false)⟩,
        ⟨some 68, .op (.bin .eql .ptr (.t 67) (.c (.pointer none))), some (66, false)⟩,
        ⟨some 69, .pick (.t 66) (.c (.bool true)) (.t 68), none⟩] [1, 2, 7, 9, 69])
    (.cond (.t 69)
      (.seq (.region [⟨some 6, .op (.mov (.c (.bool false))), none⟩] [6])
      (.ret))
      (.skip)))
  (.seq (.region [⟨some 71, .op (.mov (.t 7)), none⟩,
      ⟨some 72, .op (.mov (.t 1)), none⟩,
      ⟨some 73, .call (.c (.func (.func 20) #[] #[])) [.t 71, .t 72], none⟩,
      ⟨some 70, .op (.mov (.t 73)), none⟩,
      ⟨some 74, .op (.extract 0 (.t 70)), none⟩,
      ⟨some 75, .op (.extract 1 (.t 70)), none⟩,
      ⟨some 11, .op (.mov (.t 74)), none⟩,
      ⟨some 12, .op (.mov (.t 75)), none⟩] [1, 2, 7, 9, 11, 12])
  (.seq (.region [⟨some 77, .op (.mov (.t 7)), none⟩,
      ⟨some 78, .op (.mov (.t 2)), none⟩,
      ⟨some 79, .call (.c (.func (.func 20) #[] #[])) [.t 77, .t 78], none⟩,
      ⟨some 76, .op (.mov (.t 79)), none⟩,
      ⟨some 80, .op (.extract 0 (.t 76)), none⟩,
      ⟨some 81, .op (.extract 1 (.t 76)), none⟩,
      ⟨some 13, .op (.mov (.t 80)), none⟩,
      ⟨some 14, .op (.mov (.t 81)), none⟩] [1, 2, 7, 9, 11, 12, 13, 14])
  (.seq (.seq (.region [⟨some 82, .op (.mov (.t 12)), none⟩,
        ⟨some 83, .op (.bin .neq .basic (.t 82) (.c (.int .i64 0))), none⟩,
        ⟨some 84, .op (.mov (.t 83)), none⟩,
        ⟨some 85, .op (.mov (.t 14)), some (84, false)⟩,
        ⟨some 86, .op (.bin .neq .basic (.t 85) (.c (.int .i64 0))), some (84, false)⟩,
        ⟨some 87, .pick (.t 84) (.c (.bool true)) (.t 86), none⟩] [1, 2, 7, 9, 11, 13, 87])
    (.cond (.t 87)
      (.seq (.region [⟨some 88, .call (.c (.func (.func 18) #[] #[])) [], none⟩,
          ⟨some 6, .op (.mov (.t 88)), none⟩] [6])
      (.ret))
      (.skip)))
  (.seq (.region [⟨some 90, .op (.mov (.t 9)), none⟩,
      ⟨some 91, .op (.buildSlice 0 1 [] []), none⟩,
      ⟨some 92, .op (.mov (.t 1)), none⟩,
      ⟨some 93, .op (.append 1 1 (.t 91) (.t 92)), none⟩,
      ⟨some 94, .op (.mov (.t 2)), none⟩,
      ⟨some 95, .op (.append 1 1 (.t 93) (.t 94)), none⟩,
      ⟨some 96, .call (.c (.func (.func 20) #[] #[])) [.t 90, .t 95], none⟩,
      ⟨some 89, .op (.mov (.t 96)), none⟩,
      ⟨some 97, .op (.extract 0 (.t 89)), none⟩,
      ⟨some 98, .op (.extract 1 (.t 89)), none⟩,
      ⟨some 15, .op (.mov (.t 97)), none⟩,
      ⟨some 16, .op (.mov (.t 98)), none⟩] [7, 9, 11, 13, 15, 16])
  (.seq (.region [⟨some 17, .op (.mov (.c (.int .i64 0))), none⟩] [7, 9, 11, 13, 15, 16, 17])
  (.seq (.seq (.region [⟨some 99, .op (.buildSlice 0 3 [] []), none⟩,
        ⟨some 100, .op (.mov (.t 11)), none⟩,
        ⟨some 101, .op (.append 3 40 (.t 99) (.t 100)), none⟩,
        ⟨some 102, .op (.mov (.t 13)), none⟩,
        ⟨some 103, .op (.append 3 40 (.t 101) (.t 102)), none⟩,
        ⟨some 104, .call (.c (.func (.func 28) #[] #[])) [.t 103], none⟩,
        ⟨some 105, .op (.lenS (.t 104)), none⟩,
        ⟨some 106, .op (.mov (.c (.int .i64 0))), none⟩] [7, 9, 11, 13, 15, 16, 17, 104, 105, 106])
    (.block 0 (.loop (.seq (.region [⟨some 107, .op (.bin .lss .basic (.t 106) (.t 105)), none⟩] [7, 9, 11, 13, 15, 16, 17, 104, 105, 106, 107])
        (.seq (.cond (.t 107)
            (.skip)
            (.exit 0))
        (.seq (.block 1 (.seq (.region [⟨some 108, .op (.idxAddrS 2 (.t 104) (.t 106)), none⟩,
                ⟨some 109, .op (.loadN 2 (.t 108)), none⟩,
                ⟨some 19, .op (.alloc [.string ⟨#[]⟩, .string ⟨#[]⟩]), none⟩,
                ⟨none, .op (.store 2 (.t 19) (.t 109)), none⟩] [7, 9, 11, 13, 15, 16, 17, 19, 104, 105, 106])
            (.region [⟨some 110, .op (.mov (.t 17)), none⟩,
              ⟨some 111, .op (.loadN 2 (.t 19)), none⟩,
              ⟨some 112, .call (.c (.func (.func 29) #[] #[])) [.t 111], none⟩,
              ⟨some 113, .op (.bin .add .basic (.t 110) (.t 112)), none⟩,
              ⟨some 17, .op (.mov (.t 113)), none⟩] [7, 9, 11, 13, 15, 16, 17, 104, 105, 106])))
        (.region [⟨some 114, .op (.bin .add .basic (.t 106) (.c (.int .i64 1))), none⟩,
          ⟨some 106, .op (.mov (.t 114)), none⟩] [7, 9, 11, 13, 15, 16, 17, 104, 105, 106])))))))
  (.seq (.seq (.region [⟨some 115, .op (.mov (.t 17)), none⟩,
        ⟨some 116, .op (.bin .gtr .basic (.t 115) (.c (.int .i64 16384))), none⟩] [7, 9, 11, 13, 15, 16, 116])
    (.cond (.t 116)
      (.seq (.region [⟨some 117, .op (.mov (.t 16)), none⟩,
          ⟨some 118, .op (.bin .eql .basic (.t 117) (.c (.int .i64 22))), none⟩,
          ⟨some 119, .op (.mov (.t 118)), none⟩,
          ⟨some 120, .call (.c (.func (.func 18) #[] #[])) [], some (119, true)⟩,
          ⟨some 121, .pick (.t 119) (.t 120) (.c (.bool false)), none⟩,
          ⟨some 6, .op (.mov (.t 121)), none⟩] [6])
      (.ret))
      (.skip)))
  (.seq (.seq (.region [⟨some 122, .op (.mov (.t 16)), none⟩,
        ⟨some 123, .op (.bin .neq .basic (.t 122) (.c (.int .i64 0))), none⟩,
        ⟨some 124, .op (.mov (.t 123)), none⟩,
        ⟨some 125, .op (.mov (.t 15)), some (124, false)⟩,
        ⟨some 126, .op (.lenS (.t 125)), some (124, false)⟩,
        ⟨some 127, .op (.mov (.t 11)), some (124, false)⟩,
        ⟨some 128, .op (.lenS (.t 127)), some (124, false)⟩,
        ⟨some 129, .op (.mov (.t 13)), some (124, false)⟩,
        ⟨some 130, .op (.lenS (.t 129)), some (124, false)⟩,
        ⟨some 131, .op (.bin .add .basic (.t 128) (.t 130)), some (124, false)⟩,
        ⟨some 132, .op (.bin .neq .basic (.t 126) (.t 131)), some (124, false)⟩,
        ⟨some 133, .pick (.t 124) (.c (.bool true)) (.t 132), none⟩,
        ⟨some 134, .op (.mov (.t 133)), none⟩,
        ⟨some 135, .op (.mov (.t 7)), some (134, false)⟩,
        ⟨some 136, .call (.c (.func (.func 22) #[] #[])) [.t 135], some (134, false)⟩,
        ⟨some 137, .op (.bin .eql .ptr (.t 136) (.c (.pointer none))), some (134, false)⟩,
        ⟨some 138, .pick (.t 134) (.c (.bool true)) (.t 137), none⟩,
        ⟨some 139, .op (.mov (.t 138)), none⟩,
        ⟨some 140, .op (.mov (.t 9)), some (139, false)⟩,
        ⟨some 141, .call (.c (.func (.func 22) #[] #[])) [.t 140], some (139, false)⟩,
        ⟨some 142, .op (.bin .eql .ptr (.t 141) (.c (.pointer none))), some (139, false)⟩,
        ⟨some 143, .pick (.t 139) (.c (.bool true)) (.t 142), none⟩,
        ⟨some 144, .op (.mov (.t 143)), none⟩,
        ⟨some 145, .op (.mov (.t 7)), some (144, false)⟩,
        ⟨some 146, .call (.c (.func (.func 22) #[] #[])) [.t 145], some (144, false)⟩,
        ⟨some 147, .call (.c (.func (.func 30) #[] #[])) [.t 146], some (144, false)⟩,
        ⟨some 148, .op (.mov (.t 9)), some (144, false)⟩,
        ⟨some 149, .call (.c (.func (.func 22) #[] #[])) [.t 148], some (144, false)⟩,
        ⟨some 150, .call (.c (.func (.func 30) #[] #[])) [.t 149], some (144, false)⟩,
        ⟨some 151, .op (.bin .neq .basic (.t 147) (.t 150)), some (144, false)⟩,
        ⟨some 152, .pick (.t 144) (.c (.bool true)) (.t 151), none⟩] [11, 13, 15, 152])
    (.cond (.t 152)
      (.seq (.region [⟨some 6, .op (.mov (.c (.bool false))), none⟩] [6])
      (.ret))
      (.skip)))
  (.seq (.seq (.region [⟨some 153, .op (.mov (.t 15)), none⟩,
        ⟨some 154, .op (.lenS (.t 153)), none⟩,
        ⟨some 155, .op (.mov (.c (.int .i64 0))), none⟩] [11, 13, 15, 154, 155])
    (.block 2 (.loop (.seq (.region [⟨some 156, .op (.bin .lss .basic (.t 155) (.t 154)), none⟩] [11, 13, 15, 154, 155, 156])
        (.seq (.cond (.t 156)
            (.skip)
            (.exit 2))
        (.seq (.block 3 (.seq (.region [⟨some 157, .op (.mov (.t 155)), none⟩,
                ⟨some 20, .op (.mov (.t 157)), none⟩] [11, 13, 15, 20, 154, 155])
            (.seq (.dregion [(⟨some 158, .op (.mov (.t 20)), none⟩, 0, 0),
                (⟨some 159, .op (.mov (.t 11)), none⟩, 0, 0),
                (⟨some 160, .op (.lenS (.t 159)), none⟩, 0, 0),
                (⟨some 161, .op (.bin .lss .basic (.t 158) (.t 160)), none⟩, 0, 0),
                (⟨some 162, .op (.mov (.t 161)), none⟩, 0, 0),
                (⟨some 163, .op (.mov (.t 15)), some (162, true)⟩, 0, 0),
                (⟨some 164, .op (.mov (.t 20)), some (162, true)⟩, 0, 0),
                (⟨some 165, .op (.idxAddrS 3 (.t 163) (.t 164)), some (162, true)⟩, 0, 0),
                (⟨some 166, .op (.loadN 3 (.t 165)), some (162, true)⟩, 0, 0),
                (⟨some 167, .op (.mov (.t 11)), some (162, true)⟩, 0, 0),
                (⟨some 168, .op (.mov (.t 20)), some (162, true)⟩, 0, 0),
                (⟨some 169, .op (.idxAddrS 3 (.t 167) (.t 168)), some (162, true)⟩, 0, 0),
                (⟨some 170, .op (.loadN 3 (.t 169)), some (162, true)⟩, 0, 0),
                (⟨some 171, .op (.bin .neq (.typed 47) (.t 166) (.t 170)), some (162, true)⟩, 0, 0),
                (⟨some 172, .pick (.t 162) (.t 171) (.c (.bool false)), none⟩, 0, 0),
                (⟨some 173, .op (.mov (.t 172)), none⟩, 0, 0),
                (⟨some 174, .op (.mov (.t 20)), some (173, false)⟩, 0, 0),
                (⟨some 175, .op (.mov (.t 11)), some (173, false)⟩, 0, 0),
                (⟨some 176, .op (.lenS (.t 175)), some (173, false)⟩, 0, 0),
                (⟨some 177, .op (.bin .geq .basic (.t 174) (.t 176)), some (173, false)⟩, 0, 0),
                (⟨some 178, .op (.mov (.t 177)), some (173, false)⟩, 0, 0),
                (⟨some 179, .op (.mov (.t 15)), some (178, true)⟩, 0, 0),
                (⟨some 180, .op (.mov (.t 20)), some (178, true)⟩, 0, 0),
                (⟨some 181, .op (.idxAddrS 3 (.t 179) (.t 180)), some (178, true)⟩, 0, 0),
                (⟨some 182, .op (.loadN 3 (.t 181)), some (178, true)⟩, 0, 0),
                (⟨some 183, .op (.mov (.t 13)), some (178, true)⟩, 0, 0),
                (⟨some 184, .op (.mov (.t 20)), some (178, true)⟩, 0, 0),
                (⟨some 185, .op (.mov (.t 11)), some (178, true)⟩, 0, 0),
                (⟨some 186, .op (.lenS (.t 185)), some (178, true)⟩, 0, 0),
                (⟨some 187, .op (.bin .sub .basic (.t 184) (.t 186)), some (178, true)⟩, 0, 0),
                (⟨some 188, .op (.idxAddrS 3 (.t 183) (.t 187)), some (178, true)⟩, 0, 0),
                (⟨some 189, .op (.loadN 3 (.t 188)), some (178, true)⟩, 0, 0),
                (⟨some 190, .op (.bin .neq (.typed 47) (.t 182) (.t 189)), some (178, true)⟩, 0, 0),
                (⟨some 191, .pick (.t 178) (.t 190) (.c (.bool false)), some (173, false)⟩, 0, 0),
                (⟨some 192, .pick (.t 173) (.c (.bool true)) (.t 191), none⟩, 0, 0)] [11, 13, 15, 154, 155, 192])
            (.cond (.t 192)
              (.seq (.region [⟨some 6, .op (.mov (.c (.bool false))), none⟩] [6])
              (.ret))
              (.skip)))))
        (.region [⟨some 193, .op (.bin .add .basic (.t 155) (.c (.int .i64 1))), none⟩,
          ⟨some 155, .op (.mov (.t 193)), none⟩] [11, 13, 15, 154, 155])))))))
  (.seq (.region [⟨some 194, .call (.c (.func (.func 18) #[] #[])) [], none⟩,
      ⟨some 6, .op (.mov (.t 194)), none⟩] [6])
  (.ret)))))))))))))))⟩

theorem lf7_ok : cFunc Try.prog Try.f7 [[0, 1, 2], [0, 1, 2, 44], [6], [0, 1, 2, 7, 8], [1, 2, 7, 8, 9, 10], [1, 2, 7, 9, 69], [6], [1, 2, 7, 9, 11, 12], [1, 2, 7, 9, 11, 12, 13, 14], [1, 2, 7, 9, 11, 13, 87], [6], [7, 9, 11, 13, 15, 16], [7, 9, 11, 13, 15, 16, 17], [7, 9, 11, 13, 15, 16, 17, 104, 105, 106], [7, 9, 11, 13, 15, 16, 17, 104, 105, 106, 107], [7, 9, 11, 13, 15, 16, 17, 19, 104, 105, 106], [7, 9, 11, 13, 15, 16, 17, 104, 105, 106], [7, 9, 11, 13, 15, 16, 17, 104, 105, 106], [7, 9, 11, 13, 15, 16, 116], [6], [11, 13, 15, 152], [6], [11, 13, 15, 154, 155], [11, 13, 15, 154, 155, 156], [11, 13, 15, 20, 154, 155], [11, 13, 15, 154, 155, 192], [6], [11, 13, 15, 154, 155], [6]] = some lf7 := by kernel_rfl

/-- squint/squintlaw07.DecodeBounds -/
def lf8 : LFunc := ⟨90, [.tmp 2],
  .seq (.region [⟨some 1, .op (.box (.t 0)), none⟩,
      ⟨some 2, .op (.mov (.c (.bool false))), none⟩] [1])
  (.seq (.seq (.region [⟨some 13, .op (.loadN 3 (.t 1)), none⟩,
        ⟨some 14, .call (.c (.func (.func 17) #[] #[])) [.t 13], none⟩,
        ⟨some 15, .op (.un .not (.t 14)), none⟩] [1, 15])
    (.cond (.t 15)
      (.seq (.region [⟨some 16, .call (.c (.func (.func 18) #[] #[])) [], none⟩,
          ⟨some 2, .op (.mov (.t 16)), none⟩] [2])
      (.ret))
      (.skip)))
  (.seq (.region [⟨some 18, .op (.fieldAddr 0 (.t 1)), none⟩,
      ⟨some 19, .op (.load1 (.t 18)), none⟩,
      ⟨some 20, .op (.fieldAddr 1 (.t 1)), none⟩,
      ⟨some 21, .op (.load1 (.t 20)), none⟩,
      ⟨some 22, .call (.c (.func (.func 19) #[] #[])) [.t 19, .t 21], none⟩,
      ⟨some 17, .op (.mov (.t 22)), none⟩,
      ⟨some 23, .op (.extract 0 (.t 17)), none⟩,
      ⟨some 24, .op (.extract 1 (.t 17)), none⟩,
      ⟨some 3, .op (.mov (.t 23)), none⟩,
      ⟨some 4, .op (.mov (.t 24)), none⟩] [1, 3, 4])
  (.seq (.seq (.region [⟨some 25, .op (.mov (.t 4)), none⟩,
        ⟨some 26, .op (.bin .neq .basic (.t 25) (.c (.int .i64 0))), none⟩,
        ⟨some 27, .op (.mov (.t 26)), none⟩,
        ⟨some 28, .op (.mov (.t 3)), some (27, false)⟩,
        ⟨some 29, .op (.bin .eql .ptr (.t 28) (.c (.pointer none))), some (27, false)⟩,
        ⟨some 30, .pick (.t 27) (.c (.bool true)) (.t 29), none⟩] [1, 3, 30])
    (.cond (.t 30)
      (.seq (.region [⟨some 2, .op (.mov (.c (.bool false))), none⟩] [2])
      (.ret))
      (.skip)))
  (.seq (.seq (.region [⟨some 31, .op (.fieldAddr 2 (.t 1)), none⟩,
        ⟨some 32, .op (.load1 (.t 31)), none⟩,
        ⟨some 33, .op (.lenS (.t 32)), none⟩,
        ⟨some 34, .op (.mov (.c (.int .i64 0))), none⟩] [1, 3, 32, 33, 34])
    (.block 0 (.loop (.seq (.region [⟨some 35, .op (.bin .lss .basic (.t 34) (.t 33)), none⟩] [1, 3, 32, 33, 34, 35])
        (.seq (.cond (.t 35)
            (.skip)
            (.exit 0))
        (.seq (.block 1 (.seq (.region [⟨some 36, .op (.idxAddrS 1 (.t 32) (.t 34)), none⟩,
                ⟨some 37, .op (.load1 (.t 36)), none⟩,
                ⟨some 6, .op (.mov (.t 37)), none⟩] [1, 3, 6, 32, 33, 34])
            (.seq (.region [⟨some 39, .op (.mov (.t 3)), none⟩,
                ⟨some 40, .op (.mov (.t 6)), none⟩,
                ⟨some 41, .call (.c (.func (.func 20) #[] #[])) [.t 39, .t 40], none⟩,
                ⟨some 38, .op (.mov (.t 41)), none⟩,
                ⟨some 42, .op (.extract 0 (.t 38)), none⟩,
                ⟨some 43, .op (.extract 1 (.t 38)), none⟩,
                ⟨some 7, .op (.mov (.t 42)), none⟩,
                ⟨some 8, .op (.mov (.t 43)), none⟩] [1, 3, 7, 32, 33, 34])
            (.seq (.region [⟨some 9, .op (.mov (.c (.int .i64 0))), none⟩] [1, 3, 7, 9, 32, 33, 34])
            (.seq (.seq (.region [⟨some 44, .op (.mov (.t 7)), none⟩,
                  ⟨some 45, .call (.c (.func (.func 28) #[] #[])) [.t 44], none⟩,
                  ⟨some 46, .op (.lenS (.t 45)), none⟩,
                  ⟨some 47, .op (.mov (.c (.int .i64 0))), none⟩] [1, 3, 7, 9, 32, 33, 34, 45, 46, 47])
              (.block 2 (.loop (.seq (.region [⟨some 48, .op (.bin .lss .basic (.t 47) (.t 46)), none⟩] [1, 3, 7, 9, 32, 33, 34, 45, 46, 47, 48])
                  (.seq (.cond (.t 48)
                      (.skip)
                      (.exit 2))
                  (.seq (.block 3 (.seq (.region [⟨some 49, .op (.idxAddrS 2 (.t 45) (.t 47)), none⟩,
                          ⟨some 50, .op (.loadN 2 (.t 49)), none⟩,
                          ⟨some 11, .op (.alloc [.string ⟨#[]⟩, .string ⟨#[]⟩]), none⟩,
                          ⟨none, .op (.store 2 (.t 11) (.t 50)), none⟩] [1, 3, 7, 9, 11, 32, 33, 34, 45, 46, 47])
                      (.region [⟨some 51, .op (.mov (.t 9)), none⟩,
                        ⟨some 52, .op (.loadN 2 (.t 11)), none⟩,
                        ⟨some 53, .call (.c (.func (.func 29) #[] #[])) [.t 52], none⟩,
                        ⟨some 54, .op (.bin .add .basic (.t 51) (.t 53)), none⟩,
                        ⟨some 9, .op (.mov (.t 54)), none⟩] [1, 3, 7, 9, 32, 33, 34, 45, 46, 47])))
                  (.region [⟨some 55, .op (.bin .add .basic (.t 47) (.c (.int .i64 1))), none⟩,
                    ⟨some 47, .op (.mov (.t 55)), none⟩] [1, 3, 7, 9, 32, 33, 34, 45, 46, 47])))))))
            (.seq (.region [⟨some 56, .op (.mov (.t 3)), none⟩,
                ⟨some 57, .call (.c (.func (.func 22) #[] #[])) [.t 56], none⟩,
                ⟨some 12, .op (.mov (.t 57)), none⟩] [1, 3, 7, 9, 12, 32, 33, 34])
            (.seq (.dregion [(⟨some 58, .op (.mov (.t 12)), none⟩, 0, 0),
                (⟨some 59, .op (.bin .eql .ptr (.t 58) (.c (.pointer none))), none⟩, 0, 0),
                (⟨some 60, .op (.mov (.t 59)), none⟩, 0, 0),
                (⟨some 61, .op (.mov (.t 12)), some (60, false)⟩, 0, 0),
                (⟨some 62, .call (.c (.func (.func 31) #[] #[])) [.t 61], some (60, false)⟩, 0, 1),
                (⟨some 63, .op (.fieldAddr 0 (.t 1)), some (60, false)⟩, 0, 1),
                (⟨some 64, .op (.load1 (.t 63)), some (60, false)⟩, 0, 1),
                (⟨some 65, .op (.bin .gtr .basic (.t 62) (.t 64)), some (60, false)⟩, 1, 1),
                (⟨some 66, .pick (.t 60) (.c (.bool true)) (.t 65), none⟩, 1, 1),
                (⟨some 67, .op (.mov (.t 66)), none⟩, 1, 1),
                (⟨some 68, .op (.mov (.t 12)), some (67, false)⟩, 1, 1),
                (⟨some 69, .call (.c (.func (.func 30) #[] #[])) [.t 68], some (67, false)⟩, 1, 2),
                (⟨some 70, .op (.mov (.t 12)), some (67, false)⟩, 1, 2),
                (⟨some 71, .call (.c (.func (.func 31) #[] #[])) [.t 70], some (67, false)⟩, 2, 3),
                (⟨some 72, .op (.bin .gtr .basic (.t 69) (.t 71)), some (67, false)⟩, 3, 3),
                (⟨some 73, .pick (.t 67) (.c (.bool true)) (.t 72), none⟩, 3, 3),
                (⟨some 74, .op (.mov (.t 73)), none⟩, 3, 3),
                (⟨some 75, .op (.mov (.t 9)), some (74, false)⟩, 3, 3),
                (⟨some 76, .op (.fieldAddr 1 (.t 1)), some (74, false)⟩, 3, 3),
                (⟨some 77, .op (.load1 (.t 76)), some (74, false)⟩, 3, 3),
                (⟨some 78, .op (.bin .gtr .basic (.t 75) (.t 77)), some (74, false)⟩, 3, 3),
                (⟨some 79, .pick (.t 74) (.c (.bool true)) (.t 78), none⟩, 3, 3),
                (⟨some 80, .op (.mov (.t 79)), none⟩, 3, 3),
                (⟨some 81, .op (.mov (.t 7)), some (80, false)⟩, 3, 3),
                (⟨some 82, .call (.c (.func (.func 28) #[] #[])) [.t 81], some (80, false)⟩, 3, 4),
                (⟨some 83, .op (.lenS (.t 82)), some (80, false)⟩, 4, 4),
                (⟨some 84, .op (.mov (.t 7)), some (80, false)⟩, 3, 4),
                (⟨some 85, .op (.lenS (.t 84)), some (80, false)⟩, 3, 4),
                (⟨some 86, .op (.bin .neq .basic (.t 83) (.t 85)), some (80, false)⟩, 4, 4),
                (⟨some 87, .pick (.t 80) (.c (.bool true)) (.t 86), none⟩, 4, 4)] [1, 3, 32, 33, 34, 87])
            (.cond (.t 87)
              (.seq (.region [⟨some 2, .op (.mov (.c (.bool false))), none⟩] [2])
              (.ret))
              (.skip)))))))))
        (.region [⟨some 88, .op (.bin .add .basic (.t 34) (.c (.int .i64 1))), none⟩,
          ⟨some 34, .op (.mov (.t 88)), none⟩] [1, 3, 32, 33, 34])))))))
  (.seq (.region [⟨some 89, .call (.c (.func (.func 18) #[] #[])) [], none⟩,
      ⟨some 2, .op (.mov (.t 89)), none⟩] [2])
  (.ret))))))⟩

theorem lf8_ok : cFunc Try.prog Try.f8 [[1], [1, 15], [2], [1, 3, 4], [1, 3, 30], [2], [1, 3, 32, 33, 34], [1, 3, 32, 33, 34, 35], [1, 3, 6, 32, 33, 34], [1, 3, 7, 32, 33, 34], [1, 3, 7, 9, 32, 33, 34], [1, 3, 7, 9, 32, 33, 34, 45, 46, 47], [1, 3, 7, 9, 32, 33, 34, 45, 46, 47, 48], [1, 3, 7, 9, 11, 32, 33, 34, 45, 46, 47], [1, 3, 7, 9, 32, 33, 34, 45, 46, 47], [1, 3, 7, 9, 32, 33, 34, 45, 46, 47], [1, 3, 7, 9, 12, 32, 33, 34], [1, 3, 32, 33, 34, 87], [2], [1, 3, 32, 33, 34], [2]] = some lf8 := by kernel_rfl

/-- squint/squintlaw08.EncodePlain -/
def lf9 : LFunc := ⟨47, [.tmp 2],
  .seq (.region [⟨some 2, .op (.mov (.c (.bool false))), none⟩] [0])
  (.seq (.seq (.region [⟨some 6, .op (.mov (.t 0)), none⟩,
        ⟨some 7, .op (.lenS (.t 6)), none⟩,
        ⟨some 8, .op (.bin .gtr .basic (.t 7) (.c (.int .i64 300))), none⟩] [0, 8])
    (.cond (.t 8)
      (.seq (.region [⟨some 9, .call (.c (.func (.func 32) #[] #[])) [], none⟩,
          ⟨some 2, .op (.mov (.t 9)), none⟩] [2])
      (.ret))
      (.skip)))
  (.seq (.region [⟨some 11, .op (.build [.slice none 0 0, .int .i64 0, .int .i64 0, .int .i64 0, .bool false] [(3, 1, .c (.int .i64 1099511627776))]), none⟩,
      ⟨some 12, .op (.mov (.t 0)), none⟩,
      ⟨some 13, .op (.bytesStr (.t 12)), none⟩,
      ⟨some 14, .call (.c (.func (.func 24) #[] #[])) [.t 11, .t 13], none⟩,
      ⟨some 10, .op (.mov (.t 14)), none⟩,
      ⟨some 15, .op (.extract 0 (.t 10)), none⟩,
      ⟨some 16, .op (.extract 1 (.t 10)), none⟩,
      ⟨some 17, .op (.extract 2 (.t 10)), none⟩,
      ⟨some 3, .op (.alloc [.slice none 0 0, .int .i64 0, .int .i64 0, .int .i64 0, .bool false]), none⟩,
      ⟨none, .op (.store 5 (.t 3) (.t 15)), none⟩,
      ⟨some 4, .op (.mov (.t 16)), none⟩,
      ⟨some 5, .op (.mov (.t 17)), none⟩] [0, 4, 5])
  (.seq (.seq (.region [⟨some 18, .op (.mov (.t 0)), none⟩,
        ⟨some 19, .call (.c (.func (.func 33) #[] #[])) [.t 18], none⟩,
        ⟨some 20, .op (.mov (.t 19)), none⟩,
        ⟨some 21, .op (.mov (.t 5)), some (20, true)⟩,
        ⟨some 22, .op (.bin .neq .basic (.t 21) (.c (.int .i64 0))), some (20, true)⟩,
        ⟨some 23, .pick (.t 20) (.t 22) (.c (.bool false)), none⟩] [0, 4, 5, 23])
    (.cond (.t 23)
      (.seq (.region [⟨some 2, .op (.mov (.c (.bool false))), none⟩] [2])
      (.ret))
      (.skip)))
  (.seq (.seq (.region [⟨some 24, .op (.mov (.t 5)), none⟩,
        ⟨some 25, .op (.bin .neq .basic (.t 24) (.c (.int .i64 0))), none⟩,
        ⟨some 26, .op (.mov (.t 25)), none⟩,
        ⟨some 27, .op (.mov (.t 0)), some (26, false)⟩,
        ⟨some 28, .op (.bytesStr (.t 27)), some (26, false)⟩,
        ⟨some 29, .op (.mov (.t 4)), some (26, false)⟩,
        ⟨some 30, .call (.c (.func (.func 34) #[] #[])) [.t 28, .t 29], some (26, false)⟩,
        ⟨some 31, .pick (.t 26) (.c (.bool true)) (.t 30), none⟩] [0, 5, 31])
    (.cond (.t 31)
      (.seq (.region [⟨some 32, .op (.mov (.t 5)), none⟩,
          ⟨some 33, .op (.bin .neq .basic (.t 32) (.c (.int .i64 0))), none⟩,
          ⟨some 34, .op (.mov (.t 33)), none⟩,
          ⟨some 35, .op (.mov (.t 0)), some (34, false)⟩,
          ⟨some 36, .call (.c (.func (.func 33) #[] #[])) [.t 35], some (34, false)⟩,
          ⟨some 37, .pick (.t 34) (.c (.bool true)) (.t 36), none⟩,
          ⟨some 38, .op (.mov (.t 37)), none⟩,
          ⟨some 39, .call (.c (.func (.func 32) #[] #[])) [], some (38, true)⟩,
          ⟨some 40, .pick (.t 38) (.t 39) (.c (.bool false)), none⟩,
          ⟨some 2, .op (.mov (.t 40)), none⟩] [2])
      (.ret))
      (.skip)))
  (.seq (.region [⟨some 41, .op (.mov (.t 0)), none⟩,
      ⟨some 42, .call (.c (.func (.func 33) #[] #[])) [.t 41], none⟩,
      ⟨some 43, .op (.un .not (.t 42)), none⟩,
      ⟨some 44, .op (.mov (.t 43)), none⟩,
      ⟨some 45, .call (.c (.func (.func 32) #[] #[])) [], some (44, true)⟩,
      ⟨some 46, .pick (.t 44) (.t 45) (.c (.bool false)), none⟩,
      ⟨some 2, .op (.mov (.t 46)), none⟩] [2])
  (.ret))))))⟩

theorem lf9_ok : cFunc Try.prog Try.f9 [[0], [0, 8], [2], [0, 4, 5], [0, 4, 5, 23], [2], [0, 5, 31], [2], [2]] = some lf9 := by kernel_rfl

/-- squint/squintlaw08.EncodeForms -/
def lf10 : LFunc := ⟨71, [.tmp 2],
  .seq (.region [⟨some 2, .op (.mov (.c (.bool false))), none⟩] [0])
  (.seq (.seq (.region [⟨some 11, .op (.mov (.t 0)), none⟩,
        ⟨some 12, .call (.c (.func (.func 35) #[] #[])) [.t 11], none⟩,
        ⟨some 13, .op (.un .not (.t 12)), none⟩] [0, 13])
    (.cond (.t 13)
      (.seq (.region [⟨some 14, .call (.c (.func (.func 32) #[] #[])) [], none⟩,
          ⟨some 2, .op (.mov (.t 14)), none⟩] [2])
      (.ret))
      (.skip)))
  (.seq (.region [⟨some 3, .op (.mov (.c (.string ⟨#[]⟩))), none⟩] [0, 3])
  (.seq (.seq (.region [⟨some 15, .op (.mov (.t 0)), none⟩,
        ⟨some 16, .op (.lenS (.t 15)), none⟩,
        ⟨some 17, .op (.mov (.c (.int .i64 0))), none⟩] [0, 3, 15, 16, 17])
    (.block 0 (.loop (.seq (.region [⟨some 18, .op (.bin .lss .basic (.t 17) (.t 16)), none⟩] [0, 3, 15, 16, 17, 18])
        (.seq (.cond (.t 18)
            (.skip)
            (.exit 0))
        (.seq (.block 1 (.seq (.region [⟨some 19, .op (.idxAddrS 3 (.t 15) (.t 17)), none⟩,
                ⟨some 20, .op (.loadN 3 (.t 19)), none⟩,
                ⟨some 5, .op (.alloc [.string ⟨#[]⟩, .string ⟨#[]⟩, .bool false]), none⟩,
                ⟨none, .op (.store 3 (.t 5) (.t 20)), none⟩] [0, 3, 5, 15, 16, 17])
            (.seq (.region [⟨some 22, .op (.loadN 3 (.t 5)), none⟩,
                ⟨some 23, .call (.c (.func (.func 36) #[] #[])) [.t 22], none⟩,
                ⟨some 21, .op (.mov (.t 23)), none⟩,
                ⟨some 24, .op (.extract 0 (.t 21)), none⟩,
                ⟨some 25, .op (.extract 1 (.t 21)), none⟩,
                ⟨some 6, .op (.mov (.t 24)), none⟩,
                ⟨some 7, .op (.mov (.t 25)), none⟩] [0, 3, 5, 6, 7, 15, 16, 17])
            (.seq (.dregion [(⟨some 26, .op (.fieldAddr 0 (.t 5)), none⟩, 0, 1),
                (⟨some 27, .op (.fieldAddr 0 (.t 26)), none⟩, 0, 1),
                (⟨some 28, .op (.load1 (.t 27)), none⟩, 0, 1),
                (⟨some 29, .op (.fieldAddr 0 (.t 5)), none⟩, 0, 1),
                (⟨some 30, .op (.fieldAddr 1 (.t 29)), none⟩, 0, 1),
                (⟨some 31, .op (.load1 (.t 30)), none⟩, 0, 1),
                (⟨some 32, .op (.fieldAddr 2 (.t 5)), none⟩, 0, 0),
                (⟨some 33, .op (.load1 (.t 32)), none⟩, 0, 0),
                (⟨some 34, .call (.c (.func (.func 38) #[] #[])) [.t 33], none⟩, 0, 1),
                (⟨some 35, .call (.c (.func (.func 37) #[] #[])) [.t 28, .t 31, .t 34], none⟩, 1, 2),
                (⟨some 8, .op (.mov (.t 35)), none⟩, 2, 2)] [0, 3, 6, 7, 8, 15, 16, 17])
            (.seq (.seq (.region [⟨some 36, .op (.mov (.t 7)), none⟩,
                  ⟨some 37, .op (.bin .neq .basic (.t 36) (.c (.int .i64 0))), none⟩,
                  ⟨some 38, .op (.mov (.t 37)), none⟩,
                  ⟨some 39, .op (.mov (.t 6)), some (38, false)⟩,
                  ⟨some 40, .op (.bytesStr (.t 39)), some (38, false)⟩,
                  ⟨some 41, .op (.mov (.t 8)), some (38, false)⟩,
                  ⟨some 42, .op (.bin .neq .basic (.t 40) (.t 41)), some (38, false)⟩,
                  ⟨some 43, .pick (.t 38) (.c (.bool true)) (.t 42), none⟩] [0, 3, 8, 15, 16, 17, 43])
              (.cond (.t 43)
                (.seq (.region [⟨some 2, .op (.mov (.c (.bool false))), none⟩] [2])
                (.ret))
                (.skip)))
            (.region [⟨some 44, .op (.mov (.t 3)), none⟩,
              ⟨some 45, .op (.mov (.t 8)), none⟩,
              ⟨some 46, .op (.bin .add .basic (.t 44) (.t 45)), none⟩,
              ⟨some 3, .op (.mov (.t 46)), none⟩] [0, 3, 15, 16, 17]))))))
        (.region [⟨some 47, .op (.bin .add .basic (.t 17) (.c (.int .i64 1))), none⟩,
          ⟨some 17, .op (.mov (.t 47)), none⟩] [0, 3, 15, 16, 17])))))))
  (.seq (.region [⟨some 49, .op (.mov (.t 0)), none⟩,
      ⟨some 50, .call (.c (.func (.func 39) #[] #[])) [.t 49], none⟩,
      ⟨some 48, .op (.mov (.t 50)), none⟩,
      ⟨some 51, .op (.extract 0 (.t 48)), none⟩,
      ⟨some 52, .op (.extract 1 (.t 48)), none⟩,
      ⟨some 9, .op (.mov (.t 51)), none⟩,
      ⟨some 10, .op (.mov (.t 52)), none⟩] [0, 3, 9, 10])
  (.seq (.region [⟨some 53, .op (.mov (.t 10)), none⟩,
      ⟨some 54, .op (.bin .eql .basic (.t 53) (.c (.int .i64 0))), none⟩,
      ⟨some 55, .op (.mov (.t 54)), none⟩,
      ⟨some 56, .op (.mov (.t 9)), some (55, true)⟩,
      ⟨some 57, .op (.bytesStr (.t 56)), some (55, true)⟩,
      ⟨some 58, .op (.mov (.t 3)), some (55, true)⟩,
      ⟨some 59, .op (.bin .eql .basic (.t 57) (.t 58)), some (55, true)⟩,
      ⟨some 60, .pick (.t 55) (.t 59) (.c (.bool false)), none⟩,
      ⟨some 61, .op (.mov (.t 60)), none⟩,
      ⟨some 62, .op (.mov (.t 0)), some (61, true)⟩,
      ⟨some 63, .call (.c (.func (.func 40) #[] #[])) [.t 62], some (61, true)⟩,
      ⟨some 64, .op (.mov (.t 9)), some (61, true)⟩,
      ⟨some 65, .op (.lenS (.t 64)), some (61, true)⟩,
      ⟨some 66, .op (.bin .eql .basic (.t 63) (.t 65)), some (61, true)⟩,
      ⟨some 67, .pick (.t 61) (.t 66) (.c (.bool false)), none⟩,
      ⟨some 68, .op (.mov (.t 67)), none⟩,
      ⟨some 69, .call (.c (.func (.func 32) #[] #[])) [], some (68, true)⟩,
      ⟨some 70, .pick (.t 68) (.t 69) (.c (.bool false)), none⟩,
      ⟨some 2, .op (.mov (.t 70)), none⟩] [2])
  (.ret))))))⟩

theorem lf10_ok : cFunc Try.prog Try.f10 [[0], [0, 13], [2], [0, 3], [0, 3, 15, 16, 17], [0, 3, 15, 16, 17, 18], [0, 3, 5, 15, 16, 17], [0, 3, 5, 6, 7, 15, 16, 17], [0, 3, 6, 7, 8, 15, 16, 17], [0, 3, 8, 15, 16, 17, 43], [2], [0, 3, 15, 16, 17], [0, 3, 15, 16, 17], [0, 3, 9, 10], [2]] = some lf10 := by kernel_rfl

/-- squint/squintlaw08.EncodeRefuses -/
def lf11 : LFunc := ⟨103, [.tmp 6],
  .seq (.region [⟨some 6, .op (.mov (.c (.bool false))), none⟩] [0, 1, 2])
  (.seq (.seq (.region [⟨some 12, .op (.mov (.t 0)), none⟩,
        ⟨some 13, .op (.bin .lss .basic (.t 12) (.c (.int .i64 0))), none⟩,
        ⟨some 14, .op (.mov (.t 13)), none⟩,
        ⟨some 15, .op (.mov (.t 0)), some (14, false)⟩,
        ⟨some 16, .op (.bin .gtr .basic (.t 15) (.c (.int .i64 5000))), some (14, false)⟩,
        ⟨some 17, .pick (.t 14) (.c (.bool true)) (.t 16), none⟩,
        ⟨some 18, .op (.mov (.t 17)), none⟩,
        ⟨some 19, .op (.mov (.t 1)), some (18, false)⟩,
        ⟨some 20, .op (.bin .lss .basic (.t 19) (.c (.int .i64 0))), some (18, false)⟩,
        ⟨some 21, .pick (.t 18) (.c (.bool true)) (.t 20), none⟩,
        ⟨some 22, .op (.mov (.t 21)), none⟩,
        ⟨some 23, .op (.mov (.t 1)), some (22, false)⟩,
        ⟨some 24, .op (.bin .gtr .basic (.t 23) (.c (.int .i64 5000))), some (22, false)⟩,
        ⟨some 25, .pick (.t 22) (.c (.bool true)) (.t 24), none⟩] [0, 1, 2, 25])
    (.cond (.t 25)
      (.seq (.region [⟨some 26, .call (.c (.func (.func 32) #[] #[])) [], none⟩,
          ⟨some 6, .op (.mov (.t 26)), none⟩] [6])
      (.ret))
      (.skip)))
  (.seq (.bad)
  (.seq (.region [⟨some 37, .op (.loadN 3 (.t 7)), none⟩,
      ⟨some 38, .call (.c (.func (.func 36) #[] #[])) [.t 37], none⟩,
      ⟨some 36, .op (.mov (.t 38)), none⟩,
      ⟨some 39, .op (.extract 0 (.t 36)), none⟩,
      ⟨some 40, .op (.extract 1 (.t 36)), none⟩,
      ⟨some 8, .op (.mov (.t 39)), none⟩,
      ⟨some 9, .op (.mov (.t 40)), none⟩] [0, 1, 7, 8, 9])
  (.seq (.region [⟨some 42, .op (.build [.string ⟨#[]⟩, .string ⟨#[]⟩, .bool false] []), none⟩,
      ⟨some 43, .op (.loadN 3 (.t 7)), none⟩,
      ⟨some 44, .op (.buildSlice 2 3 [.string ⟨#[]⟩, .string ⟨#[]⟩, .bool false, .string ⟨#[]⟩, .string ⟨#[]⟩, .bool false] [(0, 3, .t 42), (3, 3, .t 43)]), none⟩,
      ⟨some 45, .call (.c (.func (.func 39) #[] #[])) [.t 44], none⟩,
      ⟨some 41, .op (.mov (.t 45)), none⟩,
      ⟨some 46, .op (.extract 0 (.t 41)), none⟩,
      ⟨some 47, .op (.extract 1 (.t 41)), none⟩,
      ⟨some 10, .op (.mov (.t 46)), none⟩,
      ⟨some 11, .op (.mov (.t 47)), none⟩] [0, 1, 7, 8, 9, 10, 11])
  (.seq (.seq (.region [⟨some 48, .op (.mov (.t 0)), none⟩,
        ⟨some 49, .op (.bin .gtr .basic (.t 48) (.c (.int .i64 4096))), none⟩,
        ⟨some 50, .op (.mov (.t 49)), none⟩,
        ⟨some 51, .op (.mov (.t 1)), some (50, false)⟩,
        ⟨some 52, .op (.bin .gtr .basic (.t 51) (.c (.int .i64 4096))), some (50, false)⟩,
        ⟨some 53, .pick (.t 50) (.c (.bool true)) (.t 52), none⟩] [7, 8, 9, 10, 11, 53])
    (.cond (.t 53)
      (.seq (.region [⟨some 54, .op (.mov (.t 9)), none⟩,
          ⟨some 55, .op (.bin .eql .basic (.t 54) (.c (.int .i64 11))), none⟩,
          ⟨some 56, .op (.mov (.t 55)), none⟩,
          ⟨some 57, .op (.mov (.t 8)), some (56, true)⟩,
          ⟨some 58, .op (.lenS (.t 57)), some (56, true)⟩,
          ⟨some 59, .op (.bin .eql .basic (.t 58) (.c (.int .i64 0))), some (56, true)⟩,
          ⟨some 60, .pick (.t 56) (.t 59) (.c (.bool false)), none⟩,
          ⟨some 61, .op (.mov (.t 60)), none⟩,
          ⟨some 62, .op (.mov (.t 11)), some (61, true)⟩,
          ⟨some 63, .op (.bin .eql .basic (.t 62) (.c (.int .i64 11))), some (61, true)⟩,
          ⟨some 64, .pick (.t 61) (.t 63) (.c (.bool false)), none⟩,
          ⟨some 65, .op (.mov (.t 64)), none⟩,
          ⟨some 66, .op (.mov (.t 10)), some (65, true)⟩,
          ⟨some 67, .op (.lenS (.t 66)), some (65, true)⟩,
          ⟨some 68, .op (.bin .eql .basic (.t 67) (.c (.int .i64 0))), some (65, true)⟩,
          ⟨some 69, .pick (.t 65) (.t 68) (.c (.bool false)), none⟩,
          ⟨some 70, .op (.mov (.t 69)), none⟩,
          ⟨some 71, .op (.loadN 3 (.t 7)), some (70, true)⟩,
          ⟨some 72, .op (.buildSlice 1 3 [.string ⟨#[]⟩, .string ⟨#[]⟩, .bool false] [(0, 3, .t 71)]), some (70, true)⟩,
          ⟨some 73, .call (.c (.func (.func 40) #[] #[])) [.t 72], some (70, true)⟩,
          ⟨some 74, .op (.bin .eql .basic (.t 73) (.c (.int .i64 0))), some (70, true)⟩,
          ⟨some 75, .pick (.t 70) (.t 74) (.c (.bool false)), none⟩,
          ⟨some 76, .op (.mov (.t 75)), none⟩,
          ⟨some 77, .call (.c (.func (.func 32) #[] #[])) [], some (76, true)⟩,
          ⟨some 78, .pick (.t 76) (.t 77) (.c (.bool false)), none⟩,
          ⟨some 6, .op (.mov (.t 78)), none⟩] [6])
      (.ret))
      (.skip)))
  (.seq (.region [⟨some 79, .op (.mov (.t 9)), none⟩,
      ⟨some 80, .op (.bin .eql .basic (.t 79) (.c (.int .i64 0))), none⟩,
      ⟨some 81, .op (.mov (.t 80)), none⟩,
      ⟨some 82, .op (.mov (.t 11)), some (81, true)⟩,
      ⟨some 83, .op (.bin .eql .basic (.t 82) (.c (.int .i64 0))), some (81, true)⟩,
      ⟨some 84, .pick (.t 81) (.t 83) (.c (.bool false)), none⟩,
      ⟨some 85, .op (.mov (.t 84)), none⟩,
      ⟨some 86, .op (.mov (.t 10)), some (85, true)⟩,
      ⟨some 87, .op (.lenS (.t 86)), some (85, true)⟩,
      ⟨some 88, .op (.mov (.t 8)), some (85, true)⟩,
      ⟨some 89, .op (.lenS (.t 88)), some (85, true)⟩,
      ⟨some 90, .op (.bin .gtr .basic (.t 87) (.t 89)), some (85, true)⟩,
      ⟨some 91, .pick (.t 85) (.t 90) (.c (.bool false)), none⟩,
      ⟨some 92, .op (.mov (.t 91)), none⟩,
      ⟨some 93, .op (.loadN 3 (.t 7)), some (92, true)⟩,
      ⟨some 94, .op (.buildSlice 1 3 [.string ⟨#[]⟩, .string ⟨#[]⟩, .bool false] [(0, 3, .t 93)]), some (92, true)⟩,
      ⟨some 95, .call (.c (.func (.func 40) #[] #[])) [.t 94], some (92, true)⟩,
      ⟨some 96, .op (.mov (.t 8)), some (92, true)⟩,
      ⟨some 97, .op (.lenS (.t 96)), some (92, true)⟩,
      ⟨some 98, .op (.bin .eql .basic (.t 95) (.t 97)), some (92, true)⟩,
      ⟨some 99, .pick (.t 92) (.t 98) (.c (.bool false)), none⟩,
      ⟨some 100, .op (.mov (.t 99)), none⟩,
      ⟨some 101, .call (.c (.func (.func 32) #[] #[])) [], some (100, true)⟩,
      ⟨some 102, .pick (.t 100) (.t 101) (.c (.bool false)), none⟩,
      ⟨some 6, .op (.mov (.t 102)), none⟩] [6])
  (.ret)))))))⟩

theorem lf11_ok : cFunc Try.prog Try.f11 [[0, 1, 2], [0, 1, 2, 25], [6], [0, 1, 7], [0, 1, 7, 8, 9], [0, 1, 7, 8, 9, 10, 11], [7, 8, 9, 10, 11, 53], [6], [6]] = some lf11 := by kernel_rfl

/-- squint/squintlaw08.EncodeRows -/
def lf12 : LFunc := ⟨76, [.tmp 4],
  .seq (.region [⟨some 4, .op (.mov (.c (.bool false))), none⟩] [0, 1])
  (.seq (.seq (.region [⟨some 11, .op (.mov (.t 0)), none⟩,
        ⟨some 12, .call (.c (.func (.func 35) #[] #[])) [.t 11], none⟩,
        ⟨some 13, .op (.un .not (.t 12)), none⟩,
        ⟨some 14, .op (.mov (.t 13)), none⟩,
        ⟨some 15, .op (.mov (.t 1)), some (14, false)⟩,
        ⟨some 16, .call (.c (.func (.func 35) #[] #[])) [.t 15], some (14, false)⟩,
        ⟨some 17, .op (.un .not (.t 16)), some (14, false)⟩,
        ⟨some 18, .pick (.t 14) (.c (.bool true)) (.t 17), none⟩] [0, 1, 18])
    (.cond (.t 18)
      (.seq (.region [⟨some 19, .call (.c (.func (.func 32) #[] #[])) [], none⟩,
          ⟨some 4, .op (.mov (.t 19)), none⟩] [4])
      (.ret))
      (.skip)))
  (.seq (.region [⟨some 21, .op (.mov (.t 0)), none⟩,
      ⟨some 22, .call (.c (.func (.func 39) #[] #[])) [.t 21], none⟩,
      ⟨some 20, .op (.mov (.t 22)), none⟩,
      ⟨some 23, .op (.extract 0 (.t 20)), none⟩,
      ⟨some 24, .op (.extract 1 (.t 20)), none⟩,
      ⟨some 5, .op (.mov (.t 23)), none⟩,
      ⟨some 6, .op (.mov (.t 24)), none⟩] [0, 1, 5, 6])
  (.seq (.region [⟨some 26, .op (.mov (.t 1)), none⟩,
      ⟨some 27, .call (.c (.func (.func 39) #[] #[])) [.t 26], none⟩,
      ⟨some 25, .op (.mov (.t 27)), none⟩,
      ⟨some 28, .op (.extract 0 (.t 25)), none⟩,
      ⟨some 29, .op (.extract 1 (.t 25)), none⟩,
      ⟨some 7, .op (.mov (.t 28)), none⟩,
      ⟨some 8, .op (.mov (.t 29)), none⟩] [0, 1, 5, 6, 7, 8])
  (.seq (.region [⟨some 31, .op (.buildSlice 0 3 [] []), none⟩,
      ⟨some 32, .op (.mov (.t 0)), none⟩,
      ⟨some 33, .op (.append 3 40 (.t 31) (.t 32)), none⟩,
      ⟨some 34, .op (.mov (.t 1)), none⟩,
      ⟨some 35, .op (.append 3 40 (.t 33) (.t 34)), none⟩,
      ⟨some 36, .call (.c (.func (.func 39) #[] #[])) [.t 35], none⟩,
      ⟨some 30, .op (.mov (.t 36)), none⟩,
      ⟨some 37, .op (.extract 0 (.t 30)), none⟩,
      ⟨some 38, .op (.extract 1 (.t 30)), none⟩,
      ⟨some 9, .op (.mov (.t 37)), none⟩,
      ⟨some 10, .op (.mov (.t 38)), none⟩] [0, 1, 5, 6, 7, 8, 9, 10])
  (.seq (.region [⟨some 39, .op (.mov (.t 6)), none⟩,
      ⟨some 40, .op (.bin .eql .basic (.t 39) (.c (.int .i64 0))), none⟩,
      ⟨some 41, .op (.mov (.t 40)), none⟩,
      ⟨some 42, .op (.mov (.t 8)), some (41, true)⟩,
      ⟨some 43, .op (.bin .eql .basic (.t 42) (.c (.int .i64 0))), some (41, true)⟩,
      ⟨some 44, .pick (.t 41) (.t 43) (.c (.bool false)), none⟩,
      ⟨some 45, .op (.mov (.t 44)), none⟩,
      ⟨some 46, .op (.mov (.t 10)), some (45, true)⟩,
      ⟨some 47, .op (.bin .eql .basic (.t 46) (.c (.int .i64 0))), some (45, true)⟩,
      ⟨some 48, .pick (.t 45) (.t 47) (.c (.bool false)), none⟩,
      ⟨some 49, .op (.mov (.t 48)), none⟩,
      ⟨some 50, .op (.mov (.t 9)), some (49, true)⟩,
      ⟨some 51, .op (.bytesStr (.t 50)), some (49, true)⟩,
      ⟨some 52, .op (.mov (.t 5)), some (49, true)⟩,
      ⟨some 53, .op (.bytesStr (.t 52)), some (49, true)⟩,
      ⟨some 54, .op (.mov (.t 7)), some (49, true)⟩,
      ⟨some 55, .op (.bytesStr (.t 54)), some (49, true)⟩,
      ⟨some 56, .op (.bin .add .basic (.t 53) (.t 55)), some (49, true)⟩,
      ⟨some 57, .op (.bin .eql .basic (.t 51) (.t 56)), some (49, true)⟩,
      ⟨some 58, .pick (.t 49) (.t 57) (.c (.bool false)), none⟩,
      ⟨some 59, .op (.mov (.t 58)), none⟩,
      ⟨some 60, .op (.mov (.t 9)), some (59, true)⟩,
      ⟨some 61, .call (.c (.func (.func 33) #[] #[])) [.t 60], some (59, true)⟩,
      ⟨some 62, .pick (.t 59) (.t 61) (.c (.bool false)), none⟩,
      ⟨some 63, .op (.mov (.t 62)), none⟩,
      ⟨some 64, .op (.mov (.t 0)), some (63, true)⟩,
      ⟨some 65, .call (.c (.func (.func 40) #[] #[])) [.t 64], some (63, true)⟩,
      ⟨some 66, .op (.mov (.t 1)), some (63, true)⟩,
      ⟨some 67, .call (.c (.func (.func 40) #[] #[])) [.t 66], some (63, true)⟩,
      ⟨some 68, .op (.bin .add .basic (.t 65) (.t 67)), some (63, true)⟩,
      ⟨some 69, .op (.mov (.t 9)), some (63, true)⟩,
      ⟨some 70, .op (.lenS (.t 69)), some (63, true)⟩,
      ⟨some 71, .op (.bin .eql .basic (.t 68) (.t 70)), some (63, true)⟩,
      ⟨some 72, .pick (.t 63) (.t 71) (.c (.bool false)), none⟩,
      ⟨some 73, .op (.mov (.t 72)), none⟩,
      ⟨some 74, .call (.c (.func (.func 32) #[] #[])) [], some (73, true)⟩,
      ⟨some 75, .pick (.t 73) (.t 74) (.c (.bool false)), none⟩,
      ⟨some 4, .op (.mov (.t 75)), none⟩] [4])
  (.ret))))))⟩

theorem lf12_ok : cFunc Try.prog Try.f12 [[0, 1], [0, 1, 18], [4], [0, 1, 5, 6], [0, 1, 5, 6, 7, 8], [0, 1, 5, 6, 7, 8, 9, 10], [4]] = some lf12 := by kernel_rfl

/-- squint/squintlaw08.EncodeReads -/
def lf13 : LFunc := ⟨114, [.tmp 6],
  .seq (.region [⟨some 6, .op (.mov (.c (.bool false))), none⟩] [0, 1, 2])
  (.seq (.seq (.region [⟨some 16, .op (.mov (.t 0)), none⟩,
        ⟨some 17, .call (.c (.func (.func 35) #[] #[])) [.t 16], none⟩,
        ⟨some 18, .op (.un .not (.t 17)), none⟩,
        ⟨some 19, .op (.mov (.t 18)), none⟩,
        ⟨some 20, .op (.mov (.t 1)), some (19, false)⟩,
        ⟨some 21, .op (.bin .lss .basic (.t 20) (.c (.int .i64 0))), some (19, false)⟩,
        ⟨some 22, .pick (.t 19) (.c (.bool true)) (.t 21), none⟩,
        ⟨some 23, .op (.mov (.t 22)), none⟩,
        ⟨some 24, .op (.mov (.t 1)), some (23, false)⟩,
        ⟨some 25, .op (.bin .gtr .basic (.t 24) (.c (.int .i64 65536))), some (23, false)⟩,
        ⟨some 26, .pick (.t 23) (.c (.bool true)) (.t 25), none⟩,
        ⟨some 27, .op (.mov (.t 26)), none⟩,
        ⟨some 28, .op (.mov (.t 2)), some (27, false)⟩,
        ⟨some 29, .op (.lenS (.t 28)), some (27, false)⟩,
        ⟨some 30, .op (.bin .gtr .basic (.t 29) (.c (.int .i64 200))), some (27, false)⟩,
        ⟨some 31, .pick (.t 27) (.c (.bool true)) (.t 30), none⟩] [0, 1, 2, 31])
    (.cond (.t 31)
      (.seq (.region [⟨some 32, .call (.c (.func (.func 32) #[] #[])) [], none⟩,
          ⟨some 6, .op (.mov (.t 32)), none⟩] [6])
      (.ret))
      (.skip)))
  (.seq (.region [⟨some 34, .op (.mov (.t 1)), none⟩,
      ⟨some 35, .call (.c (.func (.func 19) #[] #[])) [.t 34, .c (.int .i64 16384)], none⟩,
      ⟨some 33, .op (.mov (.t 35)), none⟩,
      ⟨some 36, .op (.extract 0 (.t 33)), none⟩,
      ⟨some 37, .op (.extract 1 (.t 33)), none⟩,
      ⟨some 7, .op (.mov (.t 36)), none⟩,
      ⟨some 8, .op (.mov (.t 37)), none⟩] [0, 2, 7, 8])
  (.seq (.seq (.region [⟨some 38, .op (.mov (.t 8)), none⟩,
        ⟨some 39, .op (.bin .neq .basic (.t 38) (.c (.int .i64 0))), none⟩,
        ⟨some 40, .op (.mov (.t 39)), none⟩,
        ⟨some 41, .op (.mov (.t 7)), some (40, false)⟩,
        ⟨some 42, .op (.bin .eql .ptr (.t 41) (.c (.pointer none))), some (40, false)⟩,
        ⟨some 43, .pick (.t 40) (.c (.bool true)) (.t 42), none⟩] [0, 2, 7, 43])
    (.cond (.t 43)
      (.seq (.region [⟨some 6, .op (.mov (.c (.bool false))), none⟩] [6])
      (.ret))
      (.skip)))
  (.seq (.region [⟨some 44, .op (.mov (.t 7)), none⟩,
      ⟨some 45, .op (.mov (.t 2)), none⟩,
      ⟨some 46, .call (.c (.func (.func 20) #[] #[])) [.t 44, .t 45], none⟩] [0, 7])
  (.seq (.seq (.region [⟨some 47, .op (.mov (.t 7)), none⟩,
        ⟨some 48, .call (.c (.func (.func 21) #[] #[])) [.t 47], none⟩] [0, 7, 48])
    (.cond (.t 48)
      (.seq (.region [⟨some 49, .call (.c (.func (.func 32) #[] #[])) [], none⟩,
          ⟨some 6, .op (.mov (.t 49)), none⟩] [6])
      (.ret))
      (.skip)))
  (.seq (.region [⟨some 50, .op (.mov (.t 7)), none⟩,
      ⟨some 51, .call (.c (.func (.func 22) #[] #[])) [.t 50], none⟩,
      ⟨some 52, .call (.c (.func (.func 23) #[] #[])) [.t 51], none⟩,
      ⟨some 53, .op (.mov (.t 7)), none⟩,
      ⟨some 54, .call (.c (.func (.func 22) #[] #[])) [.t 53], none⟩,
      ⟨some 55, .call (.c (.func (.func 30) #[] #[])) [.t 54], none⟩,
      ⟨some 9, .op (.mov (.t 52)), none⟩,
      ⟨some 10, .op (.mov (.t 55)), none⟩] [0, 7, 9, 10])
  (.seq (.region [⟨some 57, .op (.mov (.t 0)), none⟩,
      ⟨some 58, .call (.c (.func (.func 39) #[] #[])) [.t 57], none⟩,
      ⟨some 56, .op (.mov (.t 58)), none⟩,
      ⟨some 59, .op (.extract 0 (.t 56)), none⟩,
      ⟨some 60, .op (.extract 1 (.t 56)), none⟩,
      ⟨some 11, .op (.mov (.t 59)), none⟩,
      ⟨some 12, .op (.mov (.t 60)), none⟩] [0, 7, 9, 10, 11, 12])
  (.seq (.region [⟨some 62, .op (.mov (.t 7)), none⟩,
      ⟨some 63, .op (.mov (.t 11)), none⟩,
      ⟨some 64, .call (.c (.func (.func 20) #[] #[])) [.t 62, .t 63], none⟩,
      ⟨some 61, .op (.mov (.t 64)), none⟩,
      ⟨some 65, .op (.extract 0 (.t 61)), none⟩,
      ⟨some 66, .op (.extract 1 (.t 61)), none⟩,
      ⟨some 13, .op (.mov (.t 65)), none⟩,
      ⟨some 14, .op (.mov (.t 66)), none⟩] [0, 7, 9, 10, 11, 12, 13, 14])
  (.seq (.seq (.region [⟨some 67, .op (.mov (.t 12)), none⟩,
        ⟨some 68, .op (.bin .neq .basic (.t 67) (.c (.int .i64 0))), none⟩,
        ⟨some 69, .op (.mov (.t 68)), none⟩,
        ⟨some 70, .op (.mov (.t 14)), some (69, false)⟩,
        ⟨some 71, .op (.bin .neq .basic (.t 70) (.c (.int .i64 0))), some (69, false)⟩,
        ⟨some 72, .pick (.t 69) (.c (.bool true)) (.t 71), none⟩,
        ⟨some 73, .op (.mov (.t 72)), none⟩,
        ⟨some 74, .op (.mov (.t 13)), some (73, false)⟩,
        ⟨some 75, .op (.lenS (.t 74)), some (73, false)⟩,
        ⟨some 76, .op (.mov (.t 0)), some (73, false)⟩,
        ⟨some 77, .op (.lenS (.t 76)), some (73, false)⟩,
        ⟨some 78, .op (.bin .neq .basic (.t 75) (.t 77)), some (73, false)⟩,
        ⟨some 79, .pick (.t 73) (.c (.bool true)) (.t 78), none⟩,
        ⟨some 80, .op (.mov (.t 79)), none⟩,
        ⟨some 81, .op (.mov (.t 7)), some (80, false)⟩,
        ⟨some 82, .call (.c (.func (.func 22) #[] #[])) [.t 81], some (80, false)⟩,
        ⟨some 83, .call (.c (.func (.func 23) #[] #[])) [.t 82], some (80, false)⟩,
        ⟨some 84, .op (.mov (.t 9)), some (80, false)⟩,
        ⟨some 85, .op (.bin .neq .basic (.t 83) (.t 84)), some (80, false)⟩,
        ⟨some 86, .pick (.t 80) (.c (.bool true)) (.t 85), none⟩,
        ⟨some 87, .op (.mov (.t 86)), none⟩,
        ⟨some 88, .op (.mov (.t 7)), some (87, false)⟩,
        ⟨some 89, .call (.c (.func (.func 22) #[] #[])) [.t 88], some (87, false)⟩,
        ⟨some 90, .call (.c (.func (.func 30) #[] #[])) [.t 89], some (87, false)⟩,
        ⟨some 91, .op (.mov (.t 10)), some (87, false)⟩,
        ⟨some 92, .op (.bin .neq .basic (.t 90) (.t 91)), some (87, false)⟩,
        ⟨some 93, .pick (.t 87) (.c (.bool true)) (.t 92), none⟩] [0, 11, 13, 93])
    (.cond (.t 93)
      (.seq (.region [⟨some 6, .op (.mov (.c (.bool false))), none⟩] [6])
      (.ret))
      (.skip)))
  (.seq (.seq (.region [⟨some 94, .op (.mov (.t 13)), none⟩,
        ⟨some 95, .op (.lenS (.t 94)), none⟩,
        ⟨some 96, .op (.mov (.c (.int .i64 0))), none⟩] [0, 11, 13, 95, 96])
    (.block 0 (.loop (.seq (.region [⟨some 97, .op (.bin .lss .basic (.t 96) (.t 95)), none⟩] [0, 11, 13, 95, 96, 97])
        (.seq (.cond (.t 97)
            (.skip)
            (.exit 0))
        (.seq (.block 1 (.seq (.region [⟨some 98, .op (.mov (.t 96)), none⟩,
                ⟨some 15, .op (.mov (.t 98)), none⟩] [0, 11, 13, 15, 95, 96])
            (.seq (.dregion [(⟨some 99, .op (.mov (.t 13)), none⟩, 0, 0),
                (⟨some 100, .op (.mov (.t 15)), none⟩, 0, 0),
                (⟨some 101, .op (.idxAddrS 3 (.t 99) (.t 100)), none⟩, 0, 0),
                (⟨some 102, .op (.loadN 3 (.t 101)), none⟩, 0, 0),
                (⟨some 103, .op (.mov (.t 0)), none⟩, 0, 0),
                (⟨some 104, .op (.mov (.t 15)), none⟩, 0, 0),
                (⟨some 105, .op (.idxAddrS 3 (.t 103) (.t 104)), none⟩, 0, 0),
                (⟨some 106, .op (.loadN 3 (.t 105)), none⟩, 0, 0),
                (⟨some 107, .op (.bin .neq (.typed 47) (.t 102) (.t 106)), none⟩, 0, 0)] [0, 11, 13, 95, 96, 107])
            (.cond (.t 107)
              (.seq (.region [⟨some 6, .op (.mov (.c (.bool false))), none⟩] [6])
              (.ret))
              (.skip)))))
        (.region [⟨some 108, .op (.bin .add .basic (.t 96) (.c (.int .i64 1))), none⟩,
          ⟨some 96, .op (.mov (.t 108)), none⟩] [0, 11, 13, 95, 96])))))))
  (.seq (.region [⟨some 109, .op (.mov (.t 11)), none⟩,
      ⟨some 110, .call (.c (.func (.func 33) #[] #[])) [.t 109], none⟩,
      ⟨some 111, .op (.mov (.t 110)), none⟩,
      ⟨some 112, .call (.c (.func (.func 32) #[] #[])) [], some (111, true)⟩,
      ⟨some 113, .pick (.t 111) (.t 112) (.c (.bool false)), none⟩,
      ⟨some 6, .op (.mov (.t 113)), none⟩] [6])
  (.ret))))))))))))⟩

theorem lf13_ok : cFunc Try.prog Try.f13 [[0, 1, 2], [0, 1, 2, 31], [6], [0, 2, 7, 8], [0, 2, 7, 43], [6], [0, 7], [0, 7, 48], [6], [0, 7, 9, 10], [0, 7, 9, 10, 11, 12], [0, 7, 9, 10, 11, 12, 13, 14], [0, 11, 13, 93], [6], [0, 11, 13, 95, 96], [0, 11, 13, 95, 96, 97], [0, 11, 13, 15, 95, 96], [0, 11, 13, 95, 96, 107], [6], [0, 11, 13, 95, 96], [6]] = some lf13 := by kernel_rfl

/-- squint/squintlaw05.awake -/
def lf14 : LFunc := ⟨48, [.tmp 0],
  .seq (.region [⟨some 0, .op (.mov (.c (.bool false))), none⟩] [])
  (.seq (.region [⟨some 8, .call (.c (.func (.func 41) #[] #[])) [.c (.int .i64 2)], none⟩,
      ⟨some 7, .op (.mov (.t 8)), none⟩,
      ⟨some 9, .op (.extract 0 (.t 7)), none⟩,
      ⟨some 10, .op (.extract 1 (.t 7)), none⟩,
      ⟨some 1, .op (.alloc [.string ⟨#[]⟩, .string ⟨#[]⟩]), none⟩,
      ⟨none, .op (.store 2 (.t 1) (.t 9)), none⟩,
      ⟨some 2, .op (.mov (.t 10)), none⟩] [1, 2])
  (.seq (.region [⟨some 12, .op (.build [.string ⟨#[]⟩, .string ⟨#[]⟩] [(0, 1, .c (.string ⟨#[58, 115, 116, 97, 116, 117, 115]⟩)), (1, 1, .c (.string ⟨#[52, 49, 56]⟩))]), none⟩,
      ⟨some 13, .call (.c (.func (.func 42) #[] #[])) [.t 12], none⟩,
      ⟨some 11, .op (.mov (.t 13)), none⟩,
      ⟨some 14, .op (.extract 0 (.t 11)), none⟩,
      ⟨some 15, .op (.extract 1 (.t 11)), none⟩,
      ⟨some 3, .op (.mov (.t 14)), none⟩,
      ⟨some 4, .op (.mov (.t 15)), none⟩] [1, 2, 3, 4])
  (.seq (.region [⟨some 17, .call (.c (.func (.func 41) #[] #[])) [.c (.int .i64 62)], none⟩,
      ⟨some 16, .op (.mov (.t 17)), none⟩,
      ⟨some 18, .op (.extract 0 (.t 16)), none⟩,
      ⟨some 19, .op (.extract 1 (.t 16)), none⟩,
      ⟨some 5, .op (.alloc [.string ⟨#[]⟩, .string ⟨#[]⟩]), none⟩,
      ⟨none, .op (.store 2 (.t 5) (.t 18)), none⟩,
      ⟨some 6, .op (.mov (.t 19)), none⟩] [1, 2, 3, 4, 6])
  (.seq (.region [⟨some 20, .op (.loadN 2 (.t 1)), none⟩,
      ⟨some 21, .op (.build [.string ⟨#[]⟩, .string ⟨#[]⟩] [(0, 1, .c (.string ⟨#[58, 109, 101, 116, 104, 111, 100]⟩)), (1, 1, .c (.string ⟨#[71, 69, 84]⟩))]), none⟩,
      ⟨some 22, .op (.bin .eql (.typed 27) (.t 20) (.t 21)), none⟩,
      ⟨some 23, .op (.mov (.t 22)), none⟩,
      ⟨some 24, .op (.mov (.t 2)), some (23, true)⟩,
      ⟨some 25, .op (.bin .eql .basic (.t 24) (.c (.int .i64 0))), some (23, true)⟩,
      ⟨some 26, .pick (.t 23) (.t 25) (.c (.bool false)), none⟩,
      ⟨some 27, .op (.mov (.t 26)), none⟩,
      ⟨some 28, .op (.mov (.t 3)), some (27, true)⟩,
      ⟨some 29, .op (.bin .eql .basic (.t 28) (.c (.int .i64 8))), some (27, true)⟩,
      ⟨some 30, .pick (.t 27) (.t 29) (.c (.bool false)), none⟩,
      ⟨some 31, .op (.mov (.t 30)), none⟩,
      ⟨some 32, .op (.mov (.t 4)), some (31, true)⟩,
      ⟨some 33, .op (.un .not (.t 32)), some (31, true)⟩,
      ⟨some 34, .pick (.t 31) (.t 33) (.c (.bool false)), none⟩,
      ⟨some 35, .op (.mov (.t 34)), none⟩,
      ⟨some 36, .op (.mov (.t 6)), some (35, true)⟩,
      ⟨some 37, .op (.bin .eql .basic (.t 36) (.c (.int .i64 23))), some (35, true)⟩,
      ⟨some 38, .pick (.t 35) (.t 37) (.c (.bool false)), none⟩,
      ⟨some 39, .op (.mov (.t 38)), none⟩,
      ⟨some 40, .op (.loadN 2 (.t 1)), some (39, true)⟩,
      ⟨some 41, .call (.c (.func (.func 29) #[] #[])) [.t 40], some (39, true)⟩,
      ⟨some 42, .op (.bin .eql .basic (.t 41) (.c (.int .i64 42))), some (39, true)⟩,
      ⟨some 43, .pick (.t 39) (.t 42) (.c (.bool false)), none⟩,
      ⟨some 44, .op (.mov (.t 43)), none⟩,
      ⟨some 45, .call (.c (.func (.func 43) #[] #[])) [.c (.string ⟨#[118, 105, 97]⟩)], some (44, true)⟩,
      ⟨some 46, .op (.bin .eql .basic (.t 45) (.c (.int .i64 60))), some (44, true)⟩,
      ⟨some 47, .pick (.t 44) (.t 46) (.c (.bool false)), none⟩,
      ⟨some 0, .op (.mov (.t 47)), none⟩] [0])
  (.ret)))))⟩

theorem lf14_ok : cFunc Try.prog Try.f14 [[], [1, 2], [1, 2, 3, 4], [1, 2, 3, 4, 6], [0]] = some lf14 := by kernel_rfl

/-- squint/squintlaw07.right -/
def lf17 : LFunc := ⟨39, [.tmp 2],
  .seq (.region [⟨some 1, .op (.box (.t 0)), none⟩,
      ⟨some 2, .op (.mov (.c (.bool false))), none⟩] [1])
  (.seq (.region [⟨some 3, .op (.mov (.c (.int .i64 0))), none⟩] [1, 3])
  (.seq (.seq (.region [⟨some 6, .op (.fieldAddr 2 (.t 1)), none⟩,
        ⟨some 7, .op (.load1 (.t 6)), none⟩,
        ⟨some 8, .op (.lenS (.t 7)), none⟩,
        ⟨some 9, .op (.mov (.c (.int .i64 0))), none⟩] [1, 3, 7, 8, 9])
    (.block 0 (.loop (.seq (.region [⟨some 10, .op (.bin .lss .basic (.t 9) (.t 8)), none⟩] [1, 3, 7, 8, 9, 10])
        (.seq (.cond (.t 10)
            (.skip)
            (.exit 0))
        (.seq (.block 1 (.seq (.region [⟨some 11, .op (.idxAddrS 1 (.t 7) (.t 9)), none⟩,
                ⟨some 12, .op (.load1 (.t 11)), none⟩,
                ⟨some 5, .op (.mov (.t 12)), none⟩] [1, 3, 5, 7, 8, 9])
            (.seq (.region [⟨some 13, .op (.mov (.t 3)), none⟩,
                ⟨some 14, .op (.mov (.t 5)), none⟩,
                ⟨some 15, .op (.lenS (.t 14)), none⟩,
                ⟨some 16, .op (.bin .add .basic (.c (.int .i64 5)) (.t 15)), none⟩,
                ⟨some 17, .op (.bin .add .basic (.t 13) (.t 16)), none⟩,
                ⟨some 3, .op (.mov (.t 17)), none⟩] [1, 3, 7, 8, 9])
            (.seq (.region [⟨some 18, .op (.mov (.t 3)), none⟩,
                ⟨some 19, .op (.bin .gtr .basic (.t 18) (.c (.int .i64 600))), none⟩] [1, 3, 7, 8, 9, 19])
            (.cond (.t 19)
              (.seq (.region [⟨some 2, .op (.mov (.c (.bool false))), none⟩] [2])
              (.ret))
              (.skip))))))
        (.region [⟨some 20, .op (.bin .add .basic (.t 9) (.c (.int .i64 1))), none⟩,
          ⟨some 9, .op (.mov (.t 20)), none⟩] [1, 3, 7, 8, 9])))))))
  (.seq (.region [⟨some 21, .op (.fieldAddr 0 (.t 1)), none⟩,
      ⟨some 22, .op (.load1 (.t 21)), none⟩,
      ⟨some 23, .op (.bin .geq .basic (.t 22) (.c (.int .i64 0))), none⟩,
      ⟨some 24, .op (.mov (.t 23)), none⟩,
      ⟨some 25, .op (.fieldAddr 0 (.t 1)), some (24, true)⟩,
      ⟨some 26, .op (.load1 (.t 25)), some (24, true)⟩,
      ⟨some 27, .op (.bin .leq .basic (.t 26) (.c (.int .i64 65536))), some (24, true)⟩,
      ⟨some 28, .pick (.t 24) (.t 27) (.c (.bool false)), none⟩,
      ⟨some 29, .op (.mov (.t 28)), none⟩,
      ⟨some 30, .op (.fieldAddr 1 (.t 1)), some (29, true)⟩,
      ⟨some 31, .op (.load1 (.t 30)), some (29, true)⟩,
      ⟨some 32, .op (.bin .geq .basic (.t 31) (.c (.int .i64 0))), some (29, true)⟩,
      ⟨some 33, .pick (.t 29) (.t 32) (.c (.bool false)), none⟩,
      ⟨some 34, .op (.mov (.t 33)), none⟩,
      ⟨some 35, .op (.fieldAddr 1 (.t 1)), some (34, true)⟩,
      ⟨some 36, .op (.load1 (.t 35)), some (34, true)⟩,
      ⟨some 37, .op (.bin .leq .basic (.t 36) (.c (.int .i64 16384))), some (34, true)⟩,
      ⟨some 38, .pick (.t 34) (.t 37) (.c (.bool false)), none⟩,
      ⟨some 2, .op (.mov (.t 38)), none⟩] [2])
  (.ret))))⟩

theorem lf17_ok : cFunc Try.prog Try.f17 [[1], [1, 3], [1, 3, 7, 8, 9], [1, 3, 7, 8, 9, 10], [1, 3, 5, 7, 8, 9], [1, 3, 7, 8, 9], [1, 3, 7, 8, 9, 19], [2], [1, 3, 7, 8, 9], [2]] = some lf17 := by kernel_rfl

/-- squint/squintlaw07.awake -/
def lf18 : LFunc := ⟨81, [.tmp 0],
  .seq (.region [⟨some 0, .op (.mov (.c (.bool false))), none⟩] [])
  (.seq (.region [⟨some 10, .call (.c (.func (.func 19) #[] #[])) [.c (.int .i64 100), .c (.int .i64 1000)], none⟩,
      ⟨some 9, .op (.mov (.t 10)), none⟩,
      ⟨some 11, .op (.extract 0 (.t 9)), none⟩,
      ⟨some 12, .op (.extract 1 (.t 9)), none⟩,
      ⟨some 1, .op (.mov (.t 11)), none⟩,
      ⟨some 2, .op (.mov (.t 12)), none⟩] [1, 2])
  (.seq (.seq (.region [⟨some 13, .op (.mov (.t 2)), none⟩,
        ⟨some 14, .op (.bin .neq .basic (.t 13) (.c (.int .i64 0))), none⟩,
        ⟨some 15, .op (.mov (.t 14)), none⟩,
        ⟨some 16, .op (.mov (.t 1)), some (15, false)⟩,
        ⟨some 17, .op (.bin .eql .ptr (.t 16) (.c (.pointer none))), some (15, false)⟩,
        ⟨some 18, .pick (.t 15) (.c (.bool true)) (.t 17), none⟩] [1, 18])
    (.cond (.t 18)
      (.seq (.region [⟨some 0, .op (.mov (.c (.bool false))), none⟩] [0])
      (.ret))
      (.skip)))
  (.seq (.region [⟨some 20, .op (.mov (.t 1)), none⟩,
      ⟨some 21, .op (.buildSlice 7 1 [.int .u8 0, .int .u8 0, .int .u8 0, .int .u8 0, .int .u8 0, .int .u8 0, .int .u8 0] [(0, 1, .c (.int .u8 130)), (1, 1, .c (.int .u8 64)), (2, 1, .c (.int .u8 1)), (3, 1, .c (.int .u8 97)), (4, 1, .c (.int .u8 1)), (5, 1, .c (.int .u8 98)), (6, 1, .c (.int .u8 190))]), none⟩,
      ⟨some 22, .op (.markB (.t 21)), none⟩,
      ⟨some 23, .call (.c (.func (.func 20) #[] #[])) [.t 20, .t 22], none⟩,
      ⟨some 19, .op (.mov (.t 23)), none⟩,
      ⟨some 24, .op (.extract 0 (.t 19)), none⟩,
      ⟨some 25, .op (.extract 1 (.t 19)), none⟩,
      ⟨some 3, .op (.mov (.t 24)), none⟩,
      ⟨some 4, .op (.mov (.t 25)), none⟩] [1, 3, 4])
  (.seq (.region [⟨some 27, .op (.mov (.t 1)), none⟩,
      ⟨some 28, .op (.buildSlice 1 1 [.int .u8 0] [(0, 1, .c (.int .u8 191))]), none⟩,
      ⟨some 29, .op (.markB (.t 28)), none⟩,
      ⟨some 30, .call (.c (.func (.func 20) #[] #[])) [.t 27, .t 29], none⟩,
      ⟨some 26, .op (.mov (.t 30)), none⟩,
      ⟨some 31, .op (.extract 0 (.t 26)), none⟩,
      ⟨some 32, .op (.extract 1 (.t 26)), none⟩,
      ⟨some 5, .op (.mov (.t 31)), none⟩,
      ⟨some 6, .op (.mov (.t 32)), none⟩] [1, 3, 4, 6])
  (.seq (.region [⟨some 34, .op (.mov (.t 1)), none⟩,
      ⟨some 35, .call (.c (.func (.func 20) #[] #[])) [.t 34, .c (.slice none 0 0)], none⟩,
      ⟨some 33, .op (.mov (.t 35)), none⟩,
      ⟨some 36, .op (.extract 0 (.t 33)), none⟩,
      ⟨some 37, .op (.extract 1 (.t 33)), none⟩,
      ⟨some 7, .op (.mov (.t 36)), none⟩,
      ⟨some 8, .op (.mov (.t 37)), none⟩] [1, 3, 4, 6, 8])
  (.seq (.region [⟨some 38, .op (.mov (.t 4)), none⟩,
      ⟨some 39, .op (.bin .eql .basic (.t 38) (.c (.int .i64 0))), none⟩,
      ⟨some 40, .op (.mov (.t 39)), none⟩,
      ⟨some 41, .op (.mov (.t 3)), some (40, true)⟩,
      ⟨some 42, .op (.lenS (.t 41)), some (40, true)⟩,
      ⟨some 43, .op (.bin .eql .basic (.t 42) (.c (.int .i64 3))), some (40, true)⟩,
      ⟨some 44, .pick (.t 40) (.t 43) (.c (.bool false)), none⟩,
      ⟨some 45, .op (.mov (.t 44)), none⟩,
      ⟨some 46, .op (.mov (.t 3)), some (45, true)⟩,
      ⟨some 47, .op (.idxAddrS 3 (.t 46) (.c (.int .i64 0))), some (45, true)⟩,
      ⟨some 48, .op (.fieldAddr 0 (.t 47)), some (45, true)⟩,
      ⟨some 49, .op (.fieldAddr 1 (.t 48)), some (45, true)⟩,
      ⟨some 50, .op (.load1 (.t 49)), some (45, true)⟩,
      ⟨some 51, .op (.bin .eql .basic (.t 50) (.c (.string ⟨#[71, 69, 84]⟩))), some (45, true)⟩,
      ⟨some 52, .pick (.t 45) (.t 51) (.c (.bool false)), none⟩,
      ⟨some 53, .op (.mov (.t 52)), none⟩,
      ⟨some 54, .op (.mov (.t 3)), some (53, true)⟩,
      ⟨some 55, .op (.idxAddrS 3 (.t 54) (.c (.int .i64 2))), some (53, true)⟩,
      ⟨some 56, .op (.fieldAddr 0 (.t 55)), some (53, true)⟩,
      ⟨some 57, .op (.fieldAddr 0 (.t 56)), some (53, true)⟩,
      ⟨some 58, .op (.load1 (.t 57)), some (53, true)⟩,
      ⟨some 59, .op (.bin .eql .basic (.t 58) (.c (.string ⟨#[97]⟩))), some (53, true)⟩,
      ⟨some 60, .pick (.t 53) (.t 59) (.c (.bool false)), none⟩,
      ⟨some 61, .op (.mov (.t 60)), none⟩,
      ⟨some 62, .op (.mov (.t 3)), some (61, true)⟩,
      ⟨some 63, .op (.idxAddrS 3 (.t 62) (.c (.int .i64 2))), some (61, true)⟩,
      ⟨some 64, .op (.fieldAddr 0 (.t 63)), some (61, true)⟩,
      ⟨some 65, .op (.fieldAddr 1 (.t 64)), some (61, true)⟩,
      ⟨some 66, .op (.load1 (.t 65)), some (61, true)⟩,
      ⟨some 67, .op (.bin .eql .basic (.t 66) (.c (.string ⟨#[98]⟩))), some (61, true)⟩,
      ⟨some 68, .pick (.t 61) (.t 67) (.c (.bool false)), none⟩,
      ⟨some 69, .op (.mov (.t 68)), none⟩,
      ⟨some 70, .op (.mov (.t 6)), some (69, true)⟩,
      ⟨some 71, .op (.bin .eql .basic (.t 70) (.c (.int .i64 23))), some (69, true)⟩,
      ⟨some 72, .pick (.t 69) (.t 71) (.c (.bool false)), none⟩,
      ⟨some 73, .op (.mov (.t 72)), none⟩,
      ⟨some 74, .op (.mov (.t 8)), some (73, true)⟩,
      ⟨some 75, .op (.bin .eql .basic (.t 74) (.c (.int .i64 25))), some (73, true)⟩,
      ⟨some 76, .pick (.t 73) (.t 75) (.c (.bool false)), none⟩,
      ⟨some 77, .op (.mov (.t 76)), none⟩,
      ⟨some 78, .op (.mov (.t 1)), some (77, true)⟩,
      ⟨some 79, .call (.c (.func (.func 21) #[] #[])) [.t 78], some (77, true)⟩,
      ⟨some 80, .pick (.t 77) (.t 79) (.c (.bool false)), none⟩,
      ⟨some 0, .op (.mov (.t 80)), none⟩] [0])
  (.ret)))))))⟩

theorem lf18_ok : cFunc Try.prog Try.f18 [[], [1, 2], [1, 18], [0], [1, 3, 4], [1, 3, 4, 6], [1, 3, 4, 6, 8], [0]] = some lf18 := by kernel_rfl

/-- squint/squintlaw07.lines -/
def lf25 : LFunc := ⟨57, [.tmp 4],
  .seq (.region [⟨some 4, .op (.mov (.c (.bool false))), none⟩] [0, 1])
  (.seq (.seq (.region [⟨some 6, .op (.mov (.t 0)), none⟩,
        ⟨some 7, .op (.lenS (.t 6)), none⟩,
        ⟨some 8, .op (.mov (.t 1)), none⟩,
        ⟨some 9, .op (.lenS (.t 8)), none⟩,
        ⟨some 10, .op (.bin .neq .basic (.t 7) (.t 9)), none⟩] [0, 1, 10])
    (.cond (.t 10)
      (.seq (.region [⟨some 4, .op (.mov (.c (.bool false))), none⟩] [4])
      (.ret))
      (.skip)))
  (.seq (.seq (.region [⟨some 11, .op (.mov (.t 0)), none⟩,
        ⟨some 12, .op (.lenS (.t 11)), none⟩,
        ⟨some 13, .op (.mov (.c (.int .i64 0))), none⟩] [0, 1, 12, 13])
    (.block 0 (.loop (.seq (.region [⟨some 14, .op (.bin .lss .basic (.t 13) (.t 12)), none⟩] [0, 1, 12, 13, 14])
        (.seq (.cond (.t 14)
            (.skip)
            (.exit 0))
        (.seq (.block 1 (.seq (.region [⟨some 15, .op (.mov (.t 13)), none⟩,
                ⟨some 5, .op (.mov (.t 15)), none⟩] [0, 1, 5, 12, 13])
            (.seq (.dregion [(⟨some 16, .op (.mov (.t 0)), none⟩, 0, 0),
                (⟨some 17, .op (.mov (.t 5)), none⟩, 0, 0),
                (⟨some 18, .op (.idxAddrS 3 (.t 16) (.t 17)), none⟩, 0, 0),
                (⟨some 19, .op (.fieldAddr 0 (.t 18)), none⟩, 0, 0),
                (⟨some 20, .op (.fieldAddr 0 (.t 19)), none⟩, 0, 0),
                (⟨some 21, .op (.load1 (.t 20)), none⟩, 0, 0),
                (⟨some 22, .op (.mov (.t 1)), none⟩, 0, 0),
                (⟨some 23, .op (.mov (.t 5)), none⟩, 0, 0),
                (⟨some 24, .op (.idxAddrS 3 (.t 22) (.t 23)), none⟩, 0, 0),
                (⟨some 25, .op (.fieldAddr 0 (.t 24)), none⟩, 0, 0),
                (⟨some 26, .op (.load1 (.t 25)), none⟩, 0, 0),
                (⟨some 27, .op (.bin .neq .basic (.t 21) (.t 26)), none⟩, 0, 0),
                (⟨some 28, .op (.mov (.t 27)), none⟩, 0, 0),
                (⟨some 29, .op (.mov (.t 0)), some (28, false)⟩, 0, 0),
                (⟨some 30, .op (.mov (.t 5)), some (28, false)⟩, 0, 0),
                (⟨some 31, .op (.idxAddrS 3 (.t 29) (.t 30)), some (28, false)⟩, 0, 0),
                (⟨some 32, .op (.fieldAddr 0 (.t 31)), some (28, false)⟩, 0, 0),
                (⟨some 33, .op (.fieldAddr 1 (.t 32)), some (28, false)⟩, 0, 0),
                (⟨some 34, .op (.load1 (.t 33)), some (28, false)⟩, 0, 0),
                (⟨some 35, .op (.mov (.t 1)), some (28, false)⟩, 0, 0),
                (⟨some 36, .op (.mov (.t 5)), some (28, false)⟩, 0, 0),
                (⟨some 37, .op (.idxAddrS 3 (.t 35) (.t 36)), some (28, false)⟩, 0, 0),
                (⟨some 38, .op (.fieldAddr 1 (.t 37)), some (28, false)⟩, 0, 0),
                (⟨some 39, .op (.load1 (.t 38)), some (28, false)⟩, 0, 0),
                (⟨some 40, .op (.bin .neq .basic (.t 34) (.t 39)), some (28, false)⟩, 0, 0),
                (⟨some 41, .pick (.t 28) (.c (.bool true)) (.t 40), none⟩, 0, 0),
                (⟨some 42, .op (.mov (.t 41)), none⟩, 0, 0),
                (⟨some 43, .op (.mov (.t 0)), some (42, false)⟩, 0, 0),
                (⟨some 44, .op (.mov (.t 5)), some (42, false)⟩, 0, 0),
                (⟨some 45, .op (.idxAddrS 3 (.t 43) (.t 44)), some (42, false)⟩, 0, 0),
                (⟨some 46, .op (.fieldAddr 2 (.t 45)), some (42, false)⟩, 0, 0),
                (⟨some 47, .op (.load1 (.t 46)), some (42, false)⟩, 0, 0),
                (⟨some 48, .op (.mov (.t 1)), some (42, false)⟩, 0, 0),
                (⟨some 49, .op (.mov (.t 5)), some (42, false)⟩, 0, 0),
                (⟨some 50, .op (.idxAddrS 3 (.t 48) (.t 49)), some (42, false)⟩, 0, 0),
                (⟨some 51, .op (.fieldAddr 2 (.t 50)), some (42, false)⟩, 0, 0),
                (⟨some 52, .op (.load1 (.t 51)), some (42, false)⟩, 0, 0),
                (⟨some 53, .op (.bin .eql .basic (.t 52) (.c (.int .i64 1))), some (42, false)⟩, 0, 0),
                (⟨some 54, .op (.bin .neq .bool (.t 47) (.t 53)), some (42, false)⟩, 0, 0),
                (⟨some 55, .pick (.t 42) (.c (.bool true)) (.t 54), none⟩, 0, 0)] [0, 1, 12, 13, 55])
            (.cond (.t 55)
              (.seq (.region [⟨some 4, .op (.mov (.c (.bool false))), none⟩] [4])
              (.ret))
              (.skip)))))
        (.region [⟨some 56, .op (.bin .add .basic (.t 13) (.c (.int .i64 1))), none⟩,
          ⟨some 13, .op (.mov (.t 56)), none⟩] [0, 1, 12, 13])))))))
  (.seq (.region [⟨some 4, .op (.mov (.c (.bool true))), none⟩] [4])
  (.ret))))⟩

theorem lf25_ok : cFunc Try.prog Try.f25 [[0, 1], [0, 1, 10], [4], [0, 1, 12, 13], [0, 1, 12, 13, 14], [0, 1, 5, 12, 13], [0, 1, 12, 13, 55], [4], [0, 1, 12, 13], [4]] = some lf25 := by kernel_rfl

/-- squint/squintlaw07.table -/
def lf26 : LFunc := ⟨64, [.tmp 4],
  .seq (.region [⟨some 3, .op (.box (.t 1)), none⟩,
      ⟨some 4, .op (.mov (.c (.bool false))), none⟩] [0, 3])
  (.seq (.region [⟨some 9, .op (.mov (.t 0)), none⟩,
      ⟨some 10, .call (.c (.func (.func 22) #[] #[])) [.t 9], none⟩,
      ⟨some 5, .op (.mov (.t 10)), none⟩] [0, 3, 5])
  (.seq (.seq (.dregion [(⟨some 11, .op (.mov (.t 5)), none⟩, 0, 0),
        (⟨some 12, .op (.bin .eql .ptr (.t 11) (.c (.pointer none))), none⟩, 0, 0),
        (⟨some 13, .op (.mov (.t 12)), none⟩, 0, 0),
        (⟨some 14, .op (.mov (.t 5)), some (13, false)⟩, 0, 0),
        (⟨some 15, .call (.c (.func (.func 23) #[] #[])) [.t 14], some (13, false)⟩, 0, 1),
        (⟨some 16, .op (.fieldAddr 0 (.t 3)), some (13, false)⟩, 0, 1),
        (⟨some 17, .op (.load1 (.t 16)), some (13, false)⟩, 0, 1),
        (⟨some 18, .op (.lenS (.t 17)), some (13, false)⟩, 0, 1),
        (⟨some 19, .op (.bin .neq .basic (.t 15) (.t 18)), some (13, false)⟩, 1, 1),
        (⟨some 20, .pick (.t 13) (.c (.bool true)) (.t 19), none⟩, 1, 1),
        (⟨some 21, .op (.mov (.t 20)), none⟩, 1, 1),
        (⟨some 22, .op (.mov (.t 5)), some (21, false)⟩, 1, 1),
        (⟨some 23, .call (.c (.func (.func 31) #[] #[])) [.t 22], some (21, false)⟩, 1, 2),
        (⟨some 24, .op (.fieldAddr 1 (.t 3)), some (21, false)⟩, 1, 2),
        (⟨some 25, .op (.load1 (.t 24)), some (21, false)⟩, 1, 2),
        (⟨some 26, .op (.bin .neq .basic (.t 23) (.t 25)), some (21, false)⟩, 2, 2),
        (⟨some 27, .pick (.t 21) (.c (.bool true)) (.t 26), none⟩, 2, 2),
        (⟨some 28, .op (.mov (.t 27)), none⟩, 2, 2),
        (⟨some 29, .op (.mov (.t 0)), some (28, false)⟩, 2, 2),
        (⟨some 30, .call (.c (.func (.func 21) #[] #[])) [.t 29], some (28, false)⟩, 2, 3),
        (⟨some 31, .op (.fieldAddr 4 (.t 3)), some (28, false)⟩, 2, 3),
        (⟨some 32, .op (.load1 (.t 31)), some (28, false)⟩, 2, 3),
        (⟨some 33, .op (.bin .neq .bool (.t 30) (.t 32)), some (28, false)⟩, 3, 3),
        (⟨some 34, .pick (.t 28) (.c (.bool true)) (.t 33), none⟩, 3, 3)] [3, 5, 34])
    (.cond (.t 34)
      (.seq (.region [⟨some 4, .op (.mov (.c (.bool false))), none⟩] [4])
      (.ret))
      (.skip)))
  (.seq (.seq (.region [⟨some 35, .op (.fieldAddr 0 (.t 3)), none⟩,
        ⟨some 36, .op (.load1 (.t 35)), none⟩,
        ⟨some 37, .op (.lenS (.t 36)), none⟩,
        ⟨some 38, .op (.mov (.c (.int .i64 0))), none⟩] [3, 5, 37, 38])
    (.block 0 (.loop (.seq (.region [⟨some 39, .op (.bin .lss .basic (.t 38) (.t 37)), none⟩] [3, 5, 37, 38, 39])
        (.seq (.cond (.t 39)
            (.skip)
            (.exit 0))
        (.seq (.block 1 (.seq (.region [⟨some 40, .op (.mov (.t 38)), none⟩,
                ⟨some 6, .op (.mov (.t 40)), none⟩] [3, 5, 6, 37, 38])
            (.seq (.region [⟨some 42, .op (.mov (.t 5)), none⟩,
                ⟨some 43, .op (.mov (.t 6)), none⟩,
                ⟨some 44, .op (.bin .add .basic (.t 43) (.c (.int .i64 1))), none⟩,
                ⟨some 45, .call (.c (.func (.func 55) #[] #[])) [.t 42, .t 44], none⟩,
                ⟨some 41, .op (.mov (.t 45)), none⟩,
                ⟨some 46, .op (.extract 0 (.t 41)), none⟩,
                ⟨some 47, .op (.extract 1 (.t 41)), none⟩,
                ⟨some 7, .op (.alloc [.string ⟨#[]⟩, .string ⟨#[]⟩]), none⟩,
                ⟨none, .op (.store 2 (.t 7) (.t 46)), none⟩,
                ⟨some 8, .op (.mov (.t 47)), none⟩] [3, 5, 6, 7, 8, 37, 38])
            (.seq (.dregion [(⟨some 48, .op (.mov (.t 8)), none⟩, 0, 0),
                (⟨some 49, .op (.bin .neq .basic (.t 48) (.c (.int .i64 0))), none⟩, 0, 0),
                (⟨some 50, .op (.mov (.t 49)), none⟩, 0, 0),
                (⟨some 51, .op (.fieldAddr 0 (.t 7)), some (50, false)⟩, 0, 0),
                (⟨some 52, .op (.load1 (.t 51)), some (50, false)⟩, 0, 0),
                (⟨some 53, .op (.fieldAddr 1 (.t 7)), some (50, false)⟩, 0, 0),
                (⟨some 54, .op (.load1 (.t 53)), some (50, false)⟩, 0, 0),
                (⟨some 55, .op (.build [.string ⟨#[]⟩, .string ⟨#[]⟩] [(0, 1, .t 52), (1, 1, .t 54)]), some (50, false)⟩, 0, 0),
                (⟨some 56, .op (.fieldAddr 0 (.t 3)), some (50, false)⟩, 0, 0),
                (⟨some 57, .op (.load1 (.t 56)), some (50, false)⟩, 0, 0),
                (⟨some 58, .op (.mov (.t 6)), some (50, false)⟩, 0, 0),
                (⟨some 59, .op (.idxAddrS 2 (.t 57) (.t 58)), some (50, false)⟩, 0, 0),
                (⟨some 60, .op (.loadN 2 (.t 59)), some (50, false)⟩, 0, 0),
                (⟨some 61, .op (.bin .neq (.typed 28) (.t 55) (.t 60)), some (50, false)⟩, 0, 0),
                (⟨some 62, .pick (.t 50) (.c (.bool true)) (.t 61), none⟩, 0, 0)] [3, 5, 37, 38, 62])
            (.cond (.t 62)
              (.seq (.region [⟨some 4, .op (.mov (.c (.bool false))), none⟩] [4])
              (.ret))
              (.skip))))))
        (.region [⟨some 63, .op (.bin .add .basic (.t 38) (.c (.int .i64 1))), none⟩,
          ⟨some 38, .op (.mov (.t 63)), none⟩] [3, 5, 37, 38])))))))
  (.seq (.region [⟨some 4, .op (.mov (.c (.bool true))), none⟩] [4])
  (.ret)))))⟩

theorem lf26_ok : cFunc Try.prog Try.f26 [[0, 3], [0, 3, 5], [3, 5, 34], [4], [3, 5, 37, 38], [3, 5, 37, 38, 39], [3, 5, 6, 37, 38], [3, 5, 6, 7, 8, 37, 38], [3, 5, 37, 38, 62], [4], [3, 5, 37, 38], [4]] = some lf26 := by kernel_rfl

/-- squint/squintlaw08.awake -/
def lf32 : LFunc := ⟨39, [.tmp 0],
  .seq (.region [⟨some 0, .op (.mov (.c (.bool false))), none⟩] [])
  (.seq (.region [⟨some 4, .op (.build [.string ⟨#[]⟩, .string ⟨#[]⟩] [(0, 1, .c (.string ⟨#[58, 109, 101, 116, 104, 111, 100]⟩)), (1, 1, .c (.string ⟨#[71, 69, 84]⟩))]), none⟩,
      ⟨some 5, .op (.build [.string ⟨#[]⟩, .string ⟨#[]⟩, .bool false] [(0, 2, .t 4)]), none⟩,
      ⟨some 6, .op (.build [.string ⟨#[]⟩, .string ⟨#[]⟩] [(0, 1, .c (.string ⟨#[99, 111, 111, 107, 105, 101]⟩)), (1, 1, .c (.string ⟨#[97]⟩))]), none⟩,
      ⟨some 7, .op (.build [.string ⟨#[]⟩, .string ⟨#[]⟩, .bool false] [(0, 2, .t 6), (2, 1, .c (.bool true))]), none⟩,
      ⟨some 8, .op (.buildSlice 2 3 [.string ⟨#[]⟩, .string ⟨#[]⟩, .bool false, .string ⟨#[]⟩, .string ⟨#[]⟩, .bool false] [(0, 3, .t 5), (3, 3, .t 7)]), none⟩,
      ⟨some 9, .call (.c (.func (.func 39) #[] #[])) [.t 8], none⟩,
      ⟨some 3, .op (.mov (.t 9)), none⟩,
      ⟨some 10, .op (.extract 0 (.t 3)), none⟩,
      ⟨some 11, .op (.extract 1 (.t 3)), none⟩,
      ⟨some 1, .op (.mov (.t 10)), none⟩,
      ⟨some 2, .op (.mov (.t 11)), none⟩] [1, 2])
  (.seq (.region [⟨some 12, .op (.mov (.t 1)), none⟩,
      ⟨some 13, .op (.bytesStr (.t 12)), none⟩,
      ⟨some 14, .op (.bin .eql .basic (.t 13) (.c (.string ⟨#[130, 31, 17, 1, 97]⟩))), none⟩,
      ⟨some 15, .op (.mov (.t 14)), none⟩,
      ⟨some 16, .op (.mov (.t 2)), some (15, true)⟩,
      ⟨some 17, .op (.bin .eql .basic (.t 16) (.c (.int .i64 0))), some (15, true)⟩,
      ⟨some 18, .pick (.t 15) (.t 17) (.c (.bool false)), none⟩,
      ⟨some 19, .op (.mov (.t 18)), none⟩,
      ⟨some 20, .op (.mov (.t 1)), some (19, true)⟩,
      ⟨some 21, .call (.c (.func (.func 33) #[] #[])) [.t 20], some (19, true)⟩,
      ⟨some 22, .pick (.t 19) (.t 21) (.c (.bool false)), none⟩,
      ⟨some 23, .op (.mov (.t 22)), none⟩,
      ⟨some 24, .op (.buildSlice 5 1 [.int .u8 0, .int .u8 0, .int .u8 0, .int .u8 0, .int .u8 0] [(0, 1, .c (.int .u8 64)), (1, 1, .c (.int .u8 1)), (2, 1, .c (.int .u8 97)), (3, 1, .c (.int .u8 1)), (4, 1, .c (.int .u8 98))]), some (23, true)⟩,
      ⟨some 25, .op (.markB (.t 24)), some (23, true)⟩,
      ⟨some 26, .call (.c (.func (.func 33) #[] #[])) [.t 25], some (23, true)⟩,
      ⟨some 27, .op (.un .not (.t 26)), some (23, true)⟩,
      ⟨some 28, .pick (.t 23) (.t 27) (.c (.bool false)), none⟩,
      ⟨some 29, .op (.mov (.t 28)), none⟩,
      ⟨some 30, .op (.buildSlice 1 1 [.int .u8 0] [(0, 1, .c (.int .u8 32))]), some (29, true)⟩,
      ⟨some 31, .call (.c (.func (.func 33) #[] #[])) [.t 30], some (29, true)⟩,
      ⟨some 32, .op (.un .not (.t 31)), some (29, true)⟩,
      ⟨some 33, .pick (.t 29) (.t 32) (.c (.bool false)), none⟩,
      ⟨some 34, .op (.mov (.t 33)), none⟩,
      ⟨some 35, .op (.buildSlice 1 1 [.int .u8 0] [(0, 1, .c (.int .u8 190))]), some (34, true)⟩,
      ⟨some 36, .call (.c (.func (.func 33) #[] #[])) [.t 35], some (34, true)⟩,
      ⟨some 37, .op (.un .not (.t 36)), some (34, true)⟩,
      ⟨some 38, .pick (.t 34) (.t 37) (.c (.bool false)), none⟩,
      ⟨some 0, .op (.mov (.t 38)), none⟩] [0])
  (.ret)))⟩

theorem lf32_ok : cFunc Try.prog Try.f32 [[], [1, 2], [0]] = some lf32 := by kernel_rfl

/-- squint/squintlaw08.forms -/
def lf34 : LFunc := ⟨48, [.tmp 4],
  .seq (.region [⟨some 4, .op (.mov (.c (.bool false))), none⟩] [0, 1])
  (.seq (.block 0 (.loop (.seq (.seq (.region [⟨some 9, .op (.mov (.t 0)), none⟩,
              ⟨some 10, .op (.lenStr (.t 9)), none⟩,
              ⟨some 11, .op (.bin .gtr .basic (.t 10) (.c (.int .i64 0))), none⟩] [0, 1, 11])
          (.cond (.t 11)
            (.skip)
            (.exit 0)))
        (.block 1 (.seq (.seq (.region [⟨some 12, .op (.mov (.t 0)), none⟩,
                ⟨some 13, .op (.idxStr (.t 12) (.c (.int .i64 0))), none⟩,
                ⟨some 14, .op (.bin .geq .basic (.t 13) (.c (.int .u8 32))), none⟩,
                ⟨some 15, .op (.mov (.t 14)), none⟩,
                ⟨some 16, .op (.mov (.t 0)), some (15, true)⟩,
                ⟨some 17, .op (.idxStr (.t 16) (.c (.int .i64 0))), some (15, true)⟩,
                ⟨some 18, .op (.bin .lss .basic (.t 17) (.c (.int .u8 128))), some (15, true)⟩,
                ⟨some 19, .pick (.t 15) (.t 18) (.c (.bool false)), none⟩] [0, 1, 19])
            (.cond (.t 19)
              (.seq (.region [⟨some 4, .op (.mov (.c (.bool false))), none⟩] [4])
              (.ret))
              (.skip)))
          (.seq (.region [⟨some 5, .op (.mov (.c (.int .i64 1))), none⟩] [0, 1, 5])
          (.seq (.block 2 (.loop (.seq (.seq (.region [⟨some 20, .op (.mov (.t 5)), none⟩,
                      ⟨some 21, .op (.mov (.t 0)), none⟩,
                      ⟨some 22, .op (.lenStr (.t 21)), none⟩,
                      ⟨some 23, .op (.bin .lss .basic (.t 20) (.t 22)), none⟩] [0, 1, 5, 23])
                  (.cond (.t 23)
                    (.skip)
                    (.exit 2)))
                (.block 3 (.seq (.seq (.region [⟨some 25, .op (.build [.slice none 0 0, .int .i64 0, .int .i64 0, .int .i64 0, .bool false] [(3, 1, .c (.int .i64 1099511627776))]), none⟩,
                        ⟨some 26, .op (.mov (.t 0)), none⟩,
                        ⟨some 27, .op (.mov (.t 5)), none⟩,
                        ⟨some 28, .op (.sliceStr (.t 26) none (some (.t 27))), none⟩,
                        ⟨some 29, .call (.c (.func (.func 24) #[] #[])) [.t 25, .t 28], none⟩,
                        ⟨some 24, .op (.mov (.t 29)), none⟩,
                        ⟨some 30, .op (.extract 0 (.t 24)), none⟩,
                        ⟨some 31, .op (.extract 1 (.t 24)), none⟩,
                        ⟨some 32, .op (.extract 2 (.t 24)), none⟩,
                        ⟨some 6, .op (.alloc [.slice none 0 0, .int .i64 0, .int .i64 0, .int .i64 0, .bool false]), none⟩,
                        ⟨none, .op (.store 5 (.t 6) (.t 30)), none⟩,
                        ⟨some 7, .op (.mov (.t 31)), none⟩,
                        ⟨some 8, .op (.mov (.t 32)), none⟩] [0, 1, 5, 7, 8])
                    (.seq (.region [⟨some 33, .op (.mov (.t 8)), none⟩,
                        ⟨some 34, .op (.bin .eql .basic (.t 33) (.c (.int .i64 0))), none⟩,
                        ⟨some 35, .op (.mov (.t 34)), none⟩,
                        ⟨some 36, .op (.mov (.t 7)), some (35, true)⟩,
                        ⟨some 37, .op (.lenS (.t 36)), some (35, true)⟩,
                        ⟨some 38, .op (.bin .eql .basic (.t 37) (.c (.int .i64 1))), some (35, true)⟩,
                        ⟨some 39, .pick (.t 35) (.t 38) (.c (.bool false)), none⟩] [0, 1, 5, 39])
                    (.cond (.t 39)
                      (.exit 2)
                      (.skip))))
                  (.region [⟨some 40, .op (.mov (.t 5)), none⟩,
                    ⟨some 41, .op (.bin .add .basic (.t 40) (.c (.int .i64 1))), none⟩,
                    ⟨some 5, .op (.mov (.t 41)), none⟩] [0, 1, 5]))))))
          (.region [⟨some 42, .op (.mov (.t 0)), none⟩,
            ⟨some 43, .op (.mov (.t 5)), none⟩,
            ⟨some 44, .op (.sliceStr (.t 42) (some (.t 43)) none), none⟩,
            ⟨some 0, .op (.mov (.t 44)), none⟩] [0, 1]))))))))
  (.seq (.region [⟨some 45, .op (.mov (.t 1)), none⟩,
      ⟨some 46, .op (.lenS (.t 45)), none⟩,
      ⟨some 47, .op (.bin .geq .basic (.t 46) (.c (.int .i64 0))), none⟩,
      ⟨some 4, .op (.mov (.t 47)), none⟩] [4])
  (.ret)))⟩

theorem lf34_ok : cFunc Try.prog Try.f34 [[0, 1], [0, 1, 11], [0, 1, 19], [4], [0, 1, 5], [0, 1, 5, 23], [0, 1, 5, 7, 8], [0, 1, 5, 39], [0, 1, 5], [0, 1], [4]] = some lf34 := by kernel_rfl

/-- squint/squintlaw08.small -/
def lf35 : LFunc := ⟨27, [.tmp 2],
  .seq (.region [⟨some 2, .op (.mov (.c (.bool false))), none⟩] [0])
  (.seq (.region [⟨some 3, .op (.mov (.c (.int .i64 0))), none⟩] [0, 3])
  (.seq (.seq (.region [⟨some 6, .op (.mov (.t 0)), none⟩,
        ⟨some 7, .op (.lenS (.t 6)), none⟩,
        ⟨some 8, .op (.mov (.c (.int .i64 0))), none⟩] [3, 6, 7, 8])
    (.block 0 (.loop (.seq (.region [⟨some 9, .op (.bin .lss .basic (.t 8) (.t 7)), none⟩] [3, 6, 7, 8, 9])
        (.seq (.cond (.t 9)
            (.skip)
            (.exit 0))
        (.seq (.block 1 (.seq (.region [⟨some 10, .op (.idxAddrS 3 (.t 6) (.t 8)), none⟩,
                ⟨some 11, .op (.loadN 3 (.t 10)), none⟩,
                ⟨some 5, .op (.alloc [.string ⟨#[]⟩, .string ⟨#[]⟩, .bool false]), none⟩,
                ⟨none, .op (.store 3 (.t 5) (.t 11)), none⟩] [3, 5, 6, 7, 8])
            (.seq (.region [⟨some 12, .op (.mov (.t 3)), none⟩,
                ⟨some 13, .op (.fieldAddr 0 (.t 5)), none⟩,
                ⟨some 14, .op (.fieldAddr 0 (.t 13)), none⟩,
                ⟨some 15, .op (.load1 (.t 14)), none⟩,
                ⟨some 16, .op (.lenStr (.t 15)), none⟩,
                ⟨some 17, .op (.bin .add .basic (.c (.int .i64 10)) (.t 16)), none⟩,
                ⟨some 18, .op (.fieldAddr 0 (.t 5)), none⟩,
                ⟨some 19, .op (.fieldAddr 1 (.t 18)), none⟩,
                ⟨some 20, .op (.load1 (.t 19)), none⟩,
                ⟨some 21, .op (.lenStr (.t 20)), none⟩,
                ⟨some 22, .op (.bin .add .basic (.t 17) (.t 21)), none⟩,
                ⟨some 23, .op (.bin .add .basic (.t 12) (.t 22)), none⟩,
                ⟨some 3, .op (.mov (.t 23)), none⟩] [3, 6, 7, 8])
            (.seq (.region [⟨some 24, .op (.mov (.t 3)), none⟩,
                ⟨some 25, .op (.bin .gtr .basic (.t 24) (.c (.int .i64 600))), none⟩] [3, 6, 7, 8, 25])
            (.cond (.t 25)
              (.seq (.region [⟨some 2, .op (.mov (.c (.bool false))), none⟩] [2])
              (.ret))
              (.skip))))))
        (.region [⟨some 26, .op (.bin .add .basic (.t 8) (.c (.int .i64 1))), none⟩,
          ⟨some 8, .op (.mov (.t 26)), none⟩] [3, 6, 7, 8])))))))
  (.seq (.region [⟨some 2, .op (.mov (.c (.bool true))), none⟩] [2])
  (.ret))))⟩

theorem lf35_ok : cFunc Try.prog Try.f35 [[0], [0, 3], [3, 6, 7, 8], [3, 6, 7, 8, 9], [3, 5, 6, 7, 8], [3, 6, 7, 8], [3, 6, 7, 8, 25], [2], [3, 6, 7, 8], [2]] = some lf35 := by kernel_rfl

/-- squint/squintlaw08.number -/
def lf38 : LFunc := ⟨4, [.tmp 2],
  .seq (.region [⟨some 2, .op (.mov (.c (.int .i64 0))), none⟩] [0])
  (.seq (.seq (.region [⟨some 3, .op (.mov (.t 0)), none⟩] [3])
    (.cond (.t 3)
      (.seq (.region [⟨some 2, .op (.mov (.c (.int .i64 1))), none⟩] [2])
      (.ret))
      (.skip)))
  (.seq (.region [⟨some 2, .op (.mov (.c (.int .i64 0))), none⟩] [2])
  (.ret)))⟩

theorem lf38_ok : cFunc Try.prog Try.f38 [[0], [3], [2], [2]] = some lf38 := by kernel_rfl

def tabD : List (FuncId × LFunc) := [(3, lf3), (4, lf4), (5, lf5), (6, lf6), (7, lf7), (8, lf8), (9, lf9), (10, lf10), (11, lf11), (12, lf12), (13, lf13), (14, lf14), (17, lf17), (18, lf18), (25, lf25), (26, lf26), (32, lf32), (34, lf34), (35, lf35), (38, lf38)]

theorem tabD_ok : ∀ p ∈ tabD, ∃ fn ks nt, Try.prog.funcs[p.1]? = some fn ∧ cFunc Try.prog fn ks nt = some p.2 := by
  unfold tabD
  refine List.forall_mem_cons.2 ⟨⟨_, _, _, Try.func3, lf3_ok⟩, ?_⟩
  refine List.forall_mem_cons.2 ⟨⟨_, _, _, Try.func4, lf4_ok⟩, ?_⟩
  refine List.forall_mem_cons.2 ⟨⟨_, _, _, Try.func5, lf5_ok⟩, ?_⟩
  refine List.forall_mem_cons.2 ⟨⟨_, _, _, Try.func6, lf6_ok⟩, ?_⟩
  refine List.forall_mem_cons.2 ⟨⟨_, _, _, Try.func7, lf7_ok⟩, ?_⟩
  refine List.forall_mem_cons.2 ⟨⟨_, _, _, Try.func8, lf8_ok⟩, ?_⟩
  refine List.forall_mem_cons.2 ⟨⟨_, _, _, Try.func9, lf9_ok⟩, ?_⟩
  refine List.forall_mem_cons.2 ⟨⟨_, _, _, Try.func10, lf10_ok⟩, ?_⟩
  refine List.forall_mem_cons.2 ⟨⟨_, _, _, Try.func11, lf11_ok⟩, ?_⟩
  refine List.forall_mem_cons.2 ⟨⟨_, _, _, Try.func12, lf12_ok⟩, ?_⟩
  refine List.forall_mem_cons.2 ⟨⟨_, _, _, Try.func13, lf13_ok⟩, ?_⟩
  refine List.forall_mem_cons.2 ⟨⟨_, _, _, Try.func14, lf14_ok⟩, ?_⟩
  refine List.forall_mem_cons.2 ⟨⟨_, _, _, Try.func17, lf17_ok⟩, ?_⟩
  refine List.forall_mem_cons.2 ⟨⟨_, _, _, Try.func18, lf18_ok⟩, ?_⟩
  refine List.forall_mem_cons.2 ⟨⟨_, _, _, Try.func25, lf25_ok⟩, ?_⟩
  refine List.forall_mem_cons.2 ⟨⟨_, _, _, Try.func26, lf26_ok⟩, ?_⟩
  refine List.forall_mem_cons.2 ⟨⟨_, _, _, Try.func32, lf32_ok⟩, ?_⟩
  refine List.forall_mem_cons.2 ⟨⟨_, _, _, Try.func34, lf34_ok⟩, ?_⟩
  refine List.forall_mem_cons.2 ⟨⟨_, _, _, Try.func35, lf35_ok⟩, ?_⟩
  refine List.forall_mem_cons.2 ⟨⟨_, _, _, Try.func38, lf38_ok⟩, ?_⟩
  intro p hp; cases hp

end Go.E1
