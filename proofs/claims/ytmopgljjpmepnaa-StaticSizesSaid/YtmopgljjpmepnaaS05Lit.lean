/-
  The engine's code of some functions, printed by a small program, and that it is what the loaded functions become.
-/
import Derived.Test.YtmopgljjpmepnaaProg
import Derived.Test.YtmopgljjpmepnaaE1Plain
namespace Go.E1
open Go Go.Proofs

/-- squint/squintlaw05.StaticGets -/
def lf3 : LFunc := ⟨58, [.tmp 2],
  .seq (.region [⟨some 2, .op (.mov (.c (.bool false))), none⟩] [0])
  (.seq (.region [⟨some 9, .op (.mov (.t 0)), none⟩,
      ⟨some 10, .call (.c (.func (.func 9) #[] #[])) [.t 9], none⟩,
      ⟨some 8, .op (.mov (.t 10)), none⟩,
      ⟨some 11, .op (.extract 0 (.t 8)), none⟩,
      ⟨some 12, .op (.extract 1 (.t 8)), none⟩,
      ⟨some 3, .op (.alloc [.string ⟨#[]⟩, .string ⟨#[]⟩]), none⟩,
      ⟨none, .op (.store 2 (.t 3) (.t 11)), none⟩,
      ⟨some 4, .op (.mov (.t 12)), none⟩] [0, 3, 4])
  (.seq (.seq (.region [⟨some 13, .op (.mov (.t 0)), none⟩,
        ⟨some 14, .op (.bin .lss .basic (.t 13) (.c (.int .i64 1))), none⟩,
        ⟨some 15, .op (.mov (.t 14)), none⟩,
        ⟨some 16, .op (.mov (.t 0)), some (15, false)⟩,
        ⟨some 17, .op (.bin .gtr .basic (.t 16) (.c (.int .i64 61))), some (15, false)⟩,
        ⟨some 18, .pick (.t 15) (.c (.bool true)) (.t 17), none⟩] [0, 3, 4, 18])
    (.cond (.t 18)
      (.seq (.region [⟨some 19, .op (.mov (.t 4)), none⟩,
          ⟨some 20, .op (.bin .eql .basic (.t 19) (.c (.int .i64 23))), none⟩,
          ⟨some 21, .op (.mov (.t 20)), none⟩,
          ⟨some 22, .op (.loadN 2 (.t 3)), some (21, true)⟩,
          ⟨some 23, .op (.build [.string ⟨#[]⟩, .string ⟨#[]⟩] []), some (21, true)⟩,
          ⟨some 24, .op (.bin .eql (.typed 23) (.t 22) (.t 23)), some (21, true)⟩,
          ⟨some 25, .pick (.t 21) (.t 24) (.c (.bool false)), none⟩,
          ⟨some 26, .op (.mov (.t 25)), none⟩,
          ⟨some 27, .call (.c (.func (.func 10) #[] #[])) [], some (26, true)⟩,
          ⟨some 28, .pick (.t 26) (.t 27) (.c (.bool false)), none⟩,
          ⟨some 2, .op (.mov (.t 28)), none⟩] [2])
      (.ret))
      (.skip)))
  (.seq (.region [⟨some 29, .op (.mov (.t 0)), none⟩,
      ⟨some 30, .call (.c (.func (.func 11) #[] #[])) [.t 29], none⟩,
      ⟨some 5, .op (.alloc [.string ⟨#[]⟩, .string ⟨#[]⟩]), none⟩,
      ⟨none, .op (.store 2 (.t 5) (.t 30)), none⟩] [0, 3, 4, 5])
  (.seq (.region [⟨some 32, .op (.loadN 2 (.t 3)), none⟩,
      ⟨some 33, .call (.c (.func (.func 12) #[] #[])) [.t 32], none⟩,
      ⟨some 31, .op (.mov (.t 33)), none⟩,
      ⟨some 34, .op (.extract 0 (.t 31)), none⟩,
      ⟨some 35, .op (.extract 1 (.t 31)), none⟩,
      ⟨some 6, .op (.mov (.t 34)), none⟩,
      ⟨some 7, .op (.mov (.t 35)), none⟩] [0, 3, 4, 5, 6, 7])
  (.seq (.region [⟨some 36, .op (.mov (.t 4)), none⟩,
      ⟨some 37, .op (.bin .eql .basic (.t 36) (.c (.int .i64 0))), none⟩,
      ⟨some 38, .op (.mov (.t 37)), none⟩,
      ⟨some 39, .op (.loadN 2 (.t 3)), some (38, true)⟩,
      ⟨some 40, .op (.idxAddrA 2 1 (.t 5) (.c (.int .i64 0))), some (38, true)⟩,
      ⟨some 41, .op (.load1 (.t 40)), some (38, true)⟩,
      ⟨some 42, .op (.idxAddrA 2 1 (.t 5) (.c (.int .i64 1))), some (38, true)⟩,
      ⟨some 43, .op (.load1 (.t 42)), some (38, true)⟩,
      ⟨some 44, .op (.build [.string ⟨#[]⟩, .string ⟨#[]⟩] [(0, 1, .t 41), (1, 1, .t 43)]), some (38, true)⟩,
      ⟨some 45, .op (.bin .eql (.typed 23) (.t 39) (.t 44)), some (38, true)⟩,
      ⟨some 46, .pick (.t 38) (.t 45) (.c (.bool false)), none⟩,
      ⟨some 47, .op (.mov (.t 46)), none⟩,
      ⟨some 48, .op (.mov (.t 6)), some (47, true)⟩,
      ⟨some 49, .op (.mov (.t 0)), some (47, true)⟩,
      ⟨some 50, .op (.bin .eql .basic (.t 48) (.t 49)), some (47, true)⟩,
      ⟨some 51, .pick (.t 47) (.t 50) (.c (.bool false)), none⟩,
      ⟨some 52, .op (.mov (.t 51)), none⟩,
      ⟨some 53, .op (.mov (.t 7)), some (52, true)⟩,
      ⟨some 54, .pick (.t 52) (.t 53) (.c (.bool false)), none⟩,
      ⟨some 55, .op (.mov (.t 54)), none⟩,
      ⟨some 56, .call (.c (.func (.func 10) #[] #[])) [], some (55, true)⟩,
      ⟨some 57, .pick (.t 55) (.t 56) (.c (.bool false)), none⟩,
      ⟨some 2, .op (.mov (.t 57)), none⟩] [2])
  (.ret))))))⟩

theorem lf3_ok : cFunc Try.prog Try.f3 [[0], [0, 3, 4], [0, 3, 4, 18], [2], [0, 3, 4, 5], [0, 3, 4, 5, 6, 7], [2]] = some lf3 := by kernel_rfl

/-- squint/squintlaw05.StaticFinds -/
def lf4 : LFunc := ⟨61, [.tmp 2],
  .seq (.region [⟨some 1, .op (.box (.t 0)), none⟩,
      ⟨some 2, .op (.mov (.c (.bool false))), none⟩] [1])
  (.seq (.seq (.region [⟨some 9, .op (.fieldAddr 0 (.t 1)), none⟩,
        ⟨some 10, .op (.load1 (.t 9)), none⟩,
        ⟨some 11, .op (.lenStr (.t 10)), none⟩,
        ⟨some 12, .op (.bin .gtr .basic (.t 11) (.c (.int .i64 500))), none⟩,
        ⟨some 13, .op (.mov (.t 12)), none⟩,
        ⟨some 14, .op (.fieldAddr 1 (.t 1)), some (13, false)⟩,
        ⟨some 15, .op (.load1 (.t 14)), some (13, false)⟩,
        ⟨some 16, .op (.lenStr (.t 15)), some (13, false)⟩,
        ⟨some 17, .op (.bin .gtr .basic (.t 16) (.c (.int .i64 500))), some (13, false)⟩,
        ⟨some 18, .pick (.t 13) (.c (.bool true)) (.t 17), none⟩] [1, 18])
    (.cond (.t 18)
      (.seq (.region [⟨some 19, .call (.c (.func (.func 10) #[] #[])) [], none⟩,
          ⟨some 2, .op (.mov (.t 19)), none⟩] [2])
      (.ret))
      (.skip)))
  (.seq (.region [⟨some 21, .op (.loadN 2 (.t 1)), none⟩,
      ⟨some 22, .call (.c (.func (.func 12) #[] #[])) [.t 21], none⟩,
      ⟨some 20, .op (.mov (.t 22)), none⟩,
      ⟨some 23, .op (.extract 0 (.t 20)), none⟩,
      ⟨some 24, .op (.extract 1 (.t 20)), none⟩,
      ⟨some 3, .op (.mov (.t 23)), none⟩,
      ⟨some 4, .op (.mov (.t 24)), none⟩] [1, 3, 4])
  (.seq (.region [⟨some 26, .op (.fieldAddr 0 (.t 1)), none⟩,
      ⟨some 27, .op (.load1 (.t 26)), none⟩,
      ⟨some 28, .op (.fieldAddr 1 (.t 1)), none⟩,
      ⟨some 29, .op (.load1 (.t 28)), none⟩,
      ⟨some 30, .call (.c (.func (.func 13) #[] #[])) [.t 27, .t 29], none⟩,
      ⟨some 25, .op (.mov (.t 30)), none⟩,
      ⟨some 31, .op (.extract 0 (.t 25)), none⟩,
      ⟨some 32, .op (.extract 1 (.t 25)), none⟩,
      ⟨some 5, .op (.mov (.t 31)), none⟩,
      ⟨some 6, .op (.mov (.t 32)), none⟩] [1, 3, 4, 5, 6])
  (.seq (.region [⟨some 34, .op (.fieldAddr 0 (.t 1)), none⟩,
      ⟨some 35, .op (.load1 (.t 34)), none⟩,
      ⟨some 36, .call (.c (.func (.func 13) #[] #[])) [.t 35, .c (.string ⟨#[]⟩)], none⟩,
      ⟨some 33, .op (.mov (.t 36)), none⟩,
      ⟨some 37, .op (.extract 0 (.t 33)), none⟩,
      ⟨some 38, .op (.extract 1 (.t 33)), none⟩,
      ⟨some 7, .op (.mov (.t 37)), none⟩,
      ⟨some 8, .op (.mov (.t 38)), none⟩] [1, 3, 4, 5, 6, 7])
  (.seq (.dregion [(⟨some 39, .op (.mov (.t 3)), none⟩, 0, 0),
      (⟨some 40, .op (.mov (.t 5)), none⟩, 0, 0),
      (⟨some 41, .op (.bin .eql .basic (.t 39) (.t 40)), none⟩, 0, 0),
      (⟨some 42, .op (.mov (.t 41)), none⟩, 0, 0),
      (⟨some 43, .op (.mov (.t 4)), some (42, true)⟩, 0, 0),
      (⟨some 44, .op (.mov (.t 6)), some (42, true)⟩, 0, 0),
      (⟨some 45, .op (.bin .eql .basic (.t 44) (.c (.int .i64 1))), some (42, true)⟩, 0, 0),
      (⟨some 46, .op (.bin .eql .bool (.t 43) (.t 45)), some (42, true)⟩, 0, 0),
      (⟨some 47, .pick (.t 42) (.t 46) (.c (.bool false)), none⟩, 0, 0),
      (⟨some 48, .op (.mov (.t 47)), none⟩, 0, 0),
      (⟨some 49, .op (.fieldAddr 0 (.t 1)), some (48, true)⟩, 0, 0),
      (⟨some 50, .op (.load1 (.t 49)), some (48, true)⟩, 0, 0),
      (⟨some 51, .call (.c (.func (.func 14) #[] #[])) [.t 50], some (48, true)⟩, 0, 1),
      (⟨some 52, .op (.fieldAddr 0 (.t 1)), some (48, true)⟩, 0, 1),
      (⟨some 53, .op (.load1 (.t 52)), some (48, true)⟩, 0, 1),
      (⟨some 54, .op (.mov (.t 7)), some (48, true)⟩, 0, 1),
      (⟨some 55, .call (.c (.func (.func 15) #[] #[])) [.t 53, .t 54], some (48, true)⟩, 1, 2),
      (⟨some 56, .op (.bin .eql .basic (.t 51) (.t 55)), some (48, true)⟩, 2, 2),
      (⟨some 57, .pick (.t 48) (.t 56) (.c (.bool false)), none⟩, 2, 2),
      (⟨some 58, .op (.mov (.t 57)), none⟩, 2, 2),
      (⟨some 59, .call (.c (.func (.func 10) #[] #[])) [], some (58, true)⟩, 2, 3),
      (⟨some 60, .pick (.t 58) (.t 59) (.c (.bool false)), none⟩, 3, 3),
      (⟨some 2, .op (.mov (.t 60)), none⟩, 3, 3)] [2])
  (.ret))))))⟩

theorem lf4_ok : cFunc Try.prog Try.f4 [[1], [1, 18], [2], [1, 3, 4], [1, 3, 4, 5, 6], [1, 3, 4, 5, 6, 7], [2]] = some lf4 := by kernel_rfl

/-- squint/squintlaw05.StaticNames -/
def lf5 : LFunc := ⟨59, [.tmp 2],
  .seq (.region [⟨some 2, .op (.mov (.c (.bool false))), none⟩] [0])
  (.seq (.region [⟨some 10, .op (.mov (.t 0)), none⟩,
      ⟨some 11, .call (.c (.func (.func 9) #[] #[])) [.t 10], none⟩,
      ⟨some 9, .op (.mov (.t 11)), none⟩,
      ⟨some 12, .op (.extract 0 (.t 9)), none⟩,
      ⟨some 13, .op (.extract 1 (.t 9)), none⟩,
      ⟨some 3, .op (.alloc [.string ⟨#[]⟩, .string ⟨#[]⟩]), none⟩,
      ⟨none, .op (.store 2 (.t 3) (.t 12)), none⟩,
      ⟨some 4, .op (.mov (.t 13)), none⟩] [0, 3, 4])
  (.seq (.seq (.region [⟨some 14, .op (.mov (.t 4)), none⟩,
        ⟨some 15, .op (.bin .neq .basic (.t 14) (.c (.int .i64 0))), none⟩] [0, 3, 15])
    (.cond (.t 15)
      (.seq (.region [⟨some 16, .op (.mov (.t 0)), none⟩,
          ⟨some 17, .op (.bin .lss .basic (.t 16) (.c (.int .i64 1))), none⟩,
          ⟨some 18, .op (.mov (.t 17)), none⟩,
          ⟨some 19, .op (.mov (.t 0)), some (18, false)⟩,
          ⟨some 20, .op (.bin .gtr .basic (.t 19) (.c (.int .i64 61))), some (18, false)⟩,
          ⟨some 21, .pick (.t 18) (.c (.bool true)) (.t 20), none⟩,
          ⟨some 22, .op (.mov (.t 21)), none⟩,
          ⟨some 23, .call (.c (.func (.func 10) #[] #[])) [], some (22, true)⟩,
          ⟨some 24, .pick (.t 22) (.t 23) (.c (.bool false)), none⟩,
          ⟨some 2, .op (.mov (.t 24)), none⟩] [2])
      (.ret))
      (.skip)))
  (.seq (.region [⟨some 25, .op (.fieldAddr 0 (.t 3)), none⟩,
      ⟨some 26, .op (.load1 (.t 25)), none⟩,
      ⟨some 27, .call (.c (.func (.func 14) #[] #[])) [.t 26], none⟩,
      ⟨some 5, .op (.mov (.t 27)), none⟩] [0, 3, 5])
  (.seq (.region [⟨some 29, .op (.mov (.t 5)), none⟩,
      ⟨some 30, .call (.c (.func (.func 9) #[] #[])) [.t 29], none⟩,
      ⟨some 28, .op (.mov (.t 30)), none⟩,
      ⟨some 31, .op (.extract 0 (.t 28)), none⟩,
      ⟨some 32, .op (.extract 1 (.t 28)), none⟩,
      ⟨some 6, .op (.alloc [.string ⟨#[]⟩, .string ⟨#[]⟩]), none⟩,
      ⟨none, .op (.store 2 (.t 6) (.t 31)), none⟩,
      ⟨some 7, .op (.mov (.t 32)), none⟩] [0, 3, 5, 6, 7])
  (.seq (.seq (.region [⟨some 33, .op (.mov (.t 7)), none⟩,
        ⟨some 34, .op (.bin .neq .basic (.t 33) (.c (.int .i64 0))), none⟩,
        ⟨some 35, .op (.mov (.t 34)), none⟩,
        ⟨some 36, .op (.mov (.t 5)), some (35, false)⟩,
        ⟨some 37, .op (.mov (.t 0)), some (35, false)⟩,
        ⟨some 38, .op (.bin .gtr .basic (.t 36) (.t 37)), some (35, false)⟩,
        ⟨some 39, .pick (.t 35) (.c (.bool true)) (.t 38), none⟩,
        ⟨some 40, .op (.mov (.t 39)), none⟩,
        ⟨some 41, .op (.fieldAddr 0 (.t 6)), some (40, false)⟩,
        ⟨some 42, .op (.load1 (.t 41)), some (40, false)⟩,
        ⟨some 43, .op (.fieldAddr 0 (.t 3)), some (40, false)⟩,
        ⟨some 44, .op (.load1 (.t 43)), some (40, false)⟩,
        ⟨some 45, .op (.bin .neq .basic (.t 42) (.t 44)), some (40, false)⟩,
        ⟨some 46, .pick (.t 40) (.c (.bool true)) (.t 45), none⟩] [3, 5, 46])
    (.cond (.t 46)
      (.seq (.region [⟨some 2, .op (.mov (.c (.bool false))), none⟩] [2])
      (.ret))
      (.skip)))
  (.seq (.seq (.region [⟨some 8, .op (.mov (.c (.int .i64 1))), none⟩] [3, 5, 8])
    (.block 0 (.loop (.seq (.seq (.region [⟨some 47, .op (.mov (.t 8)), none⟩,
              ⟨some 48, .op (.mov (.t 5)), none⟩,
              ⟨some 49, .op (.bin .lss .basic (.t 47) (.t 48)), none⟩] [3, 5, 8, 49])
          (.cond (.t 49)
            (.skip)
            (.exit 0)))
        (.seq (.block 1 (.seq (.dregion [(⟨some 52, .op (.mov (.t 8)), none⟩, 0, 0),
                (⟨some 53, .call (.c (.func (.func 11) #[] #[])) [.t 52], none⟩, 0, 1),
                (⟨some 54, .op (.idxA1 2 (.t 53) (.c (.int .i64 0))), none⟩, 1, 1),
                (⟨some 55, .op (.fieldAddr 0 (.t 3)), none⟩, 0, 1),
                (⟨some 56, .op (.load1 (.t 55)), none⟩, 0, 1),
                (⟨some 57, .op (.bin .eql .basic (.t 54) (.t 56)), none⟩, 1, 1)] [3, 5, 8, 57])
            (.cond (.t 57)
              (.seq (.region [⟨some 2, .op (.mov (.c (.bool false))), none⟩] [2])
              (.ret))
              (.skip))))
        (.region [⟨some 50, .op (.mov (.t 8)), none⟩,
          ⟨some 51, .op (.bin .add .basic (.t 50) (.c (.int .i64 1))), none⟩,
          ⟨some 8, .op (.mov (.t 51)), none⟩] [3, 5, 8]))))))
  (.seq (.region [⟨some 58, .call (.c (.func (.func 10) #[] #[])) [], none⟩,
      ⟨some 2, .op (.mov (.t 58)), none⟩] [2])
  (.ret))))))))⟩

theorem lf5_ok : cFunc Try.prog Try.f5 [[0], [0, 3, 4], [0, 3, 15], [2], [0, 3, 5], [0, 3, 5, 6, 7], [3, 5, 46], [2], [3, 5, 8], [3, 5, 8, 49], [3, 5, 8, 57], [2], [3, 5, 8], [2]] = some lf5 := by kernel_rfl

/-- squint/squintlaw05.StaticSizes -/
def lf6 : LFunc := ⟨45, [.tmp 2],
  .seq (.region [⟨some 2, .op (.mov (.c (.bool false))), none⟩] [0])
  (.seq (.seq (.region [⟨some 6, .op (.mov (.t 0)), none⟩,
        ⟨some 7, .op (.lenS (.t 6)), none⟩,
        ⟨some 8, .op (.bin .gtr .basic (.t 7) (.c (.int .i64 100))), none⟩] [0, 8])
    (.cond (.t 8)
      (.seq (.region [⟨some 9, .call (.c (.func (.func 10) #[] #[])) [], none⟩,
          ⟨some 2, .op (.mov (.t 9)), none⟩] [2])
      (.ret))
      (.skip)))
  (.seq (.region [⟨some 3, .op (.mov (.c (.int .i64 0))), none⟩] [0, 3])
  (.seq (.seq (.region [⟨some 10, .op (.mov (.t 0)), none⟩,
        ⟨some 11, .op (.lenS (.t 10)), none⟩,
        ⟨some 12, .op (.mov (.c (.int .i64 0))), none⟩] [0, 3, 10, 11, 12])
    (.block 0 (.loop (.seq (.region [⟨some 13, .op (.bin .lss .basic (.t 12) (.t 11)), none⟩] [0, 3, 10, 11, 12, 13])
        (.seq (.cond (.t 13)
            (.skip)
            (.exit 0))
        (.seq (.block 1 (.seq (.region [⟨some 14, .op (.idxAddrS 2 (.t 10) (.t 12)), none⟩,
                ⟨some 15, .op (.loadN 2 (.t 14)), none⟩,
                ⟨some 5, .op (.alloc [.string ⟨#[]⟩, .string ⟨#[]⟩]), none⟩,
                ⟨none, .op (.store 2 (.t 5) (.t 15)), none⟩] [0, 3, 5, 10, 11, 12])
            (.seq (.seq (.dregion [(⟨some 16, .op (.loadN 2 (.t 5)), none⟩, 0, 0),
                  (⟨some 17, .call (.c (.func (.func 16) #[] #[])) [.t 16], none⟩, 0, 1),
                  (⟨some 18, .op (.fieldAddr 0 (.t 5)), none⟩, 0, 1),
                  (⟨some 19, .op (.load1 (.t 18)), none⟩, 0, 1),
                  (⟨some 20, .op (.lenStr (.t 19)), none⟩, 0, 1),
                  (⟨some 21, .op (.fieldAddr 1 (.t 5)), none⟩, 0, 1),
                  (⟨some 22, .op (.load1 (.t 21)), none⟩, 0, 1),
                  (⟨some 23, .op (.lenStr (.t 22)), none⟩, 0, 1),
                  (⟨some 24, .op (.bin .add .basic (.t 20) (.t 23)), none⟩, 0, 1),
                  (⟨some 25, .op (.bin .add .basic (.t 24) (.c (.int .i64 32))), none⟩, 0, 1),
                  (⟨some 26, .op (.bin .neq .basic (.t 17) (.t 25)), none⟩, 1, 1)] [0, 3, 5, 10, 11, 12, 26])
              (.cond (.t 26)
                (.seq (.region [⟨some 2, .op (.mov (.c (.bool false))), none⟩] [2])
                (.ret))
                (.skip)))
            (.region [⟨some 27, .op (.mov (.t 3)), none⟩,
              ⟨some 28, .op (.fieldAddr 0 (.t 5)), none⟩,
              ⟨some 29, .op (.load1 (.t 28)), none⟩,
              ⟨some 30, .op (.lenStr (.t 29)), none⟩,
              ⟨some 31, .op (.fieldAddr 1 (.t 5)), none⟩,
              ⟨some 32, .op (.load1 (.t 31)), none⟩,
              ⟨some 33, .op (.lenStr (.t 32)), none⟩,
              ⟨some 34, .op (.bin .add .basic (.t 30) (.t 33)), none⟩,
              ⟨some 35, .op (.bin .add .basic (.t 34) (.c (.int .i64 32))), none⟩,
              ⟨some 36, .op (.bin .add .basic (.t 27) (.t 35)), none⟩,
              ⟨some 3, .op (.mov (.t 36)), none⟩] [0, 3, 10, 11, 12]))))
        (.region [⟨some 37, .op (.bin .add .basic (.t 12) (.c (.int .i64 1))), none⟩,
          ⟨some 12, .op (.mov (.t 37)), none⟩] [0, 3, 10, 11, 12])))))))
  (.seq (.region [⟨some 38, .op (.mov (.t 0)), none⟩,
      ⟨some 39, .call (.c (.func (.func 17) #[] #[])) [.t 38], none⟩,
      ⟨some 40, .op (.mov (.t 3)), none⟩,
      ⟨some 41, .op (.bin .eql .basic (.t 39) (.t 40)), none⟩,
      ⟨some 42, .op (.mov (.t 41)), none⟩,
      ⟨some 43, .call (.c (.func (.func 10) #[] #[])) [], some (42, true)⟩,
      ⟨some 44, .pick (.t 42) (.t 43) (.c (.bool false)), none⟩,
      ⟨some 2, .op (.mov (.t 44)), none⟩] [2])
  (.ret)))))⟩

theorem lf6_ok : cFunc Try.prog Try.f6 [[0], [0, 8], [2], [0, 3], [0, 3, 10, 11, 12], [0, 3, 10, 11, 12, 13], [0, 3, 5, 10, 11, 12], [0, 3, 5, 10, 11, 12, 26], [2], [0, 3, 10, 11, 12], [0, 3, 10, 11, 12], [2]] = some lf6 := by kernel_rfl

/-- squint/static.Get -/
def lf9 : LFunc := ⟨15, [.cellN 2 2, .tmp 3],
  .seq (.region [⟨some 2, .op (.alloc [.string ⟨#[]⟩, .string ⟨#[]⟩]), none⟩,
      ⟨some 3, .op (.mov (.c (.int .i64 0))), none⟩] [0, 2])
  (.seq (.seq (.region [⟨some 4, .op (.mov (.t 0)), none⟩,
        ⟨some 5, .op (.bin .lss .basic (.t 4) (.c (.int .i64 1))), none⟩,
        ⟨some 6, .op (.mov (.t 5)), none⟩,
        ⟨some 7, .op (.mov (.t 0)), some (6, false)⟩,
        ⟨some 8, .op (.bin .gtr .basic (.t 7) (.c (.int .i64 61))), some (6, false)⟩,
        ⟨some 9, .pick (.t 6) (.c (.bool true)) (.t 8), none⟩] [0, 2, 9])
    (.cond (.t 9)
      (.seq (.region [⟨some 10, .op (.build [.string ⟨#[]⟩, .string ⟨#[]⟩] []), none⟩,
          ⟨none, .op (.store 2 (.t 2) (.t 10)), none⟩,
          ⟨some 3, .op (.mov (.c (.int .i64 23))), none⟩] [2, 3])
      (.ret))
      (.skip)))
  (.seq (.region [⟨some 11, .call (.c (.func (.func 26) #[] #[])) [], none⟩,
      ⟨some 12, .op (.mov (.t 0)), none⟩,
      ⟨some 13, .op (.bin .sub .basic (.t 12) (.c (.int .i64 1))), none⟩,
      ⟨some 14, .op (.idxAN 61 2 (.t 11) (.t 13)), none⟩,
      ⟨none, .op (.store 2 (.t 2) (.t 14)), none⟩,
      ⟨some 3, .op (.mov (.c (.int .i64 0))), none⟩] [2, 3])
  (.ret)))⟩

theorem lf9_ok : cFunc Try.prog Try.f9 [[0, 2], [0, 2, 9], [2, 3], [2, 3]] = some lf9 := by kernel_rfl

/-- squint/squintlaw05.awake -/
def lf10 : LFunc := ⟨48, [.tmp 0],
  .seq (.region [⟨some 0, .op (.mov (.c (.bool false))), none⟩] [])
  (.seq (.region [⟨some 8, .call (.c (.func (.func 9) #[] #[])) [.c (.int .i64 2)], none⟩,
      ⟨some 7, .op (.mov (.t 8)), none⟩,
      ⟨some 9, .op (.extract 0 (.t 7)), none⟩,
      ⟨some 10, .op (.extract 1 (.t 7)), none⟩,
      ⟨some 1, .op (.alloc [.string ⟨#[]⟩, .string ⟨#[]⟩]), none⟩,
      ⟨none, .op (.store 2 (.t 1) (.t 9)), none⟩,
      ⟨some 2, .op (.mov (.t 10)), none⟩] [1, 2])
  (.seq (.region [⟨some 12, .op (.build [.string ⟨#[]⟩, .string ⟨#[]⟩] [(0, 1, .c (.string ⟨#[58, 115, 116, 97, 116, 117, 115]⟩)), (1, 1, .c (.string ⟨#[52, 49, 56]⟩))]), none⟩,
      ⟨some 13, .call (.c (.func (.func 12) #[] #[])) [.t 12], none⟩,
      ⟨some 11, .op (.mov (.t 13)), none⟩,
      ⟨some 14, .op (.extract 0 (.t 11)), none⟩,
      ⟨some 15, .op (.extract 1 (.t 11)), none⟩,
      ⟨some 3, .op (.mov (.t 14)), none⟩,
      ⟨some 4, .op (.mov (.t 15)), none⟩] [1, 2, 3, 4])
  (.seq (.region [⟨some 17, .call (.c (.func (.func 9) #[] #[])) [.c (.int .i64 62)], none⟩,
      ⟨some 16, .op (.mov (.t 17)), none⟩,
      ⟨some 18, .op (.extract 0 (.t 16)), none⟩,
      ⟨some 19, .op (.extract 1 (.t 16)), none⟩,
      ⟨some 5, .op (.alloc [.string ⟨#[]⟩, .string ⟨#[]⟩]), none⟩,
      ⟨none, .op (.store 2 (.t 5) (.t 18)), none⟩,
      ⟨some 6, .op (.mov (.t 19)), none⟩] [1, 2, 3, 4, 6])
  (.seq (.region [⟨some 20, .op (.loadN 2 (.t 1)), none⟩,
      ⟨some 21, .op (.build [.string ⟨#[]⟩, .string ⟨#[]⟩] [(0, 1, .c (.string ⟨#[58, 109, 101, 116, 104, 111, 100]⟩)), (1, 1, .c (.string ⟨#[71, 69, 84]⟩))]), none⟩,
      ⟨some 22, .op (.bin .eql (.typed 23) (.t 20) (.t 21)), none⟩,
      ⟨some 23, .op (.mov (.t 22)), none⟩,
      ⟨some 24, .op (.mov (.t 2)), some (23, true)⟩,
      ⟨some 25, .op (.bin .eql .basic (.t 24) (.c (.int .i64 0))), some (23, true)⟩,
      ⟨some 26, .pick (.t 23) (.t 25) (.c (.bool false)), none⟩,
      ⟨some 27, .op (.mov (.t 26)), none⟩,
      ⟨some 28, .op (.mov (.t 3)), some (27, true)⟩,
      ⟨some 29, .op (.bin .eql .basic (.t 28) (.c (.int .i64 8))), some (27, true)⟩,
      ⟨some 30, .pick (.t 27) (.t 29) (.c (.bool false)), none⟩,
      ⟨some 31, .op (.mov (.t 30)), none⟩,
      ⟨some 32, .op (.mov (.t 4)), some (31, true)⟩,
      ⟨some 33, .op (.un .not (.t 32)), some (31, true)⟩,
      ⟨some 34, .pick (.t 31) (.t 33) (.c (.bool false)), none⟩,
      ⟨some 35, .op (.mov (.t 34)), none⟩,
      ⟨some 36, .op (.mov (.t 6)), some (35, true)⟩,
      ⟨some 37, .op (.bin .eql .basic (.t 36) (.c (.int .i64 23))), some (35, true)⟩,
      ⟨some 38, .pick (.t 35) (.t 37) (.c (.bool false)), none⟩,
      ⟨some 39, .op (.mov (.t 38)), none⟩,
      ⟨some 40, .op (.loadN 2 (.t 1)), some (39, true)⟩,
      ⟨some 41, .call (.c (.func (.func 16) #[] #[])) [.t 40], some (39, true)⟩,
      ⟨some 42, .op (.bin .eql .basic (.t 41) (.c (.int .i64 42))), some (39, true)⟩,
      ⟨some 43, .pick (.t 39) (.t 42) (.c (.bool false)), none⟩,
      ⟨some 44, .op (.mov (.t 43)), none⟩,
      ⟨some 45, .call (.c (.func (.func 14) #[] #[])) [.c (.string ⟨#[118, 105, 97]⟩)], some (44, true)⟩,
      ⟨some 46, .op (.bin .eql .basic (.t 45) (.c (.int .i64 60))), some (44, true)⟩,
      ⟨some 47, .pick (.t 44) (.t 46) (.c (.bool false)), none⟩,
      ⟨some 0, .op (.mov (.t 47)), none⟩] [0])
  (.ret)))))⟩

theorem lf10_ok : cFunc Try.prog Try.f10 [[], [1, 2], [1, 2, 3, 4], [1, 2, 3, 4, 6], [0]] = some lf10 := by kernel_rfl

/-- squint/squintref05.Entry -/
def lf11 : LFunc := ⟨70, [.cellN 2 2],
  .seq (.region [⟨some 2, .op (.alloc [.string ⟨#[]⟩, .string ⟨#[]⟩]), none⟩] [0, 2])
  (.seq (.region [⟨some 4, .op (.build [.string ⟨#[]⟩, .string ⟨#[]⟩] [(0, 1, .c (.string ⟨#[58, 97, 117, 116, 104, 111, 114, 105, 116, 121]⟩)), (1, 1, .c (.string ⟨#[]⟩))]), none⟩,
      ⟨some 5, .op (.build [.string ⟨#[]⟩, .string ⟨#[]⟩] [(0, 1, .c (.string ⟨#[58, 109, 101, 116, 104, 111, 100]⟩)), (1, 1, .c (.string ⟨#[71, 69, 84]⟩))]), none⟩,
      ⟨some 6, .op (.build [.string ⟨#[]⟩, .string ⟨#[]⟩] [(0, 1, .c (.string ⟨#[58, 109, 101, 116, 104, 111, 100]⟩)), (1, 1, .c (.string ⟨#[80, 79, 83, 84]⟩))]), none⟩,
      ⟨some 7, .op (.build [.string ⟨#[]⟩, .string ⟨#[]⟩] [(0, 1, .c (.string ⟨#[58, 112, 97, 116, 104]⟩)), (1, 1, .c (.string ⟨#[47]⟩))]), none⟩,
      ⟨some 8, .op (.build [.string ⟨#[]⟩, .string ⟨#[]⟩] [(0, 1, .c (.string ⟨#[58, 112, 97, 116, 104]⟩)), (1, 1, .c (.string ⟨#[47, 105, 110, 100, 101, 120, 46, 104, 116, 109, 108]⟩))]), none⟩,
      ⟨some 9, .op (.build [.string ⟨#[]⟩, .string ⟨#[]⟩] [(0, 1, .c (.string ⟨#[58, 115, 99, 104, 101, 109, 101]⟩)), (1, 1, .c (.string ⟨#[104, 116, 116, 112]⟩))]), none⟩,
      ⟨some 10, .op (.build [.string ⟨#[]⟩, .string ⟨#[]⟩] [(0, 1, .c (.string ⟨#[58, 115, 99, 104, 101, 109, 101]⟩)), (1, 1, .c (.string ⟨#[104, 116, 116, 112, 115]⟩))]), none⟩,
      ⟨some 11, .op (.build [.string ⟨#[]⟩, .string ⟨#[]⟩] [(0, 1, .c (.string ⟨#[58, 115, 116, 97, 116, 117, 115]⟩)), (1, 1, .c (.string ⟨#[50, 48, 48]⟩))]), none⟩,
      ⟨some 12, .op (.build [.string ⟨#[]⟩, .string ⟨#[]⟩] [(0, 1, .c (.string ⟨#[58, 115, 116, 97, 116, 117, 115]⟩)), (1, 1, .c (.string ⟨#[50, 48, 52]⟩))]), none⟩,
      ⟨some 13, .op (.build [.string ⟨#[]⟩, .string ⟨#[]⟩] [(0, 1, .c (.string ⟨#[58, 115, 116, 97, 116, 117, 115]⟩)), (1, 1, .c (.string ⟨#[50, 48, 54]⟩))]), none⟩,
      ⟨some 14, .op (.build [.string ⟨#[]⟩, .string ⟨#[]⟩] [(0, 1, .c (.string ⟨#[58, 115, 116, 97, 116, 117, 115]⟩)), (1, 1, .c (.string ⟨#[51, 48, 52]⟩))]), none⟩,
      ⟨some 15, .op (.build [.string ⟨#[]⟩, .string ⟨#[]⟩] [(0, 1, .c (.string ⟨#[58, 115, 116, 97, 116, 117, 115]⟩)), (1, 1, .c (.string ⟨#[52, 48, 48]⟩))]), none⟩,
      ⟨some 16, .op (.build [.string ⟨#[]⟩, .string ⟨#[]⟩] [(0, 1, .c (.string ⟨#[58, 115, 116, 97, 116, 117, 115]⟩)), (1, 1, .c (.string ⟨#[52, 48, 52]⟩))]), none⟩,
      ⟨some 17, .op (.build [.string ⟨#[]⟩, .string ⟨#[]⟩] [(0, 1, .c (.string ⟨#[58, 115, 116, 97, 116, 117, 115]⟩)), (1, 1, .c (.string ⟨#[53, 48, 48]⟩))]), none⟩,
      ⟨some 18, .op (.build [.string ⟨#[]⟩, .string ⟨#[]⟩] [(0, 1, .c (.string ⟨#[97, 99, 99, 101, 112, 116, 45, 99, 104, 97, 114, 115, 101, 116]⟩)), (1, 1, .c (.string ⟨#[]⟩))]), none⟩,
      ⟨some 19, .op (.build [.string ⟨#[]⟩, .string ⟨#[]⟩] [(0, 1, .c (.string ⟨#[97, 99, 99, 101, 112, 116, 45, 101, 110, 99, 111, 100, 105, 110, 103]⟩)), (1, 1, .c (.string ⟨#[103, 122, 105, 112, 44, 32, 100, 101, 102, 108, 97, 116, 101]⟩))]), none⟩,
      ⟨some 20, .op (.build [.string ⟨#[]⟩, .string ⟨#[]⟩] [(0, 1, .c (.string ⟨#[97, 99, 99, 101, 112, 116, 45, 108, 97, 110, 103, 117, 97, 103, 101]⟩)), (1, 1, .c (.string ⟨#[]⟩))]), none⟩,
      ⟨some 21, .op (.build [.string ⟨#[]⟩, .string ⟨#[]⟩] [(0, 1, .c (.string ⟨#[97, 99, 99, 101, 112, 116, 45, 114, 97, 110, 103, 101, 115]⟩)), (1, 1, .c (.string ⟨#[]⟩))]), none⟩,
      ⟨some 22, .op (.build [.string ⟨#[]⟩, .string ⟨#[]⟩] [(0, 1, .c (.string ⟨#[97, 99, 99, 101, 112, 116]⟩)), (1, 1, .c (.string ⟨#[]⟩))]), none⟩,
      ⟨some 23, .op (.build [.string ⟨#[]⟩, .string ⟨#[]⟩] [(0, 1, .c (.string ⟨#[97, 99, 99, 101, 115, 115, 45, 99, 111, 110, 116, 114, 111, 108, 45, 97, 108, 108, 111, 119, 45, 111, 114, 105, 103, 105, 110]⟩)), (1, 1, .c (.string ⟨#[]⟩))]), none⟩,
      ⟨some 24, .op (.build [.string ⟨#[]⟩, .string ⟨#[]⟩] [(0, 1, .c (.string ⟨#[97, 103, 101]⟩)), (1, 1, .c (.string ⟨#[]⟩))]), none⟩,
      ⟨some 25, .op (.build [.string ⟨#[]⟩, .string ⟨#[]⟩] [(0, 1, .c (.string ⟨#[97, 108, 108, 111, 119]⟩)), (1, 1, .c (.string ⟨#[]⟩))]), none⟩,
      ⟨some 26, .op (.build [.string ⟨#[]⟩, .string ⟨#[]⟩] [(0, 1, .c (.string ⟨#[97, 117, 116, 104, 111, 114, 105, 122, 97, 116, 105, 111, 110]⟩)), (1, 1, .c (.string ⟨#[]⟩))]), none⟩,
      ⟨some 27, .op (.build [.string ⟨#[]⟩, .string ⟨#[]⟩] [(0, 1, .c (.string ⟨#[99, 97, 99, 104, 101, 45, 99, 111, 110, 116, 114, 111, 108]⟩)), (1, 1, .c (.string ⟨#[]⟩))]), none⟩,
      ⟨some 28, .op (.build [.string ⟨#[]⟩, .string ⟨#[]⟩] [(0, 1, .c (.string ⟨#[99, 111, 110, 116, 101, 110, 116, 45, 100, 105, 115, 112, 111, 115, 105, 116, 105, 111, 110]⟩)), (1, 1, .c (.string ⟨#[]⟩))]), none⟩,
      ⟨some 29, .op (.build [.string ⟨#[]⟩, .string ⟨#[]⟩] [(0, 1, .c (.string ⟨#[99, 111, 110, 116, 101, 110, 116, 45, 101, 110, 99, 111, 100, 105, 110, 103]⟩)), (1, 1, .c (.string ⟨#[]⟩))]), none⟩,
      ⟨some 30, .op (.build [.string ⟨#[]⟩, .string ⟨#[]⟩] [(0, 1, .c (.string ⟨#[99, 111, 110, 116, 101, 110, 116, 45, 108, 97, 110, 103, 117, 97, 103, 101]⟩)), (1, 1, .c (.string ⟨#[]⟩))]), none⟩,
      ⟨some 31, .op (.build [.string ⟨#[]⟩, .string ⟨#[]⟩] [(0, 1, .c (.string ⟨#[99, 111, 110, 116, 101, 110, 116, 45, 108, 101, 110, 103, 116, 104]⟩)), (1, 1, .c (.string ⟨#[]⟩))]), none⟩,
      ⟨some 32, .op (.build [.string ⟨#[]⟩, .string ⟨#[]⟩] [(0, 1, .c (.string ⟨#[99, 111, 110, 116, 101, 110, 116, 45, 108, 111, 99, 97, 116, 105, 111, 110]⟩)), (1, 1, .c (.string ⟨#[]⟩))]), none⟩,
      ⟨some 33, .op (.build [.string ⟨#[]⟩, .string ⟨#[]⟩] [(0, 1, .c (.string ⟨#[99, 111, 110, 116, 101, 110, 116, 45, 114, 97, 110, 103, 101]⟩)), (1, 1, .c (.string ⟨#[]⟩))]), none⟩,
      ⟨some 34, .op (.build [.string ⟨#[]⟩, .string ⟨#[]⟩] [(0, 1, .c (.string ⟨#[99, 111, 110, 116, 101, 110, 116, 45, 116, 121, 112, 101]⟩)), (1, 1, .c (.string ⟨#[]⟩))]), none⟩,
      ⟨some 35, .op (.build [.string ⟨#[]⟩, .string ⟨#[]⟩] [(0, 1, .c (.string ⟨#[99, 111, 111, 107, 105, 101]⟩)), (1, 1, .c (.string ⟨#[]⟩))]), none⟩,
      ⟨some 36, .op (.build [.string ⟨#[]⟩, .string ⟨#[]⟩] [(0, 1, .c (.string ⟨#[100, 97, 116, 101]⟩)), (1, 1, .c (.string ⟨#[]⟩))]), none⟩,
      ⟨some 37, .op (.build [.string ⟨#[]⟩, .string ⟨#[]⟩] [(0, 1, .c (.string ⟨#[101, 116, 97, 103]⟩)), (1, 1, .c (.string ⟨#[]⟩))]), none⟩,
      ⟨some 38, .op (.build [.string ⟨#[]⟩, .string ⟨#[]⟩] [(0, 1, .c (.string ⟨#[101, 120, 112, 101, 99, 116]⟩)), (1, 1, .c (.string ⟨#[]⟩))]), none⟩,
      ⟨some 39, .op (.build [.string ⟨#[]⟩, .string ⟨#[]⟩] [(0, 1, .c (.string ⟨#[101, 120, 112, 105, 114, 101, 115]⟩)), (1, 1, .c (.string ⟨#[]⟩))]), none⟩,
      ⟨some 40, .op (.build [.string ⟨#[]⟩, .string ⟨#[]⟩] [(0, 1, .c (.string ⟨#[102, 114, 111, 109]⟩)), (1, 1, .c (.string ⟨#[]⟩))]), none⟩,
      ⟨some 41, .op (.build [.string ⟨#[]⟩, .string ⟨#[]⟩] [(0, 1, .c (.string ⟨#[104, 111, 115, 116]⟩)), (1, 1, .c (.string ⟨#[]⟩))]), none⟩,
      ⟨some 42, .op (.build [.string ⟨#[]⟩, .string ⟨#[]⟩] [(0, 1, .c (.string ⟨#[105, 102, 45, 109, 97, 116, 99, 104]⟩)), (1, 1, .c (.string ⟨#[]⟩))]), none⟩,
      ⟨some 43, .op (.build [.string ⟨#[]⟩, .string ⟨#[]⟩] [(0, 1, .c (.string ⟨#[105, 102, 45, 109, 111, 100, 105, 102, 105, 101, 100, 45, 115, 105, 110, 99, 101]⟩)), (1, 1, .c (.string ⟨#[]⟩))]), none⟩,
      ⟨some 44, .op (.build [.string ⟨#[]⟩, .string ⟨#[]⟩] [(0, 1, .c (.string ⟨#[105, 102, 45, 110, 111, 110, 101, 45, 109, 97, 116, 99, 104]⟩)), (1, 1, .c (.string ⟨#[]⟩))]), none⟩,
      ⟨some 45, .op (.build [.string ⟨#[]⟩, .string ⟨#[]⟩] [(0, 1, .c (.string ⟨#[105, 102, 45, 114, 97, 110, 103, 101]⟩)), (1, 1, .c (.string ⟨#[]⟩))]), none⟩,
      ⟨some 46, .op (.build [.string ⟨#[]⟩, .string ⟨#[]⟩] [(0, 1, .c (.string ⟨#[105, 102, 45, 117, 110, 109, 111, 100, 105, 102, 105, 101, 100, 45, 115, 105, 110, 99, 101]⟩)), (1, 1, .c (.string ⟨#[]⟩))]), none⟩,
      ⟨some 47, .op (.build [.string ⟨#[]⟩, .string ⟨#[]⟩] [(0, 1, .c (.string ⟨#[108, 97, 115, 116, 45, 109, 111, 100, 105, 102, 105, 101, 100]⟩)), (1, 1, .c (.string ⟨#[]⟩))]), none⟩,
      ⟨some 48, .op (.build [.string ⟨#[]⟩, .string ⟨#[]⟩] [(0, 1, .c (.string ⟨#[108, 105, 110, 107]⟩)), (1, 1, .c (.string ⟨#[]⟩))]), none⟩,
      ⟨some 49, .op (.build [.string ⟨#[]⟩, .string ⟨#[]⟩] [(0, 1, .c (.string ⟨#[108, 111, 99, 97, 116, 105, 111, 110]⟩)), (1, 1, .c (.string ⟨#[]⟩))]), none⟩,
      ⟨some 50, .op (.build [.string ⟨#[]⟩, .string ⟨#[]⟩] [(0, 1, .c (.string ⟨#[109, 97, 120, 45, 102, 111, 114, 119, 97, 114, 100, 115]⟩)), (1, 1, .c (.string ⟨#[]⟩))]), none⟩,
      ⟨some 51, .op (.build [.string ⟨#[]⟩, .string ⟨#[]⟩] [(0, 1, .c (.string ⟨#[112, 114, 111, 120, 121, 45, 97, 117, 116, 104, 101, 110, 116, 105, 99, 97, 116, 101]⟩)), (1, 1, .c (.string ⟨#[]⟩))]), none⟩,
      ⟨some 52, .op (.build [.string ⟨#[]⟩, .string ⟨#[]⟩] [(0, 1, .c (.string ⟨#[112, 114, 111, 120, 121, 45, 97, 117, 116, 104, 111, 114, 105, 122, 97, 116, 105, 111, 110]⟩)), (1, 1, .c (.string ⟨#[]⟩))]), none⟩,
      ⟨some 53, .op (.build [.string ⟨#[]⟩, .string ⟨#[]⟩] [(0, 1, .c (.string ⟨#[114, 97, 110, 103, 101]⟩)), (1, 1, .c (.string ⟨#[]⟩))]), none⟩,
      ⟨some 54, .op (.build [.string ⟨#[]⟩, .string ⟨#[]⟩] [(0, 1, .c (.string ⟨#[114, 101, 102, 101, 114, 101, 114]⟩)), (1, 1, .c (.string ⟨#[]⟩))]), none⟩,
      ⟨some 55, .op (.build [.string ⟨#[]⟩, .string ⟨#[]⟩] [(0, 1, .c (.string ⟨#[114, 101, 102, 114, 101, 115, 104]⟩)), (1, 1, .c (.string ⟨#[]⟩))]), none⟩,
      ⟨some 56, .op (.build [.string ⟨#[]⟩, .string ⟨#[]⟩] [(0, 1, .c (.string ⟨#[114, 101, 116, 114, 121, 45, 97, 102, 116, 101, 114]⟩)), (1, 1, .c (.string ⟨#[]⟩))]), none⟩,
      ⟨some 57, .op (.build [.string ⟨#[]⟩, .string ⟨#[]⟩] [(0, 1, .c (.string ⟨#[115, 101, 114, 118, 101, 114]⟩)), (1, 1, .c (.string ⟨#[]⟩))]), none⟩,
      ⟨some 58, .op (.build [.string ⟨#[]⟩, .string ⟨#[]⟩] [(0, 1, .c (.string ⟨#[115, 101, 116, 45, 99, 111, 111, 107, 105, 101]⟩)), (1, 1, .c (.string ⟨#[]⟩))]), none⟩,
      ⟨some 59, .op (.build [.string ⟨#[]⟩, .string ⟨#[]⟩] [(0, 1, .c (.string ⟨#[115, 116, 114, 105, 99, 116, 45, 116, 114, 97, 110, 115, 112, 111, 114, 116, 45, 115, 101, 99, 117, 114, 105, 116, 121]⟩)), (1, 1, .c (.string ⟨#[]⟩))]), none⟩,
      ⟨some 60, .op (.build [.string ⟨#[]⟩, .string ⟨#[]⟩] [(0, 1, .c (.string ⟨#[116, 114, 97, 110, 115, 102, 101, 114, 45, 101, 110, 99, 111, 100, 105, 110, 103]⟩)), (1, 1, .c (.string ⟨#[]⟩))]), none⟩,
      ⟨some 61, .op (.build [.string ⟨#[]⟩, .string ⟨#[]⟩] [(0, 1, .c (.string ⟨#[117, 115, 101, 114, 45, 97, 103, 101, 110, 116]⟩)), (1, 1, .c (.string ⟨#[]⟩))]), none⟩,
      ⟨some 62, .op (.build [.string ⟨#[]⟩, .string ⟨#[]⟩] [(0, 1, .c (.string ⟨#[118, 97, 114, 121]⟩)), (1, 1, .c (.string ⟨#[]⟩))]), none⟩,
      ⟨some 63, .op (.build [.string ⟨#[]⟩, .string ⟨#[]⟩] [(0, 1, .c (.string ⟨#[118, 105, 97]⟩)), (1, 1, .c (.string ⟨#[]⟩))]), none⟩,
      ⟨some 64, .op (.build [.string ⟨#[]⟩, .string ⟨#[]⟩] [(0, 1, .c (.string ⟨#[119, 119, 119, 45, 97, 117, 116, 104, 101, 110, 116, 105, 99, 97, 116, 101]⟩)), (1, 1, .c (.string ⟨#[]⟩))]), none⟩,
      ⟨some 65, .op (.build [.string ⟨#[]⟩, .string ⟨#[]⟩, .string ⟨#[]⟩, .string ⟨#[]⟩, .string ⟨#[]⟩, .string ⟨#[]⟩, .string ⟨#[]⟩, .string ⟨#[]⟩, .string ⟨#[]⟩, .string ⟨#[]⟩, .string ⟨#[]⟩, .string ⟨#[]⟩, .string ⟨#[]⟩, .string ⟨#[]⟩, .string ⟨#[]⟩, .string ⟨#[]⟩, .string ⟨#[]⟩, .string ⟨#[]⟩, .string ⟨#[]⟩, .string ⟨#[]⟩, .string ⟨#[]⟩, .string ⟨#[]⟩, .string ⟨#[]⟩, .string ⟨#[]⟩, .string ⟨#[]⟩, .string ⟨#[]⟩, .string ⟨#[]⟩, .string ⟨#[]⟩, .string ⟨#[]⟩, .string ⟨#[]⟩, .string ⟨#[]⟩, .string ⟨#[]⟩, .string ⟨#[]⟩, .string ⟨#[]⟩, .string ⟨#[]⟩, .string ⟨#[]⟩, .string ⟨#[]⟩, .string ⟨#[]⟩, .string ⟨#[]⟩, .string ⟨#[]⟩, .string ⟨#[]⟩, .string ⟨#[]⟩, .string ⟨#[]⟩, .string ⟨#[]⟩, .string ⟨#[]⟩, .string ⟨#[]⟩, .string ⟨#[]⟩, .string ⟨#[]⟩, .string ⟨#[]⟩, .string ⟨#[]⟩, .string ⟨#[]⟩, .string ⟨#[]⟩, .string ⟨#[]⟩, .string ⟨#[]⟩, .string ⟨#[]⟩, .string ⟨#[]⟩, .string ⟨#[]⟩, .string ⟨#[]⟩, .string ⟨#[]⟩, .string ⟨#[]⟩, .string ⟨#[]⟩, .string ⟨#[]⟩, .string ⟨#[]⟩, .string ⟨#[]⟩, .string ⟨#[]⟩, .string ⟨#[]⟩, .string ⟨#[]⟩, .string ⟨#[]⟩, .string ⟨#[]⟩, .string ⟨#[]⟩, .string ⟨#[]⟩, .string ⟨#[]⟩, .string ⟨#[]⟩, .string ⟨#[]⟩, .string ⟨#[]⟩, .string ⟨#[]⟩, .string ⟨#[]⟩, .string ⟨#[]⟩, .string ⟨#[]⟩, .string ⟨#[]⟩, .string ⟨#[]⟩, .string ⟨#[]⟩, .string ⟨#[]⟩, .string ⟨#[]⟩, .string ⟨#[]⟩, .string ⟨#[]⟩, .string ⟨#[]⟩, .string ⟨#[]⟩, .string ⟨#[]⟩, .string ⟨#[]⟩, .string ⟨#[]⟩, .string ⟨#[]⟩, .string ⟨#[]⟩, .string ⟨#[]⟩, .string ⟨#[]⟩, .string ⟨#[]⟩, .string ⟨#[]⟩, .string ⟨#[]⟩, .string ⟨#[]⟩, .string ⟨#[]⟩, .string ⟨#[]⟩, .string ⟨#[]⟩, .string ⟨#[]⟩, .string ⟨#[]⟩, .string ⟨#[]⟩, .string ⟨#[]⟩, .string ⟨#[]⟩, .string ⟨#[]⟩, .string ⟨#[]⟩, .string ⟨#[]⟩, .string ⟨#[]⟩, .string ⟨#[]⟩, .string ⟨#[]⟩, .string ⟨#[]⟩, .string ⟨#[]⟩, .string ⟨#[]⟩, .string ⟨#[]⟩, .string ⟨#[]⟩, .string ⟨#[]⟩, .string ⟨#[]⟩, .string ⟨#[]⟩, .string ⟨#[]⟩] [(0, 2, .t 4), (2, 2, .t 5), (4, 2, .t 6), (6, 2, .t 7), (8, 2, .t 8), (10, 2, .t 9), (12, 2, .t 10), (14, 2, .t 11), (16, 2, .t 12), (18, 2, .t 13), (20, 2, .t 14), (22, 2, .t 15), (24, 2, .t 16), (26, 2, .t 17), (28, 2, .t 18), (30, 2, .t 19), (32, 2, .t 20), (34, 2, .t 21), (36, 2, .t 22), (38, 2, .t 23), (40, 2, .t 24), (42, 2, .t 25), (44, 2, .t 26), (46, 2, .t 27), (48, 2, .t 28), (50, 2, .t 29), (52, 2, .t 30), (54, 2, .t 31), (56, 2, .t 32), (58, 2, .t 33), (60, 2, .t 34), (62, 2, .t 35), (64, 2, .t 36), (66, 2, .t 37), (68, 2, .t 38), (70, 2, .t 39), (72, 2, .t 40), (74, 2, .t 41), (76, 2, .t 42), (78, 2, .t 43), (80, 2, .t 44), (82, 2, .t 45), (84, 2, .t 46), (86, 2, .t 47), (88, 2, .t 48), (90, 2, .t 49), (92, 2, .t 50), (94, 2, .t 51), (96, 2, .t 52), (98, 2, .t 53), (100, 2, .t 54), (102, 2, .t 55), (104, 2, .t 56), (106, 2, .t 57), (108, 2, .t 58), (110, 2, .t 59), (112, 2, .t 60), (114, 2, .t 61), (116, 2, .t 62), (118, 2, .t 63), (120, 2, .t 64)]), none⟩,
      ⟨some 3, .op (.alloc [.string ⟨#[]⟩, .string ⟨#[]⟩, .string ⟨#[]⟩, .string ⟨#[]⟩, .string ⟨#[]⟩, .string ⟨#[]⟩, .string ⟨#[]⟩, .string ⟨#[]⟩, .string ⟨#[]⟩, .string ⟨#[]⟩, .string ⟨#[]⟩, .string ⟨#[]⟩, .string ⟨#[]⟩, .string ⟨#[]⟩, .string ⟨#[]⟩, .string ⟨#[]⟩, .string ⟨#[]⟩, .string ⟨#[]⟩, .string ⟨#[]⟩, .string ⟨#[]⟩, .string ⟨#[]⟩, .string ⟨#[]⟩, .string ⟨#[]⟩, .string ⟨#[]⟩, .string ⟨#[]⟩, .string ⟨#[]⟩, .string ⟨#[]⟩, .string ⟨#[]⟩, .string ⟨#[]⟩, .string ⟨#[]⟩, .string ⟨#[]⟩, .string ⟨#[]⟩, .string ⟨#[]⟩, .string ⟨#[]⟩, .string ⟨#[]⟩, .string ⟨#[]⟩, .string ⟨#[]⟩, .string ⟨#[]⟩, .string ⟨#[]⟩, .string ⟨#[]⟩, .string ⟨#[]⟩, .string ⟨#[]⟩, .string ⟨#[]⟩, .string ⟨#[]⟩, .string ⟨#[]⟩, .string ⟨#[]⟩, .string ⟨#[]⟩, .string ⟨#[]⟩, .string ⟨#[]⟩, .string ⟨#[]⟩, .string ⟨#[]⟩, .string ⟨#[]⟩, .string ⟨#[]⟩, .string ⟨#[]⟩, .string ⟨#[]⟩, .string ⟨#[]⟩, .string ⟨#[]⟩, .string ⟨#[]⟩, .string ⟨#[]⟩, .string ⟨#[]⟩, .string ⟨#[]⟩, .string ⟨#[]⟩, .string ⟨#[]⟩, .string ⟨#[]⟩, .string ⟨#[]⟩, .string ⟨#[]⟩, .string ⟨#[]⟩, .string ⟨#[]⟩, .string ⟨#[]⟩, .string ⟨#[]⟩, .string ⟨#[]⟩, .string ⟨#[]⟩, .string ⟨#[]⟩, .string ⟨#[]⟩, .string ⟨#[]⟩, .string ⟨#[]⟩, .string ⟨#[]⟩, .string ⟨#[]⟩, .string ⟨#[]⟩, .string ⟨#[]⟩, .string ⟨#[]⟩, .string ⟨#[]⟩, .string ⟨#[]⟩, .string ⟨#[]⟩, .string ⟨#[]⟩, .string ⟨#[]⟩, .string ⟨#[]⟩, .string ⟨#[]⟩, .string ⟨#[]⟩, .string ⟨#[]⟩, .string ⟨#[]⟩, .string ⟨#[]⟩, .string ⟨#[]⟩, .string ⟨#[]⟩, .string ⟨#[]⟩, .string ⟨#[]⟩, .string ⟨#[]⟩, .string ⟨#[]⟩, .string ⟨#[]⟩, .string ⟨#[]⟩, .string ⟨#[]⟩, .string ⟨#[]⟩, .string ⟨#[]⟩, .string ⟨#[]⟩, .string ⟨#[]⟩, .string ⟨#[]⟩, .string ⟨#[]⟩, .string ⟨#[]⟩, .string ⟨#[]⟩, .string ⟨#[]⟩, .string ⟨#[]⟩, .string ⟨#[]⟩, .string ⟨#[]⟩, .string ⟨#[]⟩, .string ⟨#[]⟩, .string ⟨#[]⟩, .string ⟨#[]⟩, .string ⟨#[]⟩, .string ⟨#[]⟩, .string ⟨#[]⟩, .string ⟨#[]⟩, .string ⟨#[]⟩]), none⟩,
      ⟨none, .op (.store 122 (.t 3) (.t 65)), none⟩] [0, 2, 3])
  (.seq (.region [⟨some 66, .op (.mov (.t 0)), none⟩,
      ⟨some 67, .op (.bin .sub .basic (.t 66) (.c (.int .i64 1))), none⟩,
      ⟨some 68, .op (.idxAddrA 61 2 (.t 3) (.t 67)), none⟩,
      ⟨some 69, .op (.loadN 2 (.t 68)), none⟩,
      ⟨none, .op (.store 2 (.t 2) (.t 69)), none⟩] [2])
  (.ret)))⟩

theorem lf11_ok : cFunc Try.prog Try.f11 [[0, 2], [0, 2, 3], [2]] = some lf11 := by kernel_rfl

/-- squint/static.Find -/
def lf12 : LFunc := ⟨13, [.tmp 2, .tmp 3],
  .seq (.region [⟨some 1, .op (.box (.t 0)), none⟩,
      ⟨some 2, .op (.mov (.c (.int .i64 0))), none⟩,
      ⟨some 3, .op (.mov (.c (.bool false))), none⟩] [1])
  (.seq (.seq (.region [⟨some 5, .op (.makeFunc (.func 28) [.t 1]), none⟩,
        ⟨some 6, .call (.c (.func (.func 27) #[] #[])) [.t 5], none⟩,
        ⟨some 4, .op (.mov (.t 6)), none⟩] [1, 4])
    (.seq (.region [⟨some 7, .op (.mov (.t 4)), none⟩,
        ⟨some 8, .op (.bin .gtr .basic (.t 7) (.c (.int .i64 0))), none⟩] [1, 4, 8])
    (.cond (.t 8)
      (.seq (.region [⟨some 9, .op (.mov (.t 4)), none⟩,
          ⟨some 2, .op (.mov (.t 9)), none⟩,
          ⟨some 3, .op (.mov (.c (.bool true))), none⟩] [2, 3])
      (.ret))
      (.skip))))
  (.seq (.region [⟨some 10, .op (.fieldAddr 0 (.t 1)), none⟩,
      ⟨some 11, .op (.load1 (.t 10)), none⟩,
      ⟨some 12, .call (.c (.func (.func 14) #[] #[])) [.t 11], none⟩,
      ⟨some 2, .op (.mov (.t 12)), none⟩,
      ⟨some 3, .op (.mov (.c (.bool false))), none⟩] [2, 3])
  (.ret)))⟩

theorem lf12_ok : cFunc Try.prog Try.f12 [[1], [1, 4], [1, 4, 8], [2, 3], [2, 3]] = some lf12 := by kernel_rfl

/-- squint/squintref05.Find -/
def lf13 : LFunc := ⟨37, [.tmp 4, .tmp 5],
  .seq (.region [⟨some 4, .op (.mov (.c (.int .i64 0))), none⟩,
      ⟨some 5, .op (.mov (.c (.int .i64 0))), none⟩] [0, 1])
  (.seq (.region [⟨some 6, .op (.mov (.c (.int .i64 0))), none⟩] [0, 1, 6])
  (.seq (.seq (.region [⟨some 7, .op (.mov (.c (.int .i64 61))), none⟩] [0, 1, 6, 7])
    (.block 0 (.loop (.seq (.seq (.region [⟨some 9, .op (.mov (.t 7)), none⟩,
              ⟨some 10, .op (.bin .geq .basic (.t 9) (.c (.int .i64 1))), none⟩] [0, 1, 6, 7, 10])
          (.cond (.t 10)
            (.skip)
            (.exit 0)))
        (.seq (.block 1 (.seq (.region [⟨some 13, .op (.mov (.t 7)), none⟩,
                ⟨some 14, .call (.c (.func (.func 11) #[] #[])) [.t 13], none⟩,
                ⟨some 15, .op (.idxA1 2 (.t 14) (.c (.int .i64 0))), none⟩,
                ⟨some 16, .op (.mov (.t 0)), none⟩,
                ⟨some 17, .op (.bin .eql .basic (.t 15) (.t 16)), none⟩] [0, 1, 6, 7, 17])
            (.cond (.t 17)
              (.region [⟨some 18, .op (.mov (.t 7)), none⟩,
                ⟨some 6, .op (.mov (.t 18)), none⟩] [0, 1, 6, 7])
              (.skip))))
        (.region [⟨some 11, .op (.mov (.t 7)), none⟩,
          ⟨some 12, .op (.bin .sub .basic (.t 11) (.c (.int .i64 1))), none⟩,
          ⟨some 7, .op (.mov (.t 12)), none⟩] [0, 1, 6, 7]))))))
  (.seq (.seq (.region [⟨some 8, .op (.mov (.c (.int .i64 1))), none⟩] [0, 1, 6, 8])
    (.block 2 (.loop (.seq (.seq (.region [⟨some 19, .op (.mov (.t 8)), none⟩,
              ⟨some 20, .op (.bin .leq .basic (.t 19) (.c (.int .i64 61))), none⟩] [0, 1, 6, 8, 20])
          (.cond (.t 20)
            (.skip)
            (.exit 2)))
        (.seq (.block 3 (.seq (.region [⟨some 23, .op (.mov (.t 8)), none⟩,
                ⟨some 24, .call (.c (.func (.func 11) #[] #[])) [.t 23], none⟩,
                ⟨some 25, .op (.idxA1 2 (.t 24) (.c (.int .i64 0))), none⟩,
                ⟨some 26, .op (.mov (.t 0)), none⟩,
                ⟨some 27, .op (.bin .eql .basic (.t 25) (.t 26)), none⟩,
                ⟨some 28, .op (.mov (.t 27)), none⟩,
                ⟨some 29, .op (.mov (.t 8)), some (28, true)⟩,
                ⟨some 30, .call (.c (.func (.func 11) #[] #[])) [.t 29], some (28, true)⟩,
                ⟨some 31, .op (.idxA1 2 (.t 30) (.c (.int .i64 1))), some (28, true)⟩,
                ⟨some 32, .op (.mov (.t 1)), some (28, true)⟩,
                ⟨some 33, .op (.bin .eql .basic (.t 31) (.t 32)), some (28, true)⟩,
                ⟨some 34, .pick (.t 28) (.t 33) (.c (.bool false)), none⟩] [0, 1, 6, 8, 34])
            (.cond (.t 34)
              (.seq (.region [⟨some 35, .op (.mov (.t 8)), none⟩,
                  ⟨some 4, .op (.mov (.t 35)), none⟩,
                  ⟨some 5, .op (.mov (.c (.int .i64 1))), none⟩] [4, 5])
              (.ret))
              (.skip))))
        (.region [⟨some 21, .op (.mov (.t 8)), none⟩,
          ⟨some 22, .op (.bin .add .basic (.t 21) (.c (.int .i64 1))), none⟩,
          ⟨some 8, .op (.mov (.t 22)), none⟩] [0, 1, 6, 8]))))))
  (.seq (.region [⟨some 36, .op (.mov (.t 6)), none⟩,
      ⟨some 4, .op (.mov (.t 36)), none⟩,
      ⟨some 5, .op (.mov (.c (.int .i64 0))), none⟩] [4, 5])
  (.ret)))))⟩

theorem lf13_ok : cFunc Try.prog Try.f13 [[0, 1], [0, 1, 6], [0, 1, 6, 7], [0, 1, 6, 7, 10], [0, 1, 6, 7, 17], [0, 1, 6, 7], [0, 1, 6, 7], [0, 1, 6, 8], [0, 1, 6, 8, 20], [0, 1, 6, 8, 34], [4, 5], [0, 1, 6, 8], [4, 5]] = some lf13 := by kernel_rfl

/-- squint/static.Name -/
def lf14 : LFunc := ⟨5, [.tmp 2],
  .seq (.region [⟨some 1, .op (.box (.t 0)), none⟩,
      ⟨some 2, .op (.mov (.c (.int .i64 0))), none⟩] [1])
  (.seq (.region [⟨some 3, .op (.makeFunc (.func 29) [.t 1]), none⟩,
      ⟨some 4, .call (.c (.func (.func 27) #[] #[])) [.t 3], none⟩,
      ⟨some 2, .op (.mov (.t 4)), none⟩] [2])
  (.ret))⟩

theorem lf14_ok : cFunc Try.prog Try.f14 [[1], [2]] = some lf14 := by kernel_rfl

/-- squint/squintlaw05.first -/
def lf15 : LFunc := ⟨18, [.tmp 4],
  .seq (.region [⟨some 4, .op (.mov (.c (.int .i64 0))), none⟩] [0, 1])
  (.seq (.seq (.region [⟨some 5, .op (.mov (.c (.int .i64 1))), none⟩] [0, 1, 5])
    (.block 0 (.loop (.seq (.seq (.region [⟨some 6, .op (.mov (.t 5)), none⟩,
              ⟨some 7, .op (.mov (.t 1)), none⟩,
              ⟨some 8, .op (.bin .lss .basic (.t 6) (.t 7)), none⟩] [0, 1, 5, 8])
          (.cond (.t 8)
            (.skip)
            (.exit 0)))
        (.seq (.block 1 (.seq (.region [⟨some 11, .op (.mov (.t 5)), none⟩,
                ⟨some 12, .call (.c (.func (.func 11) #[] #[])) [.t 11], none⟩,
                ⟨some 13, .op (.idxA1 2 (.t 12) (.c (.int .i64 0))), none⟩,
                ⟨some 14, .op (.mov (.t 0)), none⟩,
                ⟨some 15, .op (.bin .eql .basic (.t 13) (.t 14)), none⟩] [0, 1, 5, 15])
            (.cond (.t 15)
              (.seq (.region [⟨some 16, .op (.mov (.t 5)), none⟩,
                  ⟨some 4, .op (.mov (.t 16)), none⟩] [4])
              (.ret))
              (.skip))))
        (.region [⟨some 9, .op (.mov (.t 5)), none⟩,
          ⟨some 10, .op (.bin .add .basic (.t 9) (.c (.int .i64 1))), none⟩,
          ⟨some 5, .op (.mov (.t 10)), none⟩] [0, 1, 5]))))))
  (.seq (.region [⟨some 17, .op (.mov (.t 1)), none⟩,
      ⟨some 4, .op (.mov (.t 17)), none⟩] [4])
  (.ret)))⟩

theorem lf15_ok : cFunc Try.prog Try.f15 [[0, 1], [0, 1, 5], [0, 1, 5, 8], [0, 1, 5, 15], [4], [0, 1, 5], [4]] = some lf15 := by kernel_rfl

/-- (squint/static.Field).Size -/
def lf16 : LFunc := ⟨11, [.tmp 2],
  .seq (.region [⟨some 1, .op (.box (.t 0)), none⟩,
      ⟨some 2, .op (.mov (.c (.int .i64 0))), none⟩] [1])
  (.seq (.region [⟨some 3, .op (.fieldAddr 0 (.t 1)), none⟩,
      ⟨some 4, .op (.load1 (.t 3)), none⟩,
      ⟨some 5, .op (.lenStr (.t 4)), none⟩,
      ⟨some 6, .op (.fieldAddr 1 (.t 1)), none⟩,
      ⟨some 7, .op (.load1 (.t 6)), none⟩,
      ⟨some 8, .op (.lenStr (.t 7)), none⟩,
      ⟨some 9, .op (.bin .add .basic (.t 5) (.t 8)), none⟩,
      ⟨some 10, .op (.bin .add .basic (.t 9) (.c (.int .i64 32))), none⟩,
      ⟨some 2, .op (.mov (.t 10)), none⟩] [2])
  (.ret))⟩

theorem lf16_ok : cFunc Try.prog Try.f16 [[1], [2]] = some lf16 := by kernel_rfl

/-- squint/static.Sum -/
def lf17 : LFunc := ⟨18, [.tmp 2],
  .seq (.region [⟨some 2, .op (.mov (.c (.int .i64 0))), none⟩] [0])
  (.seq (.region [⟨some 3, .op (.mov (.c (.int .i64 0))), none⟩] [0, 3])
  (.seq (.seq (.region [⟨some 6, .op (.mov (.t 0)), none⟩,
        ⟨some 7, .op (.lenS (.t 6)), none⟩,
        ⟨some 8, .op (.mov (.c (.int .i64 0))), none⟩] [3, 6, 7, 8])
    (.block 0 (.loop (.seq (.region [⟨some 9, .op (.bin .lss .basic (.t 8) (.t 7)), none⟩] [3, 6, 7, 8, 9])
        (.seq (.cond (.t 9)
            (.skip)
            (.exit 0))
        (.seq (.block 1 (.seq (.region [⟨some 10, .op (.idxAddrS 2 (.t 6) (.t 8)), none⟩,
                ⟨some 11, .op (.loadN 2 (.t 10)), none⟩,
                ⟨some 5, .op (.alloc [.string ⟨#[]⟩, .string ⟨#[]⟩]), none⟩,
                ⟨none, .op (.store 2 (.t 5) (.t 11)), none⟩] [3, 5, 6, 7, 8])
            (.region [⟨some 12, .op (.mov (.t 3)), none⟩,
              ⟨some 13, .op (.loadN 2 (.t 5)), none⟩,
              ⟨some 14, .call (.c (.func (.func 16) #[] #[])) [.t 13], none⟩,
              ⟨some 15, .op (.bin .add .basic (.t 12) (.t 14)), none⟩,
              ⟨some 3, .op (.mov (.t 15)), none⟩] [3, 6, 7, 8])))
        (.region [⟨some 16, .op (.bin .add .basic (.t 8) (.c (.int .i64 1))), none⟩,
          ⟨some 8, .op (.mov (.t 16)), none⟩] [3, 6, 7, 8])))))))
  (.seq (.region [⟨some 17, .op (.mov (.t 3)), none⟩,
      ⟨some 2, .op (.mov (.t 17)), none⟩] [2])
  (.ret))))⟩

theorem lf17_ok : cFunc Try.prog Try.f17 [[0], [0, 3], [3, 6, 7, 8], [3, 6, 7, 8, 9], [3, 5, 6, 7, 8], [3, 6, 7, 8], [3, 6, 7, 8], [2]] = some lf17 := by kernel_rfl

/-- squint/static.entries -/
def lf26 : LFunc := ⟨63, [.cellN 0 122],
  .seq (.region [⟨some 0, .op (.alloc [.string ⟨#[]⟩, .string ⟨#[]⟩, .string ⟨#[]⟩, .string ⟨#[]⟩, .string ⟨#[]⟩, .string ⟨#[]⟩, .string ⟨#[]⟩, .string ⟨#[]⟩, .string ⟨#[]⟩, .string ⟨#[]⟩, .string ⟨#[]⟩, .string ⟨#[]⟩, .string ⟨#[]⟩, .string ⟨#[]⟩, .string ⟨#[]⟩, .string ⟨#[]⟩, .string ⟨#[]⟩, .string ⟨#[]⟩, .string ⟨#[]⟩, .string ⟨#[]⟩, .string ⟨#[]⟩, .string ⟨#[]⟩, .string ⟨#[]⟩, .string ⟨#[]⟩, .string ⟨#[]⟩, .string ⟨#[]⟩, .string ⟨#[]⟩, .string ⟨#[]⟩, .string ⟨#[]⟩, .string ⟨#[]⟩, .string ⟨#[]⟩, .string ⟨#[]⟩, .string ⟨#[]⟩, .string ⟨#[]⟩, .string ⟨#[]⟩, .string ⟨#[]⟩, .string ⟨#[]⟩, .string ⟨#[]⟩, .string ⟨#[]⟩, .string ⟨#[]⟩, .string ⟨#[]⟩, .string ⟨#[]⟩, .string ⟨#[]⟩, .string ⟨#[]⟩, .string ⟨#[]⟩, .string ⟨#[]⟩, .string ⟨#[]⟩, .string ⟨#[]⟩, .string ⟨#[]⟩, .string ⟨#[]⟩, .string ⟨#[]⟩, .string ⟨#[]⟩, .string ⟨#[]⟩, .string ⟨#[]⟩, .string ⟨#[]⟩, .string ⟨#[]⟩, .string ⟨#[]⟩, .string ⟨#[]⟩, .string ⟨#[]⟩, .string ⟨#[]⟩, .string ⟨#[]⟩, .string ⟨#[]⟩, .string ⟨#[]⟩, .string ⟨#[]⟩, .string ⟨#[]⟩, .string ⟨#[]⟩, .string ⟨#[]⟩, .string ⟨#[]⟩, .string ⟨#[]⟩, .string ⟨#[]⟩, .string ⟨#[]⟩, .string ⟨#[]⟩, .string ⟨#[]⟩, .string ⟨#[]⟩, .string ⟨#[]⟩, .string ⟨#[]⟩, .string ⟨#[]⟩, .string ⟨#[]⟩, .string ⟨#[]⟩, .string ⟨#[]⟩, .string ⟨#[]⟩, .string ⟨#[]⟩, .string ⟨#[]⟩, .string ⟨#[]⟩, .string ⟨#[]⟩, .string ⟨#[]⟩, .string ⟨#[]⟩, .string ⟨#[]⟩, .string ⟨#[]⟩, .string ⟨#[]⟩, .string ⟨#[]⟩, .string ⟨#[]⟩, .string ⟨#[]⟩, .string ⟨#[]⟩, .string ⟨#[]⟩, .string ⟨#[]⟩, .string ⟨#[]⟩, .string ⟨#[]⟩, .string ⟨#[]⟩, .string ⟨#[]⟩, .string ⟨#[]⟩, .string ⟨#[]⟩, .string ⟨#[]⟩, .string ⟨#[]⟩, .string ⟨#[]⟩, .string ⟨#[]⟩, .string ⟨#[]⟩, .string ⟨#[]⟩, .string ⟨#[]⟩, .string ⟨#[]⟩, .string ⟨#[]⟩, .string ⟨#[]⟩, .string ⟨#[]⟩, .string ⟨#[]⟩, .string ⟨#[]⟩, .string ⟨#[]⟩, .string ⟨#[]⟩, .string ⟨#[]⟩, .string ⟨#[]⟩, .string ⟨#[]⟩, .string ⟨#[]⟩, .string ⟨#[]⟩]), none⟩] [0])
  (.seq (.region [⟨some 1, .op (.build [.string ⟨#[]⟩, .string ⟨#[]⟩] [(0, 1, .c (.string ⟨#[58, 97, 117, 116, 104, 111, 114, 105, 116, 121]⟩)), (1, 1, .c (.string ⟨#[]⟩))]), none⟩,
      ⟨some 2, .op (.build [.string ⟨#[]⟩, .string ⟨#[]⟩] [(0, 1, .c (.string ⟨#[58, 109, 101, 116, 104, 111, 100]⟩)), (1, 1, .c (.string ⟨#[71, 69, 84]⟩))]), none⟩,
      ⟨some 3, .op (.build [.string ⟨#[]⟩, .string ⟨#[]⟩] [(0, 1, .c (.string ⟨#[58, 109, 101, 116, 104, 111, 100]⟩)), (1, 1, .c (.string ⟨#[80, 79, 83, 84]⟩))]), none⟩,
      ⟨some 4, .op (.build [.string ⟨#[]⟩, .string ⟨#[]⟩] [(0, 1, .c (.string ⟨#[58, 112, 97, 116, 104]⟩)), (1, 1, .c (.string ⟨#[47]⟩))]), none⟩,
      ⟨some 5, .op (.build [.string ⟨#[]⟩, .string ⟨#[]⟩] [(0, 1, .c (.string ⟨#[58, 112, 97, 116, 104]⟩)), (1, 1, .c (.string ⟨#[47, 105, 110, 100, 101, 120, 46, 104, 116, 109, 108]⟩))]), none⟩,
      ⟨some 6, .op (.build [.string ⟨#[]⟩, .string ⟨#[]⟩] [(0, 1, .c (.string ⟨#[58, 115, 99, 104, 101, 109, 101]⟩)), (1, 1, .c (.string ⟨#[104, 116, 116, 112]⟩))]), none⟩,
      ⟨some 7, .op (.build [.string ⟨#[]⟩, .string ⟨#[]⟩] [(0, 1, .c (.string ⟨#[58, 115, 99, 104, 101, 109, 101]⟩)), (1, 1, .c (.string ⟨#[104, 116, 116, 112, 115]⟩))]), none⟩,
      ⟨some 8, .op (.build [.string ⟨#[]⟩, .string ⟨#[]⟩] [(0, 1, .c (.string ⟨#[58, 115, 116, 97, 116, 117, 115]⟩)), (1, 1, .c (.string ⟨#[50, 48, 48]⟩))]), none⟩,
      ⟨some 9, .op (.build [.string ⟨#[]⟩, .string ⟨#[]⟩] [(0, 1, .c (.string ⟨#[58, 115, 116, 97, 116, 117, 115]⟩)), (1, 1, .c (.string ⟨#[50, 48, 52]⟩))]), none⟩,
      ⟨some 10, .op (.build [.string ⟨#[]⟩, .string ⟨#[]⟩] [(0, 1, .c (.string ⟨#[58, 115, 116, 97, 116, 117, 115]⟩)), (1, 1, .c (.string ⟨#[50, 48, 54]⟩))]), none⟩,
      ⟨some 11, .op (.build [.string ⟨#[]⟩, .string ⟨#[]⟩] [(0, 1, .c (.string ⟨#[58, 115, 116, 97, 116, 117, 115]⟩)), (1, 1, .c (.string ⟨#[51, 48, 52]⟩))]), none⟩,
      ⟨some 12, .op (.build [.string ⟨#[]⟩, .string ⟨#[]⟩] [(0, 1, .c (.string ⟨#[58, 115, 116, 97, 116, 117, 115]⟩)), (1, 1, .c (.string ⟨#[52, 48, 48]⟩))]), none⟩,
      ⟨some 13, .op (.build [.string ⟨#[]⟩, .string ⟨#[]⟩] [(0, 1, .c (.string ⟨#[58, 115, 116, 97, 116, 117, 115]⟩)), (1, 1, .c (.string ⟨#[52, 48, 52]⟩))]), none⟩,
      ⟨some 14, .op (.build [.string ⟨#[]⟩, .string ⟨#[]⟩] [(0, 1, .c (.string ⟨#[58, 115, 116, 97, 116, 117, 115]⟩)), (1, 1, .c (.string ⟨#[53, 48, 48]⟩))]), none⟩,
      ⟨some 15, .op (.build [.string ⟨#[]⟩, .string ⟨#[]⟩] [(0, 1, .c (.string ⟨#[97, 99, 99, 101, 112, 116, 45, 99, 104, 97, 114, 115, 101, 116]⟩)), (1, 1, .c (.string ⟨#[]⟩))]), none⟩,
      ⟨some 16, .op (.build [.string ⟨#[]⟩, .string ⟨#[]⟩] [(0, 1, .c (.string ⟨#[97, 99, 99, 101, 112, 116, 45, 101, 110, 99, 111, 100, 105, 110, 103]⟩)), (1, 1, .c (.string ⟨#[103, 122, 105, 112, 44, 32, 100, 101, 102, 108, 97, 116, 101]⟩))]), none⟩,
      ⟨some 17, .op (.build [.string ⟨#[]⟩, .string ⟨#[]⟩] [(0, 1, .c (.string ⟨#[97, 99, 99, 101, 112, 116, 45, 108, 97, 110, 103, 117, 97, 103, 101]⟩)), (1, 1, .c (.string ⟨#[]⟩))]), none⟩,
      ⟨some 18, .op (.build [.string ⟨#[]⟩, .string ⟨#[]⟩] [(0, 1, .c (.string ⟨#[97, 99, 99, 101, 112, 116, 45, 114, 97, 110, 103, 101, 115]⟩)), (1, 1, .c (.string ⟨#[]⟩))]), none⟩,
      ⟨some 19, .op (.build [.string ⟨#[]⟩, .string ⟨#[]⟩] [(0, 1, .c (.string ⟨#[97, 99, 99, 101, 112, 116]⟩)), (1, 1, .c (.string ⟨#[]⟩))]), none⟩,
      ⟨some 20, .op (.build [.string ⟨#[]⟩, .string ⟨#[]⟩] [(0, 1, .c (.string ⟨#[97, 99, 99, 101, 115, 115, 45, 99, 111, 110, 116, 114, 111, 108, 45, 97, 108, 108, 111, 119, 45, 111, 114, 105, 103, 105, 110]⟩)), (1, 1, .c (.string ⟨#[]⟩))]), none⟩,
      ⟨some 21, .op (.build [.string ⟨#[]⟩, .string ⟨#[]⟩] [(0, 1, .c (.string ⟨#[97, 103, 101]⟩)), (1, 1, .c (.string ⟨#[]⟩))]), none⟩,
      ⟨some 22, .op (.build [.string ⟨#[]⟩, .string ⟨#[]⟩] [(0, 1, .c (.string ⟨#[97, 108, 108, 111, 119]⟩)), (1, 1, .c (.string ⟨#[]⟩))]), none⟩,
      ⟨some 23, .op (.build [.string ⟨#[]⟩, .string ⟨#[]⟩] [(0, 1, .c (.string ⟨#[97, 117, 116, 104, 111, 114, 105, 122, 97, 116, 105, 111, 110]⟩)), (1, 1, .c (.string ⟨#[]⟩))]), none⟩,
      ⟨some 24, .op (.build [.string ⟨#[]⟩, .string ⟨#[]⟩] [(0, 1, .c (.string ⟨#[99, 97, 99, 104, 101, 45, 99, 111, 110, 116, 114, 111, 108]⟩)), (1, 1, .c (.string ⟨#[]⟩))]), none⟩,
      ⟨some 25, .op (.build [.string ⟨#[]⟩, .string ⟨#[]⟩] [(0, 1, .c (.string ⟨#[99, 111, 110, 116, 101, 110, 116, 45, 100, 105, 115, 112, 111, 115, 105, 116, 105, 111, 110]⟩)), (1, 1, .c (.string ⟨#[]⟩))]), none⟩,
      ⟨some 26, .op (.build [.string ⟨#[]⟩, .string ⟨#[]⟩] [(0, 1, .c (.string ⟨#[99, 111, 110, 116, 101, 110, 116, 45, 101, 110, 99, 111, 100, 105, 110, 103]⟩)), (1, 1, .c (.string ⟨#[]⟩))]), none⟩,
      ⟨some 27, .op (.build [.string ⟨#[]⟩, .string ⟨#[]⟩] [(0, 1, .c (.string ⟨#[99, 111, 110, 116, 101, 110, 116, 45, 108, 97, 110, 103, 117, 97, 103, 101]⟩)), (1, 1, .c (.string ⟨#[]⟩))]), none⟩,
      ⟨some 28, .op (.build [.string ⟨#[]⟩, .string ⟨#[]⟩] [(0, 1, .c (.string ⟨#[99, 111, 110, 116, 101, 110, 116, 45, 108, 101, 110, 103, 116, 104]⟩)), (1, 1, .c (.string ⟨#[]⟩))]), none⟩,
      ⟨some 29, .op (.build [.string ⟨#[]⟩, .string ⟨#[]⟩] [(0, 1, .c (.string ⟨#[99, 111, 110, 116, 101, 110, 116, 45, 108, 111, 99, 97, 116, 105, 111, 110]⟩)), (1, 1, .c (.string ⟨#[]⟩))]), none⟩,
      ⟨some 30, .op (.build [.string ⟨#[]⟩, .string ⟨#[]⟩] [(0, 1, .c (.string ⟨#[99, 111, 110, 116, 101, 110, 116, 45, 114, 97, 110, 103, 101]⟩)), (1, 1, .c (.string ⟨#[]⟩))]), none⟩,
      ⟨some 31, .op (.build [.string ⟨#[]⟩, .string ⟨#[]⟩] [(0, 1, .c (.string ⟨#[99, 111, 110, 116, 101, 110, 116, 45, 116, 121, 112, 101]⟩)), (1, 1, .c (.string ⟨#[]⟩))]), none⟩,
      ⟨some 32, .op (.build [.string ⟨#[]⟩, .string ⟨#[]⟩] [(0, 1, .c (.string ⟨#[99, 111, 111, 107, 105, 101]⟩)), (1, 1, .c (.string ⟨#[]⟩))]), none⟩,
      ⟨some 33, .op (.build [.string ⟨#[]⟩, .string ⟨#[]⟩] [(0, 1, .c (.string ⟨#[100, 97, 116, 101]⟩)), (1, 1, .c (.string ⟨#[]⟩))]), none⟩,
      ⟨some 34, .op (.build [.string ⟨#[]⟩, .string ⟨#[]⟩] [(0, 1, .c (.string ⟨#[101, 116, 97, 103]⟩)), (1, 1, .c (.string ⟨#[]⟩))]), none⟩,
      ⟨some 35, .op (.build [.string ⟨#[]⟩, .string ⟨#[]⟩] [(0, 1, .c (.string ⟨#[101, 120, 112, 101, 99, 116]⟩)), (1, 1, .c (.string ⟨#[]⟩))]), none⟩,
      ⟨some 36, .op (.build [.string ⟨#[]⟩, .string ⟨#[]⟩] [(0, 1, .c (.string ⟨#[101, 120, 112, 105, 114, 101, 115]⟩)), (1, 1, .c (.string ⟨#[]⟩))]), none⟩,
      ⟨some 37, .op (.build [.string ⟨#[]⟩, .string ⟨#[]⟩] [(0, 1, .c (.string ⟨#[102, 114, 111, 109]⟩)), (1, 1, .c (.string ⟨#[]⟩))]), none⟩,
      ⟨some 38, .op (.build [.string ⟨#[]⟩, .string ⟨#[]⟩] [(0, 1, .c (.string ⟨#[104, 111, 115, 116]⟩)), (1, 1, .c (.string ⟨#[]⟩))]), none⟩,
      ⟨some 39, .op (.build [.string ⟨#[]⟩, .string ⟨#[]⟩] [(0, 1, .c (.string ⟨#[105, 102, 45, 109, 97, 116, 99, 104]⟩)), (1, 1, .c (.string ⟨#[]⟩))]), none⟩,
      ⟨some 40, .op (.build [.string ⟨#[]⟩, .string ⟨#[]⟩] [(0, 1, .c (.string ⟨#[105, 102, 45, 109, 111, 100, 105, 102, 105, 101, 100, 45, 115, 105, 110, 99, 101]⟩)), (1, 1, .c (.string ⟨#[]⟩))]), none⟩,
      ⟨some 41, .op (.build [.string ⟨#[]⟩, .string ⟨#[]⟩] [(0, 1, .c (.string ⟨#[105, 102, 45, 110, 111, 110, 101, 45, 109, 97, 116, 99, 104]⟩)), (1, 1, .c (.string ⟨#[]⟩))]), none⟩,
      ⟨some 42, .op (.build [.string ⟨#[]⟩, .string ⟨#[]⟩] [(0, 1, .c (.string ⟨#[105, 102, 45, 114, 97, 110, 103, 101]⟩)), (1, 1, .c (.string ⟨#[]⟩))]), none⟩,
      ⟨some 43, .op (.build [.string ⟨#[]⟩, .string ⟨#[]⟩] [(0, 1, .c (.string ⟨#[105, 102, 45, 117, 110, 109, 111, 100, 105, 102, 105, 101, 100, 45, 115, 105, 110, 99, 101]⟩)), (1, 1, .c (.string ⟨#[]⟩))]), none⟩,
      ⟨some 44, .op (.build [.string ⟨#[]⟩, .string ⟨#[]⟩] [(0, 1, .c (.string ⟨#[108, 97, 115, 116, 45, 109, 111, 100, 105, 102, 105, 101, 100]⟩)), (1, 1, .c (.string ⟨#[]⟩))]), none⟩,
      ⟨some 45, .op (.build [.string ⟨#[]⟩, .string ⟨#[]⟩] [(0, 1, .c (.string ⟨#[108, 105, 110, 107]⟩)), (1, 1, .c (.string ⟨#[]⟩))]), none⟩,
      ⟨some 46, .op (.build [.string ⟨#[]⟩, .string ⟨#[]⟩] [(0, 1, .c (.string ⟨#[108, 111, 99, 97, 116, 105, 111, 110]⟩)), (1, 1, .c (.string ⟨#[]⟩))]), none⟩,
      ⟨some 47, .op (.build [.string ⟨#[]⟩, .string ⟨#[]⟩] [(0, 1, .c (.string ⟨#[109, 97, 120, 45, 102, 111, 114, 119, 97, 114, 100, 115]⟩)), (1, 1, .c (.string ⟨#[]⟩))]), none⟩,
      ⟨some 48, .op (.build [.string ⟨#[]⟩, .string ⟨#[]⟩] [(0, 1, .c (.string ⟨#[112, 114, 111, 120, 121, 45, 97, 117, 116, 104, 101, 110, 116, 105, 99, 97, 116, 101]⟩)), (1, 1, .c (.string ⟨#[]⟩))]), none⟩,
      ⟨some 49, .op (.build [.string ⟨#[]⟩, .string ⟨#[]⟩] [(0, 1, .c (.string ⟨#[112, 114, 111, 120, 121, 45, 97, 117, 116, 104, 111, 114, 105, 122, 97, 116, 105, 111, 110]⟩)), (1, 1, .c (.string ⟨#[]⟩))]), none⟩,
      ⟨some 50, .op (.build [.string ⟨#[]⟩, .string ⟨#[]⟩] [(0, 1, .c (.string ⟨#[114, 97, 110, 103, 101]⟩)), (1, 1, .c (.string ⟨#[]⟩))]), none⟩,
      ⟨some 51, .op (.build [.string ⟨#[]⟩, .string ⟨#[]⟩] [(0, 1, .c (.string ⟨#[114, 101, 102, 101, 114, 101, 114]⟩)), (1, 1, .c (.string ⟨#[]⟩))]), none⟩,
      ⟨some 52, .op (.build [.string ⟨#[]⟩, .string ⟨#[]⟩] [(0, 1, .c (.string ⟨#[114, 101, 102, 114, 101, 115, 104]⟩)), (1, 1, .c (.string ⟨#[]⟩))]), none⟩,
      ⟨some 53, .op (.build [.string ⟨#[]⟩, .string ⟨#[]⟩] [(0, 1, .c (.string ⟨#[114, 101, 116, 114, 121, 45, 97, 102, 116, 101, 114]⟩)), (1, 1, .c (.string ⟨#[]⟩))]), none⟩,
      ⟨some 54, .op (.build [.string ⟨#[]⟩, .string ⟨#[]⟩] [(0, 1, .c (.string ⟨#[115, 101, 114, 118, 101, 114]⟩)), (1, 1, .c (.string ⟨#[]⟩))]), none⟩,
      ⟨some 55, .op (.build [.string ⟨#[]⟩, .string ⟨#[]⟩] [(0, 1, .c (.string ⟨#[115, 101, 116, 45, 99, 111, 111, 107, 105, 101]⟩)), (1, 1, .c (.string ⟨#[]⟩))]), none⟩,
      ⟨some 56, .op (.build [.string ⟨#[]⟩, .string ⟨#[]⟩] [(0, 1, .c (.string ⟨#[115, 116, 114, 105, 99, 116, 45, 116, 114, 97, 110, 115, 112, 111, 114, 116, 45, 115, 101, 99, 117, 114, 105, 116, 121]⟩)), (1, 1, .c (.string ⟨#[]⟩))]), none⟩,
      ⟨some 57, .op (.build [.string ⟨#[]⟩, .string ⟨#[]⟩] [(0, 1, .c (.string ⟨#[116, 114, 97, 110, 115, 102, 101, 114, 45, 101, 110, 99, 111, 100, 105, 110, 103]⟩)), (1, 1, .c (.string ⟨#[]⟩))]), none⟩,
      ⟨some 58, .op (.build [.string ⟨#[]⟩, .string ⟨#[]⟩] [(0, 1, .c (.string ⟨#[117, 115, 101, 114, 45, 97, 103, 101, 110, 116]⟩)), (1, 1, .c (.string ⟨#[]⟩))]), none⟩,
      ⟨some 59, .op (.build [.string ⟨#[]⟩, .string ⟨#[]⟩] [(0, 1, .c (.string ⟨#[118, 97, 114, 121]⟩)), (1, 1, .c (.string ⟨#[]⟩))]), none⟩,
      ⟨some 60, .op (.build [.string ⟨#[]⟩, .string ⟨#[]⟩] [(0, 1, .c (.string ⟨#[118, 105, 97]⟩)), (1, 1, .c (.string ⟨#[]⟩))]), none⟩,
      ⟨some 61, .op (.build [.string ⟨#[]⟩, .string ⟨#[]⟩] [(0, 1, .c (.string ⟨#[119, 119, 119, 45, 97, 117, 116, 104, 101, 110, 116, 105, 99, 97, 116, 101]⟩)), (1, 1, .c (.string ⟨#[]⟩))]), none⟩,
      ⟨some 62, .op (.build [.string ⟨#[]⟩, .string ⟨#[]⟩, .string ⟨#[]⟩, .string ⟨#[]⟩, .string ⟨#[]⟩, .string ⟨#[]⟩, .string ⟨#[]⟩, .string ⟨#[]⟩, .string ⟨#[]⟩, .string ⟨#[]⟩, .string ⟨#[]⟩, .string ⟨#[]⟩, .string ⟨#[]⟩, .string ⟨#[]⟩, .string ⟨#[]⟩, .string ⟨#[]⟩, .string ⟨#[]⟩, .string ⟨#[]⟩, .string ⟨#[]⟩, .string ⟨#[]⟩, .string ⟨#[]⟩, .string ⟨#[]⟩, .string ⟨#[]⟩, .string ⟨#[]⟩, .string ⟨#[]⟩, .string ⟨#[]⟩, .string ⟨#[]⟩, .string ⟨#[]⟩, .string ⟨#[]⟩, .string ⟨#[]⟩, .string ⟨#[]⟩, .string ⟨#[]⟩, .string ⟨#[]⟩, .string ⟨#[]⟩, .string ⟨#[]⟩, .string ⟨#[]⟩, .string ⟨#[]⟩, .string ⟨#[]⟩, .string ⟨#[]⟩, .string ⟨#[]⟩, .string ⟨#[]⟩, .string ⟨#[]⟩, .string ⟨#[]⟩, .string ⟨#[]⟩, .string ⟨#[]⟩, .string ⟨#[]⟩, .string ⟨#[]⟩, .string ⟨#[]⟩, .string ⟨#[]⟩, .string ⟨#[]⟩, .string ⟨#[]⟩, .string ⟨#[]⟩, .string ⟨#[]⟩, .string ⟨#[]⟩, .string ⟨#[]⟩, .string ⟨#[]⟩, .string ⟨#[]⟩, .string ⟨#[]⟩, .string ⟨#[]⟩, .string ⟨#[]⟩, .string ⟨#[]⟩, .string ⟨#[]⟩, .string ⟨#[]⟩, .string ⟨#[]⟩, .string ⟨#[]⟩, .string ⟨#[]⟩, .string ⟨#[]⟩, .string ⟨#[]⟩, .string ⟨#[]⟩, .string ⟨#[]⟩, .string ⟨#[]⟩, .string ⟨#[]⟩, .string ⟨#[]⟩, .string ⟨#[]⟩, .string ⟨#[]⟩, .string ⟨#[]⟩, .string ⟨#[]⟩, .string ⟨#[]⟩, .string ⟨#[]⟩, .string ⟨#[]⟩, .string ⟨#[]⟩, .string ⟨#[]⟩, .string ⟨#[]⟩, .string ⟨#[]⟩, .string ⟨#[]⟩, .string ⟨#[]⟩, .string ⟨#[]⟩, .string ⟨#[]⟩, .string ⟨#[]⟩, .string ⟨#[]⟩, .string ⟨#[]⟩, .string ⟨#[]⟩, .string ⟨#[]⟩, .string ⟨#[]⟩, .string ⟨#[]⟩, .string ⟨#[]⟩, .string ⟨#[]⟩, .string ⟨#[]⟩, .string ⟨#[]⟩, .string ⟨#[]⟩, .string ⟨#[]⟩, .string ⟨#[]⟩, .string ⟨#[]⟩, .string ⟨#[]⟩, .string ⟨#[]⟩, .string ⟨#[]⟩, .string ⟨#[]⟩, .string ⟨#[]⟩, .string ⟨#[]⟩, .string ⟨#[]⟩, .string ⟨#[]⟩, .string ⟨#[]⟩, .string ⟨#[]⟩, .string ⟨#[]⟩, .string ⟨#[]⟩, .string ⟨#[]⟩, .string ⟨#[]⟩, .string ⟨#[]⟩, .string ⟨#[]⟩, .string ⟨#[]⟩, .string ⟨#[]⟩, .string ⟨#[]⟩] [(0, 2, .t 1), (2, 2, .t 2), (4, 2, .t 3), (6, 2, .t 4), (8, 2, .t 5), (10, 2, .t 6), (12, 2, .t 7), (14, 2, .t 8), (16, 2, .t 9), (18, 2, .t 10), (20, 2, .t 11), (22, 2, .t 12), (24, 2, .t 13), (26, 2, .t 14), (28, 2, .t 15), (30, 2, .t 16), (32, 2, .t 17), (34, 2, .t 18), (36, 2, .t 19), (38, 2, .t 20), (40, 2, .t 21), (42, 2, .t 22), (44, 2, .t 23), (46, 2, .t 24), (48, 2, .t 25), (50, 2, .t 26), (52, 2, .t 27), (54, 2, .t 28), (56, 2, .t 29), (58, 2, .t 30), (60, 2, .t 31), (62, 2, .t 32), (64, 2, .t 33), (66, 2, .t 34), (68, 2, .t 35), (70, 2, .t 36), (72, 2, .t 37), (74, 2, .t 38), (76, 2, .t 39), (78, 2, .t 40), (80, 2, .t 41), (82, 2, .t 42), (84, 2, .t 43), (86, 2, .t 44), (88, 2, .t 45), (90, 2, .t 46), (92, 2, .t 47), (94, 2, .t 48), (96, 2, .t 49), (98, 2, .t 50), (100, 2, .t 51), (102, 2, .t 52), (104, 2, .t 53), (106, 2, .t 54), (108, 2, .t 55), (110, 2, .t 56), (112, 2, .t 57), (114, 2, .t 58), (116, 2, .t 59), (118, 2, .t 60), (120, 2, .t 61)]), none⟩,
      ⟨none, .op (.store 122 (.t 0) (.t 62)), none⟩] [0])
  (.ret))⟩

theorem lf26_ok : cFunc Try.prog Try.f26 [[0], [0]] = some lf26 := by kernel_rfl

/-- squint/static.first -/
def lf27 : LFunc := ⟨8, [.tmp 2],
  .seq (.region [⟨some 2, .op (.mov (.c (.int .i64 0))), none⟩] [0])
  (.seq (.region [⟨some 3, .call (.c (.func (.func 35) #[] #[])) [], none⟩,
      ⟨some 4, .op (.slice 2 (.t 3) none none none), none⟩,
      ⟨some 5, .op (.mov (.t 0)), none⟩,
      ⟨some 6, .call (.c (.func (.func 34) #[] #[])) [.t 4, .t 5], none⟩,
      ⟨some 7, .op (.bin .add .basic (.t 6) (.c (.int .i64 1))), none⟩,
      ⟨some 2, .op (.mov (.t 7)), none⟩] [2])
  (.ret))⟩

theorem lf27_ok : cFunc Try.prog Try.f27 [[0], [2]] = some lf27 := by kernel_rfl

/-- squint/static.Find$1 -/
def lf28 : LFunc := ⟨7, [.tmp 3],
  .seq (.region [⟨some 2, .op (.box (.t 0)), none⟩,
      ⟨some 3, .op (.mov (.c (.bool false))), none⟩] [1, 2])
  (.seq (.region [⟨some 4, .op (.loadN 2 (.t 2)), none⟩,
      ⟨some 5, .op (.loadN 2 (.t 1)), none⟩,
      ⟨some 6, .op (.bin .eql (.typed 23) (.t 4) (.t 5)), none⟩,
      ⟨some 3, .op (.mov (.t 6)), none⟩] [3])
  (.ret))⟩

theorem lf28_ok : cFunc Try.prog Try.f28 [[1, 2], [3]] = some lf28 := by kernel_rfl

/-- squint/static.Name$1 -/
def lf29 : LFunc := ⟨8, [.tmp 3],
  .seq (.region [⟨some 2, .op (.box (.t 0)), none⟩,
      ⟨some 3, .op (.mov (.c (.bool false))), none⟩] [1, 2])
  (.seq (.region [⟨some 4, .op (.fieldAddr 0 (.t 2)), none⟩,
      ⟨some 5, .op (.load1 (.t 4)), none⟩,
      ⟨some 6, .op (.load1 (.t 1)), none⟩,
      ⟨some 7, .op (.bin .eql .basic (.t 5) (.t 6)), none⟩,
      ⟨some 3, .op (.mov (.t 7)), none⟩] [3])
  (.ret))⟩

theorem lf29_ok : cFunc Try.prog Try.f29 [[1, 2], [3]] = some lf29 := by kernel_rfl

/-- slices.IndexFunc[[]squint/static.Field,squint/static.Field] -/
def lf34 : LFunc := ⟨19, [.tmp 4],
  .seq (.region [⟨some 4, .op (.mov (.c (.int .i64 0))), none⟩] [0, 1])
  (.seq (.seq (.region [⟨some 6, .op (.mov (.t 0)), none⟩,
        ⟨some 7, .op (.lenS (.t 6)), none⟩,
        ⟨some 8, .op (.mov (.c (.int .i64 0))), none⟩] [0, 1, 7, 8])
    (.block 0 (.loop (.seq (.region [⟨some 9, .op (.bin .lss .basic (.t 8) (.t 7)), none⟩] [0, 1, 7, 8, 9])
        (.seq (.cond (.t 9)
            (.skip)
            (.exit 0))
        (.seq (.block 1 (.seq (.region [⟨some 10, .op (.mov (.t 8)), none⟩,
                ⟨some 5, .op (.mov (.t 10)), none⟩] [0, 1, 5, 7, 8])
            (.seq (.region [⟨some 11, .op (.mov (.t 1)), none⟩,
                ⟨some 12, .op (.mov (.t 0)), none⟩,
                ⟨some 13, .op (.mov (.t 5)), none⟩,
                ⟨some 14, .op (.idxAddrS 2 (.t 12) (.t 13)), none⟩,
                ⟨some 15, .op (.loadN 2 (.t 14)), none⟩,
                ⟨some 16, .call (.t 11) [.t 15], none⟩] [0, 1, 5, 7, 8, 16])
            (.cond (.t 16)
              (.seq (.region [⟨some 17, .op (.mov (.t 5)), none⟩,
                  ⟨some 4, .op (.mov (.t 17)), none⟩] [4])
              (.ret))
              (.skip)))))
        (.region [⟨some 18, .op (.bin .add .basic (.t 8) (.c (.int .i64 1))), none⟩,
          ⟨some 8, .op (.mov (.t 18)), none⟩] [0, 1, 7, 8])))))))
  (.seq (.region [⟨some 4, .op (.mov (.c (.int .i64 (-1)))), none⟩] [4])
  (.ret)))⟩

theorem lf34_ok : cFunc Try.prog Try.f34 [[0, 1], [0, 1, 7, 8], [0, 1, 7, 8, 9], [0, 1, 5, 7, 8], [0, 1, 5, 7, 8, 16], [4], [0, 1, 7, 8], [4]] = some lf34 := by kernel_rfl

/-- squint/static.entriesAll -/
def lf35 : LFunc := ⟨4, [.tmp 0],
  .seq (.region [⟨some 0, .op (.mov (.c (.slice none 0 0))), none⟩] [])
  (.seq (.region [⟨some 2, .call (.c (.func (.func 26) #[] #[])) [], none⟩,
      ⟨some 1, .op (.alloc [.string ⟨#[]⟩, .string ⟨#[]⟩, .string ⟨#[]⟩, .string ⟨#[]⟩, .string ⟨#[]⟩, .string ⟨#[]⟩, .string ⟨#[]⟩, .string ⟨#[]⟩, .string ⟨#[]⟩, .string ⟨#[]⟩, .string ⟨#[]⟩, .string ⟨#[]⟩, .string ⟨#[]⟩, .string ⟨#[]⟩, .string ⟨#[]⟩, .string ⟨#[]⟩, .string ⟨#[]⟩, .string ⟨#[]⟩, .string ⟨#[]⟩, .string ⟨#[]⟩, .string ⟨#[]⟩, .string ⟨#[]⟩, .string ⟨#[]⟩, .string ⟨#[]⟩, .string ⟨#[]⟩, .string ⟨#[]⟩, .string ⟨#[]⟩, .string ⟨#[]⟩, .string ⟨#[]⟩, .string ⟨#[]⟩, .string ⟨#[]⟩, .string ⟨#[]⟩, .string ⟨#[]⟩, .string ⟨#[]⟩, .string ⟨#[]⟩, .string ⟨#[]⟩, .string ⟨#[]⟩, .string ⟨#[]⟩, .string ⟨#[]⟩, .string ⟨#[]⟩, .string ⟨#[]⟩, .string ⟨#[]⟩, .string ⟨#[]⟩, .string ⟨#[]⟩, .string ⟨#[]⟩, .string ⟨#[]⟩, .string ⟨#[]⟩, .string ⟨#[]⟩, .string ⟨#[]⟩, .string ⟨#[]⟩, .string ⟨#[]⟩, .string ⟨#[]⟩, .string ⟨#[]⟩, .string ⟨#[]⟩, .string ⟨#[]⟩, .string ⟨#[]⟩, .string ⟨#[]⟩, .string ⟨#[]⟩, .string ⟨#[]⟩, .string ⟨#[]⟩, .string ⟨#[]⟩, .string ⟨#[]⟩, .string ⟨#[]⟩, .string ⟨#[]⟩, .string ⟨#[]⟩, .string ⟨#[]⟩, .string ⟨#[]⟩, .string ⟨#[]⟩, .string ⟨#[]⟩, .string ⟨#[]⟩, .string ⟨#[]⟩, .string ⟨#[]⟩, .string ⟨#[]⟩, .string ⟨#[]⟩, .string ⟨#[]⟩, .string ⟨#[]⟩, .string ⟨#[]⟩, .string ⟨#[]⟩, .string ⟨#[]⟩, .string ⟨#[]⟩, .string ⟨#[]⟩, .string ⟨#[]⟩, .string ⟨#[]⟩, .string ⟨#[]⟩, .string ⟨#[]⟩, .string ⟨#[]⟩, .string ⟨#[]⟩, .string ⟨#[]⟩, .string ⟨#[]⟩, .string ⟨#[]⟩, .string ⟨#[]⟩, .string ⟨#[]⟩, .string ⟨#[]⟩, .string ⟨#[]⟩, .string ⟨#[]⟩, .string ⟨#[]⟩, .string ⟨#[]⟩, .string ⟨#[]⟩, .string ⟨#[]⟩, .string ⟨#[]⟩, .string ⟨#[]⟩, .string ⟨#[]⟩, .string ⟨#[]⟩, .string ⟨#[]⟩, .string ⟨#[]⟩, .string ⟨#[]⟩, .string ⟨#[]⟩, .string ⟨#[]⟩, .string ⟨#[]⟩, .string ⟨#[]⟩, .string ⟨#[]⟩, .string ⟨#[]⟩, .string ⟨#[]⟩, .string ⟨#[]⟩, .string ⟨#[]⟩, .string ⟨#[]⟩, .string ⟨#[]⟩, .string ⟨#[]⟩, .string ⟨#[]⟩, .string ⟨#[]⟩, .string ⟨#[]⟩, .string ⟨#[]⟩]), none⟩,
      ⟨none, .op (.store 122 (.t 1) (.t 2)), none⟩] [1])
  (.seq (.region [⟨some 3, .op (.sliceArr 61 2 (.t 1) none none none), none⟩,
      ⟨some 0, .op (.mov (.t 3)), none⟩] [0])
  (.ret)))⟩

theorem lf35_ok : cFunc Try.prog Try.f35 [[], [1], [0]] = some lf35 := by kernel_rfl

def tab05 : List (FuncId × LFunc) := [(3, lf3), (4, lf4), (5, lf5), (6, lf6), (9, lf9), (10, lf10), (11, lf11), (12, lf12), (13, lf13), (14, lf14), (15, lf15), (16, lf16), (17, lf17), (26, lf26), (27, lf27), (28, lf28), (29, lf29), (34, lf34), (35, lf35)]

theorem tab05_ok : ∀ p ∈ tab05, ∃ fn ks, Try.prog.funcs[p.1]? = some fn ∧ cFunc Try.prog fn ks = some p.2 := by
  unfold tab05
  refine List.forall_mem_cons.2 ⟨⟨_, _, Try.func3, lf3_ok⟩, ?_⟩
  refine List.forall_mem_cons.2 ⟨⟨_, _, Try.func4, lf4_ok⟩, ?_⟩
  refine List.forall_mem_cons.2 ⟨⟨_, _, Try.func5, lf5_ok⟩, ?_⟩
  refine List.forall_mem_cons.2 ⟨⟨_, _, Try.func6, lf6_ok⟩, ?_⟩
  refine List.forall_mem_cons.2 ⟨⟨_, _, Try.func9, lf9_ok⟩, ?_⟩
  refine List.forall_mem_cons.2 ⟨⟨_, _, Try.func10, lf10_ok⟩, ?_⟩
  refine List.forall_mem_cons.2 ⟨⟨_, _, Try.func11, lf11_ok⟩, ?_⟩
  refine List.forall_mem_cons.2 ⟨⟨_, _, Try.func12, lf12_ok⟩, ?_⟩
  refine List.forall_mem_cons.2 ⟨⟨_, _, Try.func13, lf13_ok⟩, ?_⟩
  refine List.forall_mem_cons.2 ⟨⟨_, _, Try.func14, lf14_ok⟩, ?_⟩
  refine List.forall_mem_cons.2 ⟨⟨_, _, Try.func15, lf15_ok⟩, ?_⟩
  refine List.forall_mem_cons.2 ⟨⟨_, _, Try.func16, lf16_ok⟩, ?_⟩
  refine List.forall_mem_cons.2 ⟨⟨_, _, Try.func17, lf17_ok⟩, ?_⟩
  refine List.forall_mem_cons.2 ⟨⟨_, _, Try.func26, lf26_ok⟩, ?_⟩
  refine List.forall_mem_cons.2 ⟨⟨_, _, Try.func27, lf27_ok⟩, ?_⟩
  refine List.forall_mem_cons.2 ⟨⟨_, _, Try.func28, lf28_ok⟩, ?_⟩
  refine List.forall_mem_cons.2 ⟨⟨_, _, Try.func29, lf29_ok⟩, ?_⟩
  refine List.forall_mem_cons.2 ⟨⟨_, _, Try.func34, lf34_ok⟩, ?_⟩
  refine List.forall_mem_cons.2 ⟨⟨_, _, Try.func35, lf35_ok⟩, ?_⟩
  intro p hp; cases hp

end Go.E1
