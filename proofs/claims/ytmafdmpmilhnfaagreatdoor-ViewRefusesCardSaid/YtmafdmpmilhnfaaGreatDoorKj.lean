/-
 The shelf's laying of slices.Sorted and slices.Sort over this seat.
-/
import Derived.Test.YtmafdmpmilhnfaaGreatDoorProg
import Derived.Test.YtmafdmpmilhnfaaGreatDoorKi
import Derived.Shelf.SortM.Plain
import Derived.Shelf.SortM.SortNone
namespace Go.Proofs
open Go Go.RowKit Go.Maps Go.Sort Go.Shelf

def Tryz.sortedA_ren : Go.Shelf.Ren := ⟨fun x => if x = 6 then 163 else if x = 8 then 186 else if x = 9 then 187 else if x = 11 then 206 else if x = 13 then 208 else if x = 12 then 207 else if x = 23 then 235 else if x = 24 then 236 else if x = 14 then 226 else if x = 15 then 227 else if x = 16 then 228 else if x = 17 then 229 else if x = 18 then 230 else if x = 19 then 231 else if x = 20 then 232 else if x = 21 then 233 else if x = 22 then 234 else if x = 25 then 251 else if x = 26 then 252 else if x = 27 then 253 else if x = 28 then 254 else if x = 29 then 255 else if x = 30 then 256 else if x = 31 then 262 else x, fun x => if x = 26 then 3 else if x = 28 then 316 else if x = 24 then 29 else if x = 0 then 0 else if x = 3 then 3 else if x = 37 then 196 else if x = 48 then 359 else if x = 50 then 145 else if x = 4 then 4 else if x = 40 then 379 else if x = 39 then 378 else if x = 45 then 97 else if x = 5 then 5 else if x = 9 then 9 else if x = 51 then 396 else if x = 55 then 400 else if x = 57 then 408 else if x = 58 then 409 else if x = 33 then 116 else x, fun x => x⟩
theorem Tryz.sortedA : SlLaysZI.n6 Tryz.prog Tryz.sortedA_ren where
 mixed := by kernel_rfl
 f6 := ⟨Tryz.f163.name, by decide +kernel, Tryz.func163.trans (congrArg some (by kernel_rfl))⟩
 f8 := ⟨Tryz.f186.name, by decide +kernel, Tryz.func186.trans (congrArg some (by kernel_rfl))⟩
 f11 := ⟨Tryz.f206.name, by decide +kernel, Tryz.func206.trans (congrArg some (by kernel_rfl))⟩
 t0 := Tryz.underlying0
 a0 := Tryz.isAgg0
 z0 := Tryz.sizeOf0
 v0 := Tryz.zeroValue0
 t24 := Tryz.underlying29
 a24 := Tryz.isAgg29
 z24 := Tryz.sizeOf29
 v24 := Tryz.zeroValue29
 t26 := Tryz.underlying3
 a26 := Tryz.isAgg3
 z26 := Tryz.sizeOf3
 v26 := Tryz.zeroValue3
 t28 := Tryz.underlying316
 a28 := Tryz.isAgg316
 z28 := Tryz.sizeOf316
 v28 := Tryz.zeroValue316
 i26 := by kernel_rfl
def Tryz.sortA_ren : Go.Shelf.Ren := ⟨fun x => if x = 5 then 187 else if x = 8 then 208 else if x = 7 then 207 else if x = 19 then 235 else if x = 20 then 236 else if x = 10 then 226 else if x = 11 then 227 else if x = 12 then 228 else if x = 13 then 229 else if x = 14 then 230 else if x = 15 then 231 else if x = 16 then 232 else if x = 17 then 233 else if x = 18 then 234 else if x = 30 then 251 else if x = 31 then 252 else if x = 32 then 253 else if x = 33 then 254 else if x = 34 then 255 else if x = 35 then 256 else if x = 40 then 262 else x, fun x => if x = 23 then 29 else if x = 25 then 3 else if x = 3 then 3 else if x = 32 then 196 else if x = 22 then 29 else if x = 0 then 0 else if x = 44 then 359 else if x = 46 then 145 else if x = 4 then 4 else if x = 36 then 379 else if x = 35 then 378 else if x = 41 then 97 else if x = 5 then 5 else if x = 9 then 9 else if x = 53 then 396 else if x = 57 then 400 else if x = 63 then 408 else if x = 64 then 409 else x, fun x => x⟩
theorem Tryz.sortA : SlLaysM.n5 Tryz.prog Tryz.sortA_ren where
 mixed := by kernel_rfl
 f5 := ⟨Tryz.f187.name, by decide +kernel, Tryz.func187.trans (congrArg some (by kernel_rfl))⟩
 f7 := ⟨Tryz.f207.name, by decide +kernel, Tryz.func207.trans (congrArg some (by kernel_rfl))⟩
 f8 := Tryz.func208.trans (congrArg some (by kernel_rfl))
 f10 := ⟨Tryz.f226.name, by decide +kernel, Tryz.func226.trans (congrArg some (by kernel_rfl))⟩
 f11 := ⟨Tryz.f227.name, by decide +kernel, Tryz.func227.trans (congrArg some (by kernel_rfl))⟩
 f12 := ⟨Tryz.f228.name, by decide +kernel, Tryz.func228.trans (congrArg some (by kernel_rfl))⟩
 f13 := ⟨Tryz.f229.name, by decide +kernel, Tryz.func229.trans (congrArg some (by kernel_rfl))⟩
 f14 := ⟨Tryz.f230.name, by decide +kernel, Tryz.func230.trans (congrArg some (by kernel_rfl))⟩
 f15 := ⟨Tryz.f231.name, by decide +kernel, Tryz.func231.trans (congrArg some (by kernel_rfl))⟩
 f16 := ⟨Tryz.f232.name, by decide +kernel, Tryz.func232.trans (congrArg some (by kernel_rfl))⟩
 f17 := ⟨Tryz.f233.name, by decide +kernel, Tryz.func233.trans (congrArg some (by kernel_rfl))⟩
 f18 := ⟨Tryz.f234.name, by decide +kernel, Tryz.func234.trans (congrArg some (by kernel_rfl))⟩
 f19 := Tryz.func235.trans (congrArg some (by kernel_rfl))
 f20 := Tryz.func236.trans (congrArg some (by kernel_rfl))
 f30 := ⟨Tryz.f251.name, by decide +kernel, Tryz.func251.trans (congrArg some (by kernel_rfl))⟩
 f31 := Tryz.func252.trans (congrArg some (by kernel_rfl))
 f32 := Tryz.func253.trans (congrArg some (by kernel_rfl))
 f33 := ⟨Tryz.f254.name, by decide +kernel, Tryz.func254.trans (congrArg some (by kernel_rfl))⟩
 f34 := ⟨Tryz.f255.name, by decide +kernel, Tryz.func255.trans (congrArg some (by kernel_rfl))⟩
 f35 := ⟨Tryz.f256.name, by decide +kernel, Tryz.func256.trans (congrArg some (by kernel_rfl))⟩
 f40 := ⟨Tryz.f262.name, by decide +kernel, Tryz.func262.trans (congrArg some (by kernel_rfl))⟩
 t0 := Tryz.underlying0
 a0 := Tryz.isAgg0
 z0 := Tryz.sizeOf0
 v0 := Tryz.zeroValue0
 t3 := Tryz.underlying3
 a3 := Tryz.isAgg3
 z3 := Tryz.sizeOf3
 v3 := Tryz.zeroValue3
 t4 := Tryz.underlying4
 a4 := Tryz.isAgg4
 z4 := Tryz.sizeOf4
 v4 := Tryz.zeroValue4
 t5 := Tryz.underlying5
 a5 := Tryz.isAgg5
 z5 := Tryz.sizeOf5
 v5 := Tryz.zeroValue5
 t9 := Tryz.underlying9
 a9 := Tryz.isAgg9
 z9 := Tryz.sizeOf9
 v9 := Tryz.zeroValue9
 t22 := Tryz.underlying29
 a22 := Tryz.isAgg29
 z22 := Tryz.sizeOf29
 v22 := Tryz.zeroValue29
 t23 := Tryz.underlying29
 a23 := Tryz.isAgg29
 z23 := Tryz.sizeOf29
 v23 := Tryz.zeroValue29
 t25 := Tryz.underlying3
 a25 := Tryz.isAgg3
 z25 := Tryz.sizeOf3
 v25 := Tryz.zeroValue3
 t32 := Tryz.underlying196
 a32 := Tryz.isAgg196
 z32 := Tryz.sizeOf196
 v32 := Tryz.zeroValue196
 t35 := Tryz.underlying378
 a35 := Tryz.isAgg378
 z35 := Tryz.sizeOf378
 v35 := Tryz.zeroValue378
 t36 := Tryz.underlying379
 a36 := Tryz.isAgg379
 z36 := Tryz.sizeOf379
 v36 := Tryz.zeroValue379
 t41 := Tryz.underlying97
 a41 := Tryz.isAgg97
 z41 := Tryz.sizeOf97
 v41 := Tryz.zeroValue97
 t44 := Tryz.underlying359
 a44 := Tryz.isAgg359
 z44 := Tryz.sizeOf359
 v44 := Tryz.zeroValue359
 t46 := Tryz.underlying145
 a46 := Tryz.isAgg145
 z46 := Tryz.sizeOf145
 v46 := Tryz.zeroValue145
 t53 := Tryz.underlying396
 a53 := Tryz.isAgg396
 z53 := Tryz.sizeOf396
 v53 := Tryz.zeroValue396
 t57 := Tryz.underlying400
 a57 := Tryz.isAgg400
 z57 := Tryz.sizeOf400
 v57 := Tryz.zeroValue400
 t63 := Tryz.underlying408
 a63 := Tryz.isAgg408
 z63 := Tryz.sizeOf408
 v63 := Tryz.zeroValue408
 t64 := Tryz.underlying409
 a64 := Tryz.isAgg409
 z64 := Tryz.sizeOf409
 v64 := Tryz.zeroValue409

theorem Tryz.sortsA (m : Nat) : AnyZI.SortsIn Tryz.prog Tryz.sortedA_ren Fence.wide m :=
 ⟨fun blk off cap ss W hH hblk hsz => callsIn_wide.2 (AnyM.slices_Sort_int Tryz.sortA blk off cap ss W hH hblk hsz),
  fun p cap W => callsIn_wide.2 (AnyM.slices_Sort_int_none Tryz.sortA p cap W)⟩
end Go.Proofs
