/- The shelf's closures at the program: which numbers its functions and types have, and that the bodies are these. -/
import Derived.Shelf.SlIterI.Sorted
import Derived.Shelf.SortM.Plain
import Derived.Shelf.SortM.SortNone
import Derived.Shelf.SlicesQ.Reverse
import Derived.Shelf.SlicesE.Clone
import Derived.Test.YtmfondkhhnnjjaaGreatDoorProg

namespace Go.Abs
open Go Go.Shelf Go.Proofs
def keysIt_ren : Go.Shelf.Ren := ⟨fun | 10 => 246 | n => n, fun | 33 => 22 | 23 => 179 | 0 => 0 | 4 => 4 | 26 => 3 | 3 => 183 | n => n, fun | n => n⟩
theorem keysIt : SlLaysZI.n10 Tryz.prog keysIt_ren where
  mixed := by kernel_rfl
  f10 := ⟨ "maps.Keys[map[int]buttery/pager.page,int,buttery/pager.page]$1", by decide, Tryz.func246.trans (congrArg some (by kernel_rfl))⟩
  t0 := Tryz.underlying0
  a0 := Tryz.isAgg0
  z0 := Tryz.sizeOf0
  v0 := Tryz.zeroValue0
  t4 := Tryz.underlying4
  a4 := Tryz.isAgg4
  z4 := Tryz.sizeOf4
  v4 := Tryz.zeroValue4
  t23 := Tryz.underlying179
  a23 := Tryz.isAgg179
  z23 := Tryz.sizeOf179
  v23 := Tryz.zeroValue179
  t26 := Tryz.underlying3
  a26 := Tryz.isAgg3
  z26 := Tryz.sizeOf3
  v26 := Tryz.zeroValue3
  t33 := Tryz.underlying22
  a33 := Tryz.isAgg22
  z33 := Tryz.sizeOf22
  v33 := Tryz.zeroValue22
def sortedL_ren : Go.Shelf.Ren := ⟨fun | 6 => 176 | 8 => 245 | 9 => 217 | 11 => 288 | 13 => 273 | 12 => 272 | 23 => 308 | 24 => 309 | 14 => 299 | 15 => 300 | 16 => 301 | 17 => 302 | 18 => 303 | 19 => 304 | 20 => 305 | 21 => 306 | 22 => 307 | 25 => 325 | 26 => 326 | 27 => 327 | 28 => 328 | 29 => 329 | 30 => 322 | 31 => 340 | n => n, fun | 26 => 3 | 28 => 285 | 24 => 58 | 0 => 0 | 3 => 3 | 37 => 81 | 48 => 382 | 50 => 232 | 4 => 4 | 40 => 376 | 39 => 375 | 45 => 245 | 5 => 5 | 9 => 9 | 51 => 394 | 55 => 398 | 57 => 405 | 58 => 168 | 33 => 22 | n => n, fun | n => n⟩
theorem sortedL : SlLaysZI.n6 Tryz.prog sortedL_ren where
  mixed := by kernel_rfl
  f6 := ⟨ "slices.Sorted[int]", by decide, Tryz.func176.trans (congrArg some (by kernel_rfl))⟩
  f8 := ⟨ "slices.Collect[int]", by decide, Tryz.func245.trans (congrArg some (by kernel_rfl))⟩
  f11 := ⟨ "slices.AppendSeq[[]int,int]", by decide, Tryz.func288.trans (congrArg some (by kernel_rfl))⟩
  t0 := Tryz.underlying0
  a0 := Tryz.isAgg0
  z0 := Tryz.sizeOf0
  v0 := Tryz.zeroValue0
  t24 := Tryz.underlying58
  a24 := Tryz.isAgg58
  z24 := Tryz.sizeOf58
  v24 := Tryz.zeroValue58
  t26 := Tryz.underlying3
  a26 := Tryz.isAgg3
  z26 := Tryz.sizeOf3
  v26 := Tryz.zeroValue3
  t28 := Tryz.underlying285
  a28 := Tryz.isAgg285
  z28 := Tryz.sizeOf285
  v28 := Tryz.zeroValue285
  i26 := by kernel_rfl
def sortL_ren : Go.Shelf.Ren := ⟨fun | 5 => 217 | 8 => 273 | 7 => 272 | 19 => 308 | 20 => 309 | 10 => 299 | 11 => 300 | 12 => 301 | 13 => 302 | 14 => 303 | 15 => 304 | 16 => 305 | 17 => 306 | 18 => 307 | 30 => 325 | 31 => 326 | 32 => 327 | 33 => 328 | 34 => 329 | 35 => 322 | 40 => 340 | n => n, fun | 23 => 58 | 25 => 3 | 3 => 3 | 32 => 81 | 22 => 58 | 0 => 0 | 44 => 382 | 46 => 232 | 4 => 4 | 36 => 376 | 35 => 375 | 41 => 245 | 5 => 5 | 9 => 9 | 53 => 394 | 57 => 398 | 63 => 405 | 64 => 168 | n => n, fun | n => n⟩
theorem sortL : SlLaysM.n5 Tryz.prog sortL_ren where
  mixed := by kernel_rfl
  f5 := ⟨ "slices.Sort[[]int,int]", by decide, Tryz.func217.trans (congrArg some (by kernel_rfl))⟩
  f7 := ⟨ "slices.pdqsortOrdered[int]", by decide, Tryz.func272.trans (congrArg some (by kernel_rfl))⟩
  f8 := Tryz.func273.trans (congrArg some (by kernel_rfl))
  f10 := ⟨ "slices.insertionSortOrdered[int]", by decide, Tryz.func299.trans (congrArg some (by kernel_rfl))⟩
  f11 := ⟨ "slices.heapSortOrdered[int]", by decide, Tryz.func300.trans (congrArg some (by kernel_rfl))⟩
  f12 := ⟨ "slices.breakPatternsOrdered[int]", by decide, Tryz.func301.trans (congrArg some (by kernel_rfl))⟩
  f13 := ⟨ "slices.choosePivotOrdered[int]", by decide, Tryz.func302.trans (congrArg some (by kernel_rfl))⟩
  f14 := ⟨ "slices.reverseRangeOrdered[int]", by decide, Tryz.func303.trans (congrArg some (by kernel_rfl))⟩
  f15 := ⟨ "slices.partialInsertionSortOrdered[int]", by decide, Tryz.func304.trans (congrArg some (by kernel_rfl))⟩
  f16 := ⟨ "cmp.Less[int]", by decide, Tryz.func305.trans (congrArg some (by kernel_rfl))⟩
  f17 := ⟨ "slices.partitionEqualOrdered[int]", by decide, Tryz.func306.trans (congrArg some (by kernel_rfl))⟩
  f18 := ⟨ "slices.partitionOrdered[int]", by decide, Tryz.func307.trans (congrArg some (by kernel_rfl))⟩
  f19 := Tryz.func308.trans (congrArg some (by kernel_rfl))
  f20 := Tryz.func309.trans (congrArg some (by kernel_rfl))
  f30 := ⟨ "slices.siftDownOrdered[int]", by decide, Tryz.func325.trans (congrArg some (by kernel_rfl))⟩
  f31 := Tryz.func326.trans (congrArg some (by kernel_rfl))
  f32 := Tryz.func327.trans (congrArg some (by kernel_rfl))
  f33 := ⟨ "slices.medianAdjacentOrdered[int]", by decide, Tryz.func328.trans (congrArg some (by kernel_rfl))⟩
  f34 := ⟨ "slices.medianOrdered[int]", by decide, Tryz.func329.trans (congrArg some (by kernel_rfl))⟩
  f35 := ⟨ "cmp.isNaN[int]", by decide, Tryz.func322.trans (congrArg some (by kernel_rfl))⟩
  f40 := ⟨ "slices.order2Ordered[int]", by decide, Tryz.func340.trans (congrArg some (by kernel_rfl))⟩
  t0 := Tryz.underlying0
  a0 := Tryz.isAgg0
  z0 := Tryz.sizeOf0
  v0 := Tryz.zeroValue0
  t3 := Tryz.underlying3
  a3 := Tryz.isAgg3
  z3 := Tryz.sizeOf3
  v3 := Tryz.zeroValue3
  t4 := Tryz.underlying4
  a4 := Tryz.isAgg4
  z4 := Tryz.sizeOf4
  v4 := Tryz.zeroValue4
  t5 := Tryz.underlying5
  a5 := Tryz.isAgg5
  z5 := Tryz.sizeOf5
  v5 := Tryz.zeroValue5
  t9 := Tryz.underlying9
  a9 := Tryz.isAgg9
  z9 := Tryz.sizeOf9
  v9 := Tryz.zeroValue9
  t22 := Tryz.underlying58
  a22 := Tryz.isAgg58
  z22 := Tryz.sizeOf58
  v22 := Tryz.zeroValue58
  t23 := Tryz.underlying58
  a23 := Tryz.isAgg58
  z23 := Tryz.sizeOf58
  v23 := Tryz.zeroValue58
  t25 := Tryz.underlying3
  a25 := Tryz.isAgg3
  z25 := Tryz.sizeOf3
  v25 := Tryz.zeroValue3
  t32 := Tryz.underlying81
  a32 := Tryz.isAgg81
  z32 := Tryz.sizeOf81
  v32 := Tryz.zeroValue81
  t35 := Tryz.underlying375
  a35 := Tryz.isAgg375
  z35 := Tryz.sizeOf375
  v35 := Tryz.zeroValue375
  t36 := Tryz.underlying376
  a36 := Tryz.isAgg376
  z36 := Tryz.sizeOf376
  v36 := Tryz.zeroValue376
  t41 := Tryz.underlying245
  a41 := Tryz.isAgg245
  z41 := Tryz.sizeOf245
  v41 := Tryz.zeroValue245
  t44 := Tryz.underlying382
  a44 := Tryz.isAgg382
  z44 := Tryz.sizeOf382
  v44 := Tryz.zeroValue382
  t46 := Tryz.underlying232
  a46 := Tryz.isAgg232
  z46 := Tryz.sizeOf232
  v46 := Tryz.zeroValue232
  t53 := Tryz.underlying394
  a53 := Tryz.isAgg394
  z53 := Tryz.sizeOf394
  v53 := Tryz.zeroValue394
  t57 := Tryz.underlying398
  a57 := Tryz.isAgg398
  z57 := Tryz.sizeOf398
  v57 := Tryz.zeroValue398
  t63 := Tryz.underlying405
  a63 := Tryz.isAgg405
  z63 := Tryz.sizeOf405
  v63 := Tryz.zeroValue405
  t64 := Tryz.underlying168
  a64 := Tryz.isAgg168
  z64 := Tryz.sizeOf168
  v64 := Tryz.zeroValue168
def cloneL_ren : Go.Shelf.Ren := ⟨fun | 41 => 65 | n => n, fun | 22 => 95 | 23 => 132 | 4 => 4 | n => n, fun | n => n⟩
theorem cloneL : SlLaysE0.n41 Tryz.prog cloneL_ren where
  mixed := by kernel_rfl
  f41 := ⟨ "slices.Clone[[]buttery/disk.sector,buttery/disk.sector]", by decide, Tryz.func65.trans (congrArg some (by kernel_rfl))⟩
  t4 := Tryz.underlying4
  a4 := Tryz.isAgg4
  z4 := Tryz.sizeOf4
  v4 := Tryz.zeroValue4
  t22 := Tryz.underlying95
  a22 := Tryz.isAgg95
  z22 := Tryz.sizeOf95
  v22 := Tryz.zeroValue95
def revL_ren : Go.Shelf.Ren := ⟨fun | 35 => 318 | n => n, fun | 22 => 266 | 23 => 272 | 3 => 3 | 4 => 4 | 0 => 0 | n => n, fun | n => n⟩
theorem revL : SlLaysE0.n35 Tryz.prog revL_ren where
  mixed := by kernel_rfl
  f35 := ⟨ "slices.Reverse[[]buttery/node.Cell,buttery/node.Cell]", by decide, Tryz.func318.trans (congrArg some (by kernel_rfl))⟩
  t0 := Tryz.underlying0
  a0 := Tryz.isAgg0
  z0 := Tryz.sizeOf0
  v0 := Tryz.zeroValue0
  t3 := Tryz.underlying3
  a3 := Tryz.isAgg3
  z3 := Tryz.sizeOf3
  v3 := Tryz.zeroValue3
  t4 := Tryz.underlying4
  a4 := Tryz.isAgg4
  z4 := Tryz.sizeOf4
  v4 := Tryz.zeroValue4
  t22 := Tryz.underlying266
  a22 := Tryz.isAgg266
  z22 := Tryz.sizeOf266
  v22 := Tryz.zeroValue266
end Go.Abs
