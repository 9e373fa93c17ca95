/-
  The contracts of functions of Go's library, laid at this program (the texts that the kit's laying prints).
-/
import Derived.Shelf.SortG.Plain
import Derived.Test.YthmddgkpebneoaaChecked
namespace Go.Proofs
open Go.Shelf
set_option maxRecDepth 100000
def Try.gSlLaysN53_ren : Go.Shelf.Ren := ⟨fun | 53 => 37 | 64 => 67 | 63 => 66 | 78 => 102 | 79 => 103 | 70 => 93 | 71 => 94 | 72 => 95 | 73 => 96 | 74 => 97 | 75 => 98 | 59 => 99 | 76 => 100 | 77 => 101 | 88 => 114 | 89 => 115 | 90 => 116 | 91 => 117 | 92 => 118 | 68 => 119 | 96 => 126 | n => n, fun | 22 => 25 | 23 => 3 | 3 => 3 | 51 => 88 | 0 => 0 | 67 => 111 | 69 => 113 | 4 => 4 | 61 => 104 | 60 => 103 | 44 => 108 | 5 => 5 | 9 => 9 | 75 => 120 | 79 => 124 | 83 => 131 | 84 => 132 | n => n, fun | n => n⟩
theorem Try.gSlLaysN53 : Go.Proofs.SlLaysN.n53 Try.prog Try.gSlLaysN53_ren := {
  mixed := by kernel_rfl
  f53 := ⟨"slices.Sort[[]int,int]", by decide, Try.func37.trans (congrArg some (by kernel_rfl))⟩
  f59 := ⟨"cmp.Less[int]", by decide, Try.func99.trans (congrArg some (by kernel_rfl))⟩
  f63 := ⟨"slices.pdqsortOrdered[int]", by decide, Try.func66.trans (congrArg some (by kernel_rfl))⟩
  f64 := Try.func67.trans (congrArg some (by kernel_rfl))
  f68 := ⟨"cmp.isNaN[int]", by decide, Try.func119.trans (congrArg some (by kernel_rfl))⟩
  f70 := ⟨"slices.insertionSortOrdered[int]", by decide, Try.func93.trans (congrArg some (by kernel_rfl))⟩
  f71 := ⟨"slices.heapSortOrdered[int]", by decide, Try.func94.trans (congrArg some (by kernel_rfl))⟩
  f72 := ⟨"slices.breakPatternsOrdered[int]", by decide, Try.func95.trans (congrArg some (by kernel_rfl))⟩
  f73 := ⟨"slices.choosePivotOrdered[int]", by decide, Try.func96.trans (congrArg some (by kernel_rfl))⟩
  f74 := ⟨"slices.reverseRangeOrdered[int]", by decide, Try.func97.trans (congrArg some (by kernel_rfl))⟩
  f75 := ⟨"slices.partialInsertionSortOrdered[int]", by decide, Try.func98.trans (congrArg some (by kernel_rfl))⟩
  f76 := ⟨"slices.partitionEqualOrdered[int]", by decide, Try.func100.trans (congrArg some (by kernel_rfl))⟩
  f77 := ⟨"slices.partitionOrdered[int]", by decide, Try.func101.trans (congrArg some (by kernel_rfl))⟩
  f78 := Try.func102.trans (congrArg some (by kernel_rfl))
  f79 := Try.func103.trans (congrArg some (by kernel_rfl))
  f88 := ⟨"slices.siftDownOrdered[int]", by decide, Try.func114.trans (congrArg some (by kernel_rfl))⟩
  f89 := Try.func115.trans (congrArg some (by kernel_rfl))
  f90 := Try.func116.trans (congrArg some (by kernel_rfl))
  f91 := ⟨"slices.medianAdjacentOrdered[int]", by decide, Try.func117.trans (congrArg some (by kernel_rfl))⟩
  f92 := ⟨"slices.medianOrdered[int]", by decide, Try.func118.trans (congrArg some (by kernel_rfl))⟩
  f96 := ⟨"slices.order2Ordered[int]", by decide, Try.func126.trans (congrArg some (by kernel_rfl))⟩
  t0 := Try.underlying0
  a0 := Try.isAgg0
  z0 := Try.sizeOf0
  v0 := Try.zeroValue0
  t3 := Try.underlying3
  a3 := Try.isAgg3
  z3 := Try.sizeOf3
  v3 := Try.zeroValue3
  t4 := Try.underlying4
  a4 := Try.isAgg4
  z4 := Try.sizeOf4
  v4 := Try.zeroValue4
  t5 := Try.underlying5
  a5 := Try.isAgg5
  z5 := Try.sizeOf5
  v5 := Try.zeroValue5
  t9 := Try.underlying9
  a9 := Try.isAgg9
  z9 := Try.sizeOf9
  v9 := Try.zeroValue9
  t22 := Try.underlying25
  a22 := Try.isAgg25
  z22 := Try.sizeOf25
  v22 := Try.zeroValue25
  t23 := Try.underlying3
  a23 := Try.isAgg3
  z23 := Try.sizeOf3
  v23 := Try.zeroValue3
  t44 := Try.underlying108
  a44 := Try.isAgg108
  z44 := Try.sizeOf108
  v44 := Try.zeroValue108
  t51 := Try.underlying88
  a51 := Try.isAgg88
  z51 := Try.sizeOf88
  v51 := Try.zeroValue88
  t60 := Try.underlying103
  a60 := Try.isAgg103
  z60 := Try.sizeOf103
  v60 := Try.zeroValue103
  t61 := Try.underlying104
  a61 := Try.isAgg104
  z61 := Try.sizeOf104
  v61 := Try.zeroValue104
  t67 := Try.underlying111
  a67 := Try.isAgg111
  z67 := Try.sizeOf111
  v67 := Try.zeroValue111
  t69 := Try.underlying113
  a69 := Try.isAgg113
  z69 := Try.sizeOf113
  v69 := Try.zeroValue113
  t75 := Try.underlying120
  a75 := Try.isAgg120
  z75 := Try.sizeOf120
  v75 := Try.zeroValue120
  t79 := Try.underlying124
  a79 := Try.isAgg124
  z79 := Try.sizeOf124
  v79 := Try.zeroValue124
  t83 := Try.underlying131
  a83 := Try.isAgg131
  z83 := Try.sizeOf131
  v83 := Try.zeroValue131
  t84 := Try.underlying132
  a84 := Try.isAgg132
  z84 := Try.sizeOf132
  v84 := Try.zeroValue132 }
end Go.Proofs
