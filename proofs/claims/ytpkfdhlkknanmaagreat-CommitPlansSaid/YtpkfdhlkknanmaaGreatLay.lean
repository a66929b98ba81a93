/-
 Library bodies laid at this program: written by wip/gen/lay.py.
-/
import Derived.Test.YtpkfdhlkknanmaaGreatProg
import Derived.Shelf.SlIterI.Nil
import Derived.Shelf.SortM.Plain
import Derived.Shelf.SortM.SortNone
set_option linter.all false
namespace Go.Proofs.YtpkfdhlkknanmaaGreat
open Go Go.RowKit Go.Maps Go.Sort Go.Shelf Go.Proofs
def Tryz.keysA_ren : Go.Shelf.Ren := ⟨fun | 7 => 37 | 10 => 57 | n => n, fun | 23 => 104 | 26 => 3 | 3 => 4 | 28 => 107 | 0 => 0 | 27 => 106 | 33 => 118 | 4 => 4 | n => n, fun n => n⟩
theorem Tryz.keysA : SlLaysZI.n7 Tryz.prog Tryz.keysA_ren where
 mixed := by kernel_rfl
 f7 := ⟨ "maps.Keys[map[int]bool,int,bool]", of_decide_eq_true (by kernel_rfl), Tryz.func37.trans (congrArg some (by kernel_rfl))⟩
 f10 := ⟨ "maps.Keys[map[int]bool,int,bool]$1", of_decide_eq_true (by kernel_rfl), Tryz.func57.trans (congrArg some (by kernel_rfl))⟩
 t0 := Tryz.underlying0
 a0 := Tryz.isAgg0
 z0 := Tryz.sizeOf0
 v0 := Tryz.zeroValue0
 t4 := Tryz.underlying4
 a4 := Tryz.isAgg4
 z4 := Tryz.sizeOf4
 v4 := Tryz.zeroValue4
 t23 := Tryz.underlying104
 a23 := Tryz.isAgg104
 z23 := Tryz.sizeOf104
 v23 := Tryz.zeroValue104
 t26 := Tryz.underlying3
 a26 := Tryz.isAgg3
 z26 := Tryz.sizeOf3
 v26 := Tryz.zeroValue3
 t27 := Tryz.underlying106
 a27 := Tryz.isAgg106
 z27 := Tryz.sizeOf106
 v27 := Tryz.zeroValue106
 t28 := Tryz.underlying107
 a28 := Tryz.isAgg107
 z28 := Tryz.sizeOf107
 v28 := Tryz.zeroValue107
 t33 := Tryz.underlying118
 a33 := Tryz.isAgg118
 z33 := Tryz.sizeOf118
 v33 := Tryz.zeroValue118
def Tryz.sortedA_ren : Go.Shelf.Ren := ⟨fun | 6 => 36 | 8 => 55 | 9 => 56 | 11 => 71 | 13 => 73 | 12 => 72 | 23 => 93 | 24 => 94 | 14 => 84 | 15 => 85 | 16 => 86 | 17 => 87 | 18 => 88 | 19 => 89 | 20 => 90 | 21 => 91 | 22 => 92 | 25 => 101 | 26 => 102 | 27 => 103 | 28 => 104 | 29 => 105 | 30 => 106 | 31 => 115 | n => n, fun | 26 => 3 | 28 => 107 | 24 => 30 | 0 => 0 | 3 => 3 | 37 => 139 | 48 => 23 | 50 => 127 | 4 => 4 | 40 => 151 | 39 => 150 | 45 => 156 | 5 => 5 | 9 => 9 | 51 => 170 | 55 => 174 | 57 => 186 | 58 => 187 | 33 => 118 | n => n, fun n => n⟩
theorem Tryz.sortedA : SlLaysZI.n6 Tryz.prog Tryz.sortedA_ren where
 mixed := by kernel_rfl
 f6 := ⟨ "slices.Sorted[int]", of_decide_eq_true (by kernel_rfl), Tryz.func36.trans (congrArg some (by kernel_rfl))⟩
 f8 := ⟨ "slices.Collect[int]", of_decide_eq_true (by kernel_rfl), Tryz.func55.trans (congrArg some (by kernel_rfl))⟩
 f11 := ⟨ "slices.AppendSeq[[]int,int]", of_decide_eq_true (by kernel_rfl), Tryz.func71.trans (congrArg some (by kernel_rfl))⟩
 t0 := Tryz.underlying0
 a0 := Tryz.isAgg0
 z0 := Tryz.sizeOf0
 v0 := Tryz.zeroValue0
 t24 := Tryz.underlying30
 a24 := Tryz.isAgg30
 z24 := Tryz.sizeOf30
 v24 := Tryz.zeroValue30
 t26 := Tryz.underlying3
 a26 := Tryz.isAgg3
 z26 := Tryz.sizeOf3
 v26 := Tryz.zeroValue3
 t28 := Tryz.underlying107
 a28 := Tryz.isAgg107
 z28 := Tryz.sizeOf107
 v28 := Tryz.zeroValue107
 i26 := by kernel_rfl
def Tryz.sortA_ren : Go.Shelf.Ren := ⟨fun | 5 => 56 | 8 => 73 | 7 => 72 | 19 => 93 | 20 => 94 | 10 => 84 | 11 => 85 | 12 => 86 | 13 => 87 | 14 => 88 | 15 => 89 | 16 => 90 | 17 => 91 | 18 => 92 | 30 => 101 | 31 => 102 | 32 => 103 | 33 => 104 | 34 => 105 | 35 => 106 | 40 => 115 | n => n, fun | 23 => 30 | 25 => 3 | 3 => 3 | 32 => 139 | 22 => 30 | 0 => 0 | 44 => 23 | 46 => 127 | 4 => 4 | 36 => 151 | 35 => 150 | 41 => 156 | 5 => 5 | 9 => 9 | 53 => 170 | 57 => 174 | 63 => 186 | 64 => 187 | n => n, fun n => n⟩
theorem Tryz.sortA : SlLaysM.n5 Tryz.prog Tryz.sortA_ren where
 mixed := by kernel_rfl
 f5 := ⟨ "slices.Sort[[]int,int]", of_decide_eq_true (by kernel_rfl), Tryz.func56.trans (congrArg some (by kernel_rfl))⟩
 f7 := ⟨ "slices.pdqsortOrdered[int]", of_decide_eq_true (by kernel_rfl), Tryz.func72.trans (congrArg some (by kernel_rfl))⟩
 f8 := Tryz.func73.trans (congrArg some (by kernel_rfl))
 f10 := ⟨ "slices.insertionSortOrdered[int]", of_decide_eq_true (by kernel_rfl), Tryz.func84.trans (congrArg some (by kernel_rfl))⟩
 f11 := ⟨ "slices.heapSortOrdered[int]", of_decide_eq_true (by kernel_rfl), Tryz.func85.trans (congrArg some (by kernel_rfl))⟩
 f12 := ⟨ "slices.breakPatternsOrdered[int]", of_decide_eq_true (by kernel_rfl), Tryz.func86.trans (congrArg some (by kernel_rfl))⟩
 f13 := ⟨ "slices.choosePivotOrdered[int]", of_decide_eq_true (by kernel_rfl), Tryz.func87.trans (congrArg some (by kernel_rfl))⟩
 f14 := ⟨ "slices.reverseRangeOrdered[int]", of_decide_eq_true (by kernel_rfl), Tryz.func88.trans (congrArg some (by kernel_rfl))⟩
 f15 := ⟨ "slices.partialInsertionSortOrdered[int]", of_decide_eq_true (by kernel_rfl), Tryz.func89.trans (congrArg some (by kernel_rfl))⟩
 f16 := ⟨ "cmp.Less[int]", of_decide_eq_true (by kernel_rfl), Tryz.func90.trans (congrArg some (by kernel_rfl))⟩
 f17 := ⟨ "slices.partitionEqualOrdered[int]", of_decide_eq_true (by kernel_rfl), Tryz.func91.trans (congrArg some (by kernel_rfl))⟩
 f18 := ⟨ "slices.partitionOrdered[int]", of_decide_eq_true (by kernel_rfl), Tryz.func92.trans (congrArg some (by kernel_rfl))⟩
 f19 := Tryz.func93.trans (congrArg some (by kernel_rfl))
 f20 := Tryz.func94.trans (congrArg some (by kernel_rfl))
 f30 := ⟨ "slices.siftDownOrdered[int]", of_decide_eq_true (by kernel_rfl), Tryz.func101.trans (congrArg some (by kernel_rfl))⟩
 f31 := Tryz.func102.trans (congrArg some (by kernel_rfl))
 f32 := Tryz.func103.trans (congrArg some (by kernel_rfl))
 f33 := ⟨ "slices.medianAdjacentOrdered[int]", of_decide_eq_true (by kernel_rfl), Tryz.func104.trans (congrArg some (by kernel_rfl))⟩
 f34 := ⟨ "slices.medianOrdered[int]", of_decide_eq_true (by kernel_rfl), Tryz.func105.trans (congrArg some (by kernel_rfl))⟩
 f35 := ⟨ "cmp.isNaN[int]", of_decide_eq_true (by kernel_rfl), Tryz.func106.trans (congrArg some (by kernel_rfl))⟩
 f40 := ⟨ "slices.order2Ordered[int]", of_decide_eq_true (by kernel_rfl), Tryz.func115.trans (congrArg some (by kernel_rfl))⟩
 t0 := Tryz.underlying0
 a0 := Tryz.isAgg0
 z0 := Tryz.sizeOf0
 v0 := Tryz.zeroValue0
 t3 := Tryz.underlying3
 a3 := Tryz.isAgg3
 z3 := Tryz.sizeOf3
 v3 := Tryz.zeroValue3
 t4 := Tryz.underlying4
 a4 := Tryz.isAgg4
 z4 := Tryz.sizeOf4
 v4 := Tryz.zeroValue4
 t5 := Tryz.underlying5
 a5 := Tryz.isAgg5
 z5 := Tryz.sizeOf5
 v5 := Tryz.zeroValue5
 t9 := Tryz.underlying9
 a9 := Tryz.isAgg9
 z9 := Tryz.sizeOf9
 v9 := Tryz.zeroValue9
 t22 := Tryz.underlying30
 a22 := Tryz.isAgg30
 z22 := Tryz.sizeOf30
 v22 := Tryz.zeroValue30
 t23 := Tryz.underlying30
 a23 := Tryz.isAgg30
 z23 := Tryz.sizeOf30
 v23 := Tryz.zeroValue30
 t25 := Tryz.underlying3
 a25 := Tryz.isAgg3
 z25 := Tryz.sizeOf3
 v25 := Tryz.zeroValue3
 t32 := Tryz.underlying139
 a32 := Tryz.isAgg139
 z32 := Tryz.sizeOf139
 v32 := Tryz.zeroValue139
 t35 := Tryz.underlying150
 a35 := Tryz.isAgg150
 z35 := Tryz.sizeOf150
 v35 := Tryz.zeroValue150
 t36 := Tryz.underlying151
 a36 := Tryz.isAgg151
 z36 := Tryz.sizeOf151
 v36 := Tryz.zeroValue151
 t41 := Tryz.underlying156
 a41 := Tryz.isAgg156
 z41 := Tryz.sizeOf156
 v41 := Tryz.zeroValue156
 t44 := Tryz.underlying23
 a44 := Tryz.isAgg23
 z44 := Tryz.sizeOf23
 v44 := Tryz.zeroValue23
 t46 := Tryz.underlying127
 a46 := Tryz.isAgg127
 z46 := Tryz.sizeOf127
 v46 := Tryz.zeroValue127
 t53 := Tryz.underlying170
 a53 := Tryz.isAgg170
 z53 := Tryz.sizeOf170
 v53 := Tryz.zeroValue170
 t57 := Tryz.underlying174
 a57 := Tryz.isAgg174
 z57 := Tryz.sizeOf174
 v57 := Tryz.zeroValue174
 t63 := Tryz.underlying186
 a63 := Tryz.isAgg186
 z63 := Tryz.sizeOf186
 v63 := Tryz.zeroValue186
 t64 := Tryz.underlying187
 a64 := Tryz.isAgg187
 z64 := Tryz.sizeOf187
 v64 := Tryz.zeroValue187
end Go.Proofs.YtpkfdhlkknanmaaGreat
