/- slices.Sort laid at one seat (printed by lay-plain.mjs; numbers of that seat only). -/
import Derived.Shelf.SortG.Plain
import Derived.Shelf.SortG.SortNone
import Derived.Shelf.SlGeneric
import Derived.Ground.SlgnProg
import Derived.Test.YtncbkbfkdgggkaaDoorProg
set_option linter.unusedVariables false
set_option linter.unusedSimpArgs false
namespace Go.Proofs
open Go.Shelf
def Tryd.sortI_ren : Go.Shelf.Ren := ⟨fun | 53 => 55 | 64 => 74 | 63 => 73 | 78 => 88 | 79 => 89 | 70 => 80 | 71 => 81 | 72 => 82 | 73 => 83 | 74 => 84 | 75 => 85 | 59 => 76 | 76 => 86 | 77 => 87 | 88 => 91 | 89 => 92 | 90 => 93 | 91 => 94 | 92 => 95 | 68 => 56 | 96 => 97 | n => n, fun | 22 => 25 | 23 => 2 | 3 => 3 | 51 => 82 | 0 => 0 | 67 => 73 | 69 => 74 | 4 => 4 | 61 => 100 | 60 => 99 | 44 => 104 | 5 => 5 | 9 => 9 | 75 => 107 | 79 => 111 | 83 => 113 | 84 => 114 | n => n, fun | n => n⟩
theorem Tryd.sortI : Go.Proofs.SlLaysN.n53 Tryd.prog Tryd.sortI_ren := {
  mixed := by kernel_rfl
  f53 := ⟨Tryd.f55.name, by decide, Tryd.func55.trans (congrArg some (by kernel_rfl))⟩
  f59 := ⟨Tryd.f76.name, by decide, Tryd.func76.trans (congrArg some (by kernel_rfl))⟩
  f63 := ⟨Tryd.f73.name, by decide, Tryd.func73.trans (congrArg some (by kernel_rfl))⟩
  f64 := Tryd.func74.trans (congrArg some (by kernel_rfl))
  f68 := ⟨Tryd.f56.name, by decide, Tryd.func56.trans (congrArg some (by kernel_rfl))⟩
  f70 := ⟨Tryd.f80.name, by decide, Tryd.func80.trans (congrArg some (by kernel_rfl))⟩
  f71 := ⟨Tryd.f81.name, by decide, Tryd.func81.trans (congrArg some (by kernel_rfl))⟩
  f72 := ⟨Tryd.f82.name, by decide, Tryd.func82.trans (congrArg some (by kernel_rfl))⟩
  f73 := ⟨Tryd.f83.name, by decide, Tryd.func83.trans (congrArg some (by kernel_rfl))⟩
  f74 := ⟨Tryd.f84.name, by decide, Tryd.func84.trans (congrArg some (by kernel_rfl))⟩
  f75 := ⟨Tryd.f85.name, by decide, Tryd.func85.trans (congrArg some (by kernel_rfl))⟩
  f76 := ⟨Tryd.f86.name, by decide, Tryd.func86.trans (congrArg some (by kernel_rfl))⟩
  f77 := ⟨Tryd.f87.name, by decide, Tryd.func87.trans (congrArg some (by kernel_rfl))⟩
  f78 := Tryd.func88.trans (congrArg some (by kernel_rfl))
  f79 := Tryd.func89.trans (congrArg some (by kernel_rfl))
  f88 := ⟨Tryd.f91.name, by decide, Tryd.func91.trans (congrArg some (by kernel_rfl))⟩
  f89 := Tryd.func92.trans (congrArg some (by kernel_rfl))
  f90 := Tryd.func93.trans (congrArg some (by kernel_rfl))
  f91 := ⟨Tryd.f94.name, by decide, Tryd.func94.trans (congrArg some (by kernel_rfl))⟩
  f92 := ⟨Tryd.f95.name, by decide, Tryd.func95.trans (congrArg some (by kernel_rfl))⟩
  f96 := ⟨Tryd.f97.name, by decide, Tryd.func97.trans (congrArg some (by kernel_rfl))⟩
  t0 := Tryd.underlying0
  a0 := Tryd.isAgg0
  z0 := Tryd.sizeOf0
  v0 := Tryd.zeroValue0
  t3 := Tryd.underlying3
  a3 := Tryd.isAgg3
  z3 := Tryd.sizeOf3
  v3 := Tryd.zeroValue3
  t4 := Tryd.underlying4
  a4 := Tryd.isAgg4
  z4 := Tryd.sizeOf4
  v4 := Tryd.zeroValue4
  t5 := Tryd.underlying5
  a5 := Tryd.isAgg5
  z5 := Tryd.sizeOf5
  v5 := Tryd.zeroValue5
  t9 := Tryd.underlying9
  a9 := Tryd.isAgg9
  z9 := Tryd.sizeOf9
  v9 := Tryd.zeroValue9
  t22 := Tryd.underlying25
  a22 := Tryd.isAgg25
  z22 := Tryd.sizeOf25
  v22 := Tryd.zeroValue25
  t23 := Tryd.underlying2
  a23 := Tryd.isAgg2
  z23 := Tryd.sizeOf2
  v23 := Tryd.zeroValue2
  t44 := Tryd.underlying104
  a44 := Tryd.isAgg104
  z44 := Tryd.sizeOf104
  v44 := Tryd.zeroValue104
  t51 := Tryd.underlying82
  a51 := Tryd.isAgg82
  z51 := Tryd.sizeOf82
  v51 := Tryd.zeroValue82
  t60 := Tryd.underlying99
  a60 := Tryd.isAgg99
  z60 := Tryd.sizeOf99
  v60 := Tryd.zeroValue99
  t61 := Tryd.underlying100
  a61 := Tryd.isAgg100
  z61 := Tryd.sizeOf100
  v61 := Tryd.zeroValue100
  t67 := Tryd.underlying73
  a67 := Tryd.isAgg73
  z67 := Tryd.sizeOf73
  v67 := Tryd.zeroValue73
  t69 := Tryd.underlying74
  a69 := Tryd.isAgg74
  z69 := Tryd.sizeOf74
  v69 := Tryd.zeroValue74
  t75 := Tryd.underlying107
  a75 := Tryd.isAgg107
  z75 := Tryd.sizeOf107
  v75 := Tryd.zeroValue107
  t79 := Tryd.underlying111
  a79 := Tryd.isAgg111
  z79 := Tryd.sizeOf111
  v79 := Tryd.zeroValue111
  t83 := Tryd.underlying113
  a83 := Tryd.isAgg113
  z83 := Tryd.sizeOf113
  v83 := Tryd.zeroValue113
  t84 := Tryd.underlying114
  a84 := Tryd.isAgg114
  z84 := Tryd.sizeOf114
  v84 := Tryd.zeroValue114 }
end Go.Proofs
