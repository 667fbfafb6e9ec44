/-
  slices.Sort laid at one seat (printed by lay-plain.mjs; numbers of that seat only).
-/
import Derived.Shelf.SortG.Plain
import Derived.Shelf.SortG.SortNone
import Derived.Shelf.SlGeneric
import Derived.Ground.SlgnProg
import Derived.Test.YtihbckoldblpcaaDoorProg
namespace Go.Proofs
open Go.Shelf
def Tryd.sortI_ren : Go.Shelf.Ren := ⟨fun | 53 => 43 | 64 => 49 | 63 => 48 | 78 => 59 | 79 => 60 | 70 => 50 | 71 => 51 | 72 => 52 | 73 => 53 | 74 => 54 | 75 => 55 | 59 => 56 | 76 => 57 | 77 => 58 | 88 => 61 | 89 => 62 | 90 => 63 | 91 => 64 | 92 => 65 | 68 => 66 | 96 => 67 | n => n, fun | 22 => 22 | 23 => 2 | 3 => 3 | 51 => 53 | 0 => 0 | 67 => 50 | 69 => 51 | 4 => 4 | 61 => 59 | 60 => 58 | 44 => 64 | 5 => 5 | 9 => 9 | 75 => 67 | 79 => 71 | 83 => 73 | 84 => 74 | n => n, fun | n => n⟩
theorem Tryd.sortI : Go.Proofs.SlLaysN.n53 Tryd.prog Tryd.sortI_ren := {
  mixed := by kernel_rfl
  f53 := ⟨Tryd.f43.name, by decide, Tryd.func43.trans (congrArg some (by kernel_rfl))⟩
  f59 := ⟨Tryd.f56.name, by decide, Tryd.func56.trans (congrArg some (by kernel_rfl))⟩
  f63 := ⟨Tryd.f48.name, by decide, Tryd.func48.trans (congrArg some (by kernel_rfl))⟩
  f64 := Tryd.func49.trans (congrArg some (by kernel_rfl))
  f68 := ⟨Tryd.f66.name, by decide, Tryd.func66.trans (congrArg some (by kernel_rfl))⟩
  f70 := ⟨Tryd.f50.name, by decide, Tryd.func50.trans (congrArg some (by kernel_rfl))⟩
  f71 := ⟨Tryd.f51.name, by decide, Tryd.func51.trans (congrArg some (by kernel_rfl))⟩
  f72 := ⟨Tryd.f52.name, by decide, Tryd.func52.trans (congrArg some (by kernel_rfl))⟩
  f73 := ⟨Tryd.f53.name, by decide, Tryd.func53.trans (congrArg some (by kernel_rfl))⟩
  f74 := ⟨Tryd.f54.name, by decide, Tryd.func54.trans (congrArg some (by kernel_rfl))⟩
  f75 := ⟨Tryd.f55.name, by decide, Tryd.func55.trans (congrArg some (by kernel_rfl))⟩
  f76 := ⟨Tryd.f57.name, by decide, Tryd.func57.trans (congrArg some (by kernel_rfl))⟩
  f77 := ⟨Tryd.f58.name, by decide, Tryd.func58.trans (congrArg some (by kernel_rfl))⟩
  f78 := Tryd.func59.trans (congrArg some (by kernel_rfl))
  f79 := Tryd.func60.trans (congrArg some (by kernel_rfl))
  f88 := ⟨Tryd.f61.name, by decide, Tryd.func61.trans (congrArg some (by kernel_rfl))⟩
  f89 := Tryd.func62.trans (congrArg some (by kernel_rfl))
  f90 := Tryd.func63.trans (congrArg some (by kernel_rfl))
  f91 := ⟨Tryd.f64.name, by decide, Tryd.func64.trans (congrArg some (by kernel_rfl))⟩
  f92 := ⟨Tryd.f65.name, by decide, Tryd.func65.trans (congrArg some (by kernel_rfl))⟩
  f96 := ⟨Tryd.f67.name, by decide, Tryd.func67.trans (congrArg some (by kernel_rfl))⟩
  t0 := Tryd.underlying0
  a0 := Tryd.isAgg0
  z0 := Tryd.sizeOf0
  v0 := Tryd.zeroValue0
  t3 := Tryd.underlying3
  a3 := Tryd.isAgg3
  z3 := Tryd.sizeOf3
  v3 := Tryd.zeroValue3
  t4 := Tryd.underlying4
  a4 := Tryd.isAgg4
  z4 := Tryd.sizeOf4
  v4 := Tryd.zeroValue4
  t5 := Tryd.underlying5
  a5 := Tryd.isAgg5
  z5 := Tryd.sizeOf5
  v5 := Tryd.zeroValue5
  t9 := Tryd.underlying9
  a9 := Tryd.isAgg9
  z9 := Tryd.sizeOf9
  v9 := Tryd.zeroValue9
  t22 := Tryd.underlying22
  a22 := Tryd.isAgg22
  z22 := Tryd.sizeOf22
  v22 := Tryd.zeroValue22
  t23 := Tryd.underlying2
  a23 := Tryd.isAgg2
  z23 := Tryd.sizeOf2
  v23 := Tryd.zeroValue2
  t44 := Tryd.underlying64
  a44 := Tryd.isAgg64
  z44 := Tryd.sizeOf64
  v44 := Tryd.zeroValue64
  t51 := Tryd.underlying53
  a51 := Tryd.isAgg53
  z51 := Tryd.sizeOf53
  v51 := Tryd.zeroValue53
  t60 := Tryd.underlying58
  a60 := Tryd.isAgg58
  z60 := Tryd.sizeOf58
  v60 := Tryd.zeroValue58
  t61 := Tryd.underlying59
  a61 := Tryd.isAgg59
  z61 := Tryd.sizeOf59
  v61 := Tryd.zeroValue59
  t67 := Tryd.underlying50
  a67 := Tryd.isAgg50
  z67 := Tryd.sizeOf50
  v67 := Tryd.zeroValue50
  t69 := Tryd.underlying51
  a69 := Tryd.isAgg51
  z69 := Tryd.sizeOf51
  v69 := Tryd.zeroValue51
  t75 := Tryd.underlying67
  a75 := Tryd.isAgg67
  z75 := Tryd.sizeOf67
  v75 := Tryd.zeroValue67
  t79 := Tryd.underlying71
  a79 := Tryd.isAgg71
  z79 := Tryd.sizeOf71
  v79 := Tryd.zeroValue71
  t83 := Tryd.underlying73
  a83 := Tryd.isAgg73
  z83 := Tryd.sizeOf73
  v83 := Tryd.zeroValue73
  t84 := Tryd.underlying74
  a84 := Tryd.isAgg74
  z84 := Tryd.sizeOf74
  v84 := Tryd.zeroValue74 }
end Go.Proofs
