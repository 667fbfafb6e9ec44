/-
  slices.Sort laid at one seat (printed by lay-plain.mjs; numbers of that seat only).
-/
import Derived.Shelf.SortG.Plain
import Derived.Shelf.SortG.SortNone
import Derived.Shelf.SlGeneric
import Derived.Ground.SlgnProg
import Derived.Test.YtihbckoldblpcaaProg
namespace Go.Proofs
open Go.Shelf
def Try.sortI_ren : Go.Shelf.Ren := ⟨fun | 53 => 77 | 64 => 126 | 63 => 125 | 78 => 155 | 79 => 156 | 70 => 146 | 71 => 147 | 72 => 148 | 73 => 149 | 74 => 150 | 75 => 151 | 59 => 152 | 76 => 153 | 77 => 154 | 88 => 166 | 89 => 167 | 90 => 168 | 91 => 169 | 92 => 170 | 68 => 136 | 96 => 173 | n => n, fun | 22 => 37 | 23 => 2 | 3 => 3 | 51 => 119 | 0 => 0 | 67 => 143 | 69 => 126 | 4 => 4 | 61 => 135 | 60 => 134 | 44 => 140 | 5 => 5 | 9 => 9 | 75 => 150 | 79 => 154 | 83 => 156 | 84 => 157 | n => n, fun | n => n⟩
theorem Try.sortI : Go.Proofs.SlLaysN.n53 Try.prog Try.sortI_ren := {
  mixed := by kernel_rfl
  f53 := ⟨Try.f77.name, by decide, Try.func77.trans (congrArg some (by kernel_rfl))⟩
  f59 := ⟨Try.f152.name, by decide, Try.func152.trans (congrArg some (by kernel_rfl))⟩
  f63 := ⟨Try.f125.name, by decide, Try.func125.trans (congrArg some (by kernel_rfl))⟩
  f64 := Try.func126.trans (congrArg some (by kernel_rfl))
  f68 := ⟨Try.f136.name, by decide, Try.func136.trans (congrArg some (by kernel_rfl))⟩
  f70 := ⟨Try.f146.name, by decide, Try.func146.trans (congrArg some (by kernel_rfl))⟩
  f71 := ⟨Try.f147.name, by decide, Try.func147.trans (congrArg some (by kernel_rfl))⟩
  f72 := ⟨Try.f148.name, by decide, Try.func148.trans (congrArg some (by kernel_rfl))⟩
  f73 := ⟨Try.f149.name, by decide, Try.func149.trans (congrArg some (by kernel_rfl))⟩
  f74 := ⟨Try.f150.name, by decide, Try.func150.trans (congrArg some (by kernel_rfl))⟩
  f75 := ⟨Try.f151.name, by decide, Try.func151.trans (congrArg some (by kernel_rfl))⟩
  f76 := ⟨Try.f153.name, by decide, Try.func153.trans (congrArg some (by kernel_rfl))⟩
  f77 := ⟨Try.f154.name, by decide, Try.func154.trans (congrArg some (by kernel_rfl))⟩
  f78 := Try.func155.trans (congrArg some (by kernel_rfl))
  f79 := Try.func156.trans (congrArg some (by kernel_rfl))
  f88 := ⟨Try.f166.name, by decide, Try.func166.trans (congrArg some (by kernel_rfl))⟩
  f89 := Try.func167.trans (congrArg some (by kernel_rfl))
  f90 := Try.func168.trans (congrArg some (by kernel_rfl))
  f91 := ⟨Try.f169.name, by decide, Try.func169.trans (congrArg some (by kernel_rfl))⟩
  f92 := ⟨Try.f170.name, by decide, Try.func170.trans (congrArg some (by kernel_rfl))⟩
  f96 := ⟨Try.f173.name, by decide, Try.func173.trans (congrArg some (by kernel_rfl))⟩
  t0 := Try.underlying0
  a0 := Try.isAgg0
  z0 := Try.sizeOf0
  v0 := Try.zeroValue0
  t3 := Try.underlying3
  a3 := Try.isAgg3
  z3 := Try.sizeOf3
  v3 := Try.zeroValue3
  t4 := Try.underlying4
  a4 := Try.isAgg4
  z4 := Try.sizeOf4
  v4 := Try.zeroValue4
  t5 := Try.underlying5
  a5 := Try.isAgg5
  z5 := Try.sizeOf5
  v5 := Try.zeroValue5
  t9 := Try.underlying9
  a9 := Try.isAgg9
  z9 := Try.sizeOf9
  v9 := Try.zeroValue9
  t22 := Try.underlying37
  a22 := Try.isAgg37
  z22 := Try.sizeOf37
  v22 := Try.zeroValue37
  t23 := Try.underlying2
  a23 := Try.isAgg2
  z23 := Try.sizeOf2
  v23 := Try.zeroValue2
  t44 := Try.underlying140
  a44 := Try.isAgg140
  z44 := Try.sizeOf140
  v44 := Try.zeroValue140
  t51 := Try.underlying119
  a51 := Try.isAgg119
  z51 := Try.sizeOf119
  v51 := Try.zeroValue119
  t60 := Try.underlying134
  a60 := Try.isAgg134
  z60 := Try.sizeOf134
  v60 := Try.zeroValue134
  t61 := Try.underlying135
  a61 := Try.isAgg135
  z61 := Try.sizeOf135
  v61 := Try.zeroValue135
  t67 := Try.underlying143
  a67 := Try.isAgg143
  z67 := Try.sizeOf143
  v67 := Try.zeroValue143
  t69 := Try.underlying126
  a69 := Try.isAgg126
  z69 := Try.sizeOf126
  v69 := Try.zeroValue126
  t75 := Try.underlying150
  a75 := Try.isAgg150
  z75 := Try.sizeOf150
  v75 := Try.zeroValue150
  t79 := Try.underlying154
  a79 := Try.isAgg154
  z79 := Try.sizeOf154
  v79 := Try.zeroValue154
  t83 := Try.underlying156
  a83 := Try.isAgg156
  z83 := Try.sizeOf156
  v83 := Try.zeroValue156
  t84 := Try.underlying157
  a84 := Try.isAgg157
  z84 := Try.sizeOf157
  v84 := Try.zeroValue157 }
end Go.Proofs
