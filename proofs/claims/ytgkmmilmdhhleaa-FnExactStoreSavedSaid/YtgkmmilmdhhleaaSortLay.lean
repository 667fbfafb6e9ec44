/-
  slices.Sort laid at one seat (printed by lay-plain.mjs; numbers of that seat only).
-/
import Derived.Shelf.SortG.Plain
import Derived.Shelf.SortG.SortNone
import Derived.Shelf.SlGeneric
import Derived.Ground.SlgnProg
import Derived.Test.YtgkmmilmdhhleaaProg
namespace Go.Proofs
open Go.Shelf
def Try.sortI_ren : Go.Shelf.Ren := ⟨fun | 53 => 198 | 64 => 206 | 63 => 205 | 78 => 178 | 79 => 216 | 70 => 207 | 71 => 208 | 72 => 209 | 73 => 210 | 74 => 211 | 75 => 212 | 59 => 213 | 76 => 214 | 77 => 215 | 88 => 217 | 89 => 218 | 90 => 219 | 91 => 220 | 92 => 221 | 68 => 222 | 96 => 223 | n => n, fun | 22 => 31 | 23 => 2 | 3 => 3 | 51 => 145 | 0 => 0 | 67 => 150 | 69 => 146 | 4 => 4 | 61 => 198 | 60 => 197 | 44 => 203 | 5 => 5 | 9 => 9 | 75 => 206 | 79 => 210 | 83 => 212 | 84 => 213 | n => n, fun | n => n⟩
theorem Try.sortI : Go.Proofs.SlLaysN.n53 Try.prog Try.sortI_ren := {
  mixed := by kernel_rfl
  f53 := ⟨Try.f198.name, by decide, Try.func198.trans (congrArg some (by kernel_rfl))⟩
  f59 := ⟨Try.f213.name, by decide, Try.func213.trans (congrArg some (by kernel_rfl))⟩
  f63 := ⟨Try.f205.name, by decide, Try.func205.trans (congrArg some (by kernel_rfl))⟩
  f64 := Try.func206.trans (congrArg some (by kernel_rfl))
  f68 := ⟨Try.f222.name, by decide, Try.func222.trans (congrArg some (by kernel_rfl))⟩
  f70 := ⟨Try.f207.name, by decide, Try.func207.trans (congrArg some (by kernel_rfl))⟩
  f71 := ⟨Try.f208.name, by decide, Try.func208.trans (congrArg some (by kernel_rfl))⟩
  f72 := ⟨Try.f209.name, by decide, Try.func209.trans (congrArg some (by kernel_rfl))⟩
  f73 := ⟨Try.f210.name, by decide, Try.func210.trans (congrArg some (by kernel_rfl))⟩
  f74 := ⟨Try.f211.name, by decide, Try.func211.trans (congrArg some (by kernel_rfl))⟩
  f75 := ⟨Try.f212.name, by decide, Try.func212.trans (congrArg some (by kernel_rfl))⟩
  f76 := ⟨Try.f214.name, by decide, Try.func214.trans (congrArg some (by kernel_rfl))⟩
  f77 := ⟨Try.f215.name, by decide, Try.func215.trans (congrArg some (by kernel_rfl))⟩
  f78 := Try.func178.trans (congrArg some (by kernel_rfl))
  f79 := Try.func216.trans (congrArg some (by kernel_rfl))
  f88 := ⟨Try.f217.name, by decide, Try.func217.trans (congrArg some (by kernel_rfl))⟩
  f89 := Try.func218.trans (congrArg some (by kernel_rfl))
  f90 := Try.func219.trans (congrArg some (by kernel_rfl))
  f91 := ⟨Try.f220.name, by decide, Try.func220.trans (congrArg some (by kernel_rfl))⟩
  f92 := ⟨Try.f221.name, by decide, Try.func221.trans (congrArg some (by kernel_rfl))⟩
  f96 := ⟨Try.f223.name, by decide, Try.func223.trans (congrArg some (by kernel_rfl))⟩
  t0 := Try.underlying0
  a0 := Try.isAgg0
  z0 := Try.sizeOf0
  v0 := Try.zeroValue0
  t3 := Try.underlying3
  a3 := Try.isAgg3
  z3 := Try.sizeOf3
  v3 := Try.zeroValue3
  t4 := Try.underlying4
  a4 := Try.isAgg4
  z4 := Try.sizeOf4
  v4 := Try.zeroValue4
  t5 := Try.underlying5
  a5 := Try.isAgg5
  z5 := Try.sizeOf5
  v5 := Try.zeroValue5
  t9 := Try.underlying9
  a9 := Try.isAgg9
  z9 := Try.sizeOf9
  v9 := Try.zeroValue9
  t22 := Try.underlying31
  a22 := Try.isAgg31
  z22 := Try.sizeOf31
  v22 := Try.zeroValue31
  t23 := Try.underlying2
  a23 := Try.isAgg2
  z23 := Try.sizeOf2
  v23 := Try.zeroValue2
  t44 := Try.underlying203
  a44 := Try.isAgg203
  z44 := Try.sizeOf203
  v44 := Try.zeroValue203
  t51 := Try.underlying145
  a51 := Try.isAgg145
  z51 := Try.sizeOf145
  v51 := Try.zeroValue145
  t60 := Try.underlying197
  a60 := Try.isAgg197
  z60 := Try.sizeOf197
  v60 := Try.zeroValue197
  t61 := Try.underlying198
  a61 := Try.isAgg198
  z61 := Try.sizeOf198
  v61 := Try.zeroValue198
  t67 := Try.underlying150
  a67 := Try.isAgg150
  z67 := Try.sizeOf150
  v67 := Try.zeroValue150
  t69 := Try.underlying146
  a69 := Try.isAgg146
  z69 := Try.sizeOf146
  v69 := Try.zeroValue146
  t75 := Try.underlying206
  a75 := Try.isAgg206
  z75 := Try.sizeOf206
  v75 := Try.zeroValue206
  t79 := Try.underlying210
  a79 := Try.isAgg210
  z79 := Try.sizeOf210
  v79 := Try.zeroValue210
  t83 := Try.underlying212
  a83 := Try.isAgg212
  z83 := Try.sizeOf212
  v83 := Try.zeroValue212
  t84 := Try.underlying213
  a84 := Try.isAgg213
  z84 := Try.sizeOf213
  v84 := Try.zeroValue213 }
end Go.Proofs
