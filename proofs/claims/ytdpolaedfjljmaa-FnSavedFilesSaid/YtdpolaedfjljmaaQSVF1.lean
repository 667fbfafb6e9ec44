/- slices.Sort laid at one seat (printed by lay-plain.mjs; numbers of that seat only). -/
import Derived.Shelf.SortG.Plain
import Derived.Shelf.SortG.SortNone
import Derived.Shelf.SlGeneric
import Derived.Ground.SlgnProg
import Derived.Test.YtdpolaedfjljmaaProg
namespace Go.Proofs
open Go.Shelf
def Try.sortI_ren : Go.Shelf.Ren := ⟨fun | 53 => 160 | 64 => 183 | 63 => 182 | 78 => 199 | 79 => 200 | 70 => 190 | 71 => 191 | 72 => 192 | 73 => 193 | 74 => 194 | 75 => 195 | 59 => 196 | 76 => 197 | 77 => 198 | 88 => 201 | 89 => 202 | 90 => 203 | 91 => 204 | 92 => 205 | 68 => 206 | 96 => 207 | n => n, fun | 22 => 22 | 23 => 2 | 3 => 3 | 51 => 164 | 0 => 0 | 67 => 189 | 69 => 145 | 4 => 4 | 61 => 194 | 60 => 193 | 44 => 199 | 5 => 5 | 9 => 9 | 75 => 203 | 79 => 207 | 83 => 209 | 84 => 210 | n => n, fun | n => n⟩
theorem Try.sortI : Go.Proofs.SlLaysN.n53 Try.prog Try.sortI_ren := {
  mixed := by kernel_rfl
  f53 := ⟨Try.f160.name, by decide, Try.func160.trans (congrArg some (by kernel_rfl))⟩
  f59 := ⟨Try.f196.name, by decide, Try.func196.trans (congrArg some (by kernel_rfl))⟩
  f63 := ⟨Try.f182.name, by decide, Try.func182.trans (congrArg some (by kernel_rfl))⟩
  f64 := Try.func183.trans (congrArg some (by kernel_rfl))
  f68 := ⟨Try.f206.name, by decide, Try.func206.trans (congrArg some (by kernel_rfl))⟩
  f70 := ⟨Try.f190.name, by decide, Try.func190.trans (congrArg some (by kernel_rfl))⟩
  f71 := ⟨Try.f191.name, by decide, Try.func191.trans (congrArg some (by kernel_rfl))⟩
  f72 := ⟨Try.f192.name, by decide, Try.func192.trans (congrArg some (by kernel_rfl))⟩
  f73 := ⟨Try.f193.name, by decide, Try.func193.trans (congrArg some (by kernel_rfl))⟩
  f74 := ⟨Try.f194.name, by decide, Try.func194.trans (congrArg some (by kernel_rfl))⟩
  f75 := ⟨Try.f195.name, by decide, Try.func195.trans (congrArg some (by kernel_rfl))⟩
  f76 := ⟨Try.f197.name, by decide, Try.func197.trans (congrArg some (by kernel_rfl))⟩
  f77 := ⟨Try.f198.name, by decide, Try.func198.trans (congrArg some (by kernel_rfl))⟩
  f78 := Try.func199.trans (congrArg some (by kernel_rfl))
  f79 := Try.func200.trans (congrArg some (by kernel_rfl))
  f88 := ⟨Try.f201.name, by decide, Try.func201.trans (congrArg some (by kernel_rfl))⟩
  f89 := Try.func202.trans (congrArg some (by kernel_rfl))
  f90 := Try.func203.trans (congrArg some (by kernel_rfl))
  f91 := ⟨Try.f204.name, by decide, Try.func204.trans (congrArg some (by kernel_rfl))⟩
  f92 := ⟨Try.f205.name, by decide, Try.func205.trans (congrArg some (by kernel_rfl))⟩
  f96 := ⟨Try.f207.name, by decide, Try.func207.trans (congrArg some (by kernel_rfl))⟩
  t0 := Try.underlying0
  a0 := Try.isAgg0
  z0 := Try.sizeOf0
  v0 := Try.zeroValue0
  t3 := Try.underlying3
  a3 := Try.isAgg3
  z3 := Try.sizeOf3
  v3 := Try.zeroValue3
  t4 := Try.underlying4
  a4 := Try.isAgg4
  z4 := Try.sizeOf4
  v4 := Try.zeroValue4
  t5 := Try.underlying5
  a5 := Try.isAgg5
  z5 := Try.sizeOf5
  v5 := Try.zeroValue5
  t9 := Try.underlying9
  a9 := Try.isAgg9
  z9 := Try.sizeOf9
  v9 := Try.zeroValue9
  t22 := Try.underlying22
  a22 := Try.isAgg22
  z22 := Try.sizeOf22
  v22 := Try.zeroValue22
  t23 := Try.underlying2
  a23 := Try.isAgg2
  z23 := Try.sizeOf2
  v23 := Try.zeroValue2
  t44 := Try.underlying199
  a44 := Try.isAgg199
  z44 := Try.sizeOf199
  v44 := Try.zeroValue199
  t51 := Try.underlying164
  a51 := Try.isAgg164
  z51 := Try.sizeOf164
  v51 := Try.zeroValue164
  t60 := Try.underlying193
  a60 := Try.isAgg193
  z60 := Try.sizeOf193
  v60 := Try.zeroValue193
  t61 := Try.underlying194
  a61 := Try.isAgg194
  z61 := Try.sizeOf194
  v61 := Try.zeroValue194
  t67 := Try.underlying189
  a67 := Try.isAgg189
  z67 := Try.sizeOf189
  v67 := Try.zeroValue189
  t69 := Try.underlying145
  a69 := Try.isAgg145
  z69 := Try.sizeOf145
  v69 := Try.zeroValue145
  t75 := Try.underlying203
  a75 := Try.isAgg203
  z75 := Try.sizeOf203
  v75 := Try.zeroValue203
  t79 := Try.underlying207
  a79 := Try.isAgg207
  z79 := Try.sizeOf207
  v79 := Try.zeroValue207
  t83 := Try.underlying209
  a83 := Try.isAgg209
  z83 := Try.sizeOf209
  v83 := Try.zeroValue209
  t84 := Try.underlying210
  a84 := Try.isAgg210
  z84 := Try.sizeOf210
  v84 := Try.zeroValue210 }
end Go.Proofs
