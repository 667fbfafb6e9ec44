/- slices.Sort laid at one seat (printed by lay-plain.mjs; numbers of that seat only). -/
import Derived.Shelf.SortG.Plain
import Derived.Shelf.SortG.SortNone
import Derived.Shelf.SlGeneric
import Derived.Ground.SlgnProg
import Derived.Test.YtfclkbppmkjkeaaProg
namespace Go.Proofs
open Go.Shelf
def Try.sortI_ren : Go.Shelf.Ren := ⟨fun | 53 => 73 | 64 => 130 | 63 => 129 | 78 => 172 | 79 => 173 | 70 => 163 | 71 => 164 | 72 => 165 | 73 => 166 | 74 => 167 | 75 => 168 | 59 => 169 | 76 => 170 | 77 => 171 | 88 => 192 | 89 => 193 | 90 => 194 | 91 => 195 | 92 => 196 | 68 => 197 | 96 => 202 | n => n, fun | 22 => 25 | 23 => 2 | 3 => 3 | 51 => 134 | 0 => 0 | 67 => 162 | 69 => 125 | 4 => 4 | 61 => 154 | 60 => 153 | 44 => 159 | 5 => 5 | 9 => 9 | 75 => 175 | 79 => 179 | 83 => 184 | 84 => 185 | n => n, fun | n => n⟩
theorem Try.sortI : Go.Proofs.SlLaysN.n53 Try.prog Try.sortI_ren := {
  mixed := by kernel_rfl
  f53 := ⟨Try.f73.name, by decide, Try.func73.trans (congrArg some (by kernel_rfl))⟩
  f59 := ⟨Try.f169.name, by decide, Try.func169.trans (congrArg some (by kernel_rfl))⟩
  f63 := ⟨Try.f129.name, by decide, Try.func129.trans (congrArg some (by kernel_rfl))⟩
  f64 := Try.func130.trans (congrArg some (by kernel_rfl))
  f68 := ⟨Try.f197.name, by decide, Try.func197.trans (congrArg some (by kernel_rfl))⟩
  f70 := ⟨Try.f163.name, by decide, Try.func163.trans (congrArg some (by kernel_rfl))⟩
  f71 := ⟨Try.f164.name, by decide, Try.func164.trans (congrArg some (by kernel_rfl))⟩
  f72 := ⟨Try.f165.name, by decide, Try.func165.trans (congrArg some (by kernel_rfl))⟩
  f73 := ⟨Try.f166.name, by decide, Try.func166.trans (congrArg some (by kernel_rfl))⟩
  f74 := ⟨Try.f167.name, by decide, Try.func167.trans (congrArg some (by kernel_rfl))⟩
  f75 := ⟨Try.f168.name, by decide, Try.func168.trans (congrArg some (by kernel_rfl))⟩
  f76 := ⟨Try.f170.name, by decide, Try.func170.trans (congrArg some (by kernel_rfl))⟩
  f77 := ⟨Try.f171.name, by decide, Try.func171.trans (congrArg some (by kernel_rfl))⟩
  f78 := Try.func172.trans (congrArg some (by kernel_rfl))
  f79 := Try.func173.trans (congrArg some (by kernel_rfl))
  f88 := ⟨Try.f192.name, by decide, Try.func192.trans (congrArg some (by kernel_rfl))⟩
  f89 := Try.func193.trans (congrArg some (by kernel_rfl))
  f90 := Try.func194.trans (congrArg some (by kernel_rfl))
  f91 := ⟨Try.f195.name, by decide, Try.func195.trans (congrArg some (by kernel_rfl))⟩
  f92 := ⟨Try.f196.name, by decide, Try.func196.trans (congrArg some (by kernel_rfl))⟩
  f96 := ⟨Try.f202.name, by decide, Try.func202.trans (congrArg some (by kernel_rfl))⟩
  t0 := Try.underlying0
  a0 := Try.isAgg0
  z0 := Try.sizeOf0
  v0 := Try.zeroValue0
  t3 := Try.underlying3
  a3 := Try.isAgg3
  z3 := Try.sizeOf3
  v3 := Try.zeroValue3
  t4 := Try.underlying4
  a4 := Try.isAgg4
  z4 := Try.sizeOf4
  v4 := Try.zeroValue4
  t5 := Try.underlying5
  a5 := Try.isAgg5
  z5 := Try.sizeOf5
  v5 := Try.zeroValue5
  t9 := Try.underlying9
  a9 := Try.isAgg9
  z9 := Try.sizeOf9
  v9 := Try.zeroValue9
  t22 := Try.underlying25
  a22 := Try.isAgg25
  z22 := Try.sizeOf25
  v22 := Try.zeroValue25
  t23 := Try.underlying2
  a23 := Try.isAgg2
  z23 := Try.sizeOf2
  v23 := Try.zeroValue2
  t44 := Try.underlying159
  a44 := Try.isAgg159
  z44 := Try.sizeOf159
  v44 := Try.zeroValue159
  t51 := Try.underlying134
  a51 := Try.isAgg134
  z51 := Try.sizeOf134
  v51 := Try.zeroValue134
  t60 := Try.underlying153
  a60 := Try.isAgg153
  z60 := Try.sizeOf153
  v60 := Try.zeroValue153
  t61 := Try.underlying154
  a61 := Try.isAgg154
  z61 := Try.sizeOf154
  v61 := Try.zeroValue154
  t67 := Try.underlying162
  a67 := Try.isAgg162
  z67 := Try.sizeOf162
  v67 := Try.zeroValue162
  t69 := Try.underlying125
  a69 := Try.isAgg125
  z69 := Try.sizeOf125
  v69 := Try.zeroValue125
  t75 := Try.underlying175
  a75 := Try.isAgg175
  z75 := Try.sizeOf175
  v75 := Try.zeroValue175
  t79 := Try.underlying179
  a79 := Try.isAgg179
  z79 := Try.sizeOf179
  v79 := Try.zeroValue179
  t83 := Try.underlying184
  a83 := Try.isAgg184
  z83 := Try.sizeOf184
  v83 := Try.zeroValue184
  t84 := Try.underlying185
  a84 := Try.isAgg185
  z84 := Try.sizeOf185
  v84 := Try.zeroValue185 }
end Go.Proofs
