/-
  The library's contracts of slices.Sort and slices.DeleteFunc, laid at this program.
-/
import Derived.Shelf.SortM.Plain
import Derived.Shelf.SortM.SortNone
import Derived.Test.YtnimmbjbinpajaaDoorProg
namespace Go.Proofs
open Go.Shelf
def Tryd.sortL_ren : Go.Shelf.Ren := ⟨fun | 5 => 166 | 8 => 176 | 7 => 175 | 19 => 188 | 20 => 189 | 10 => 179 | 11 => 180 | 12 => 181 | 13 => 182 | 14 => 183 | 15 => 184 | 16 => 185 | 17 => 186 | 18 => 187 | 30 => 190 | 31 => 191 | 32 => 192 | 33 => 193 | 34 => 194 | 35 => 174 | 40 => 195 | n => n, fun | 23 => 22 | 25 => 2 | 3 => 3 | 32 => 169 | 22 => 22 | 0 => 0 | 44 => 198 | 46 => 62 | 4 => 4 | 36 => 205 | 35 => 204 | 41 => 157 | 5 => 5 | 9 => 9 | 53 => 211 | 57 => 215 | 63 => 217 | 64 => 218 | n => n, fun | n => n⟩
theorem Tryd.sortL : Go.Proofs.SlLaysM.n5 Tryd.prog Tryd.sortL_ren := {
  mixed := by kernel_rfl
  f5 := ⟨Tryd.f166.name, by decide, Tryd.func166.trans (congrArg some (by kernel_rfl))⟩
  f7 := ⟨Tryd.f175.name, by decide, Tryd.func175.trans (congrArg some (by kernel_rfl))⟩
  f8 := Tryd.func176.trans (congrArg some (by kernel_rfl))
  f10 := ⟨Tryd.f179.name, by decide, Tryd.func179.trans (congrArg some (by kernel_rfl))⟩
  f11 := ⟨Tryd.f180.name, by decide, Tryd.func180.trans (congrArg some (by kernel_rfl))⟩
  f12 := ⟨Tryd.f181.name, by decide, Tryd.func181.trans (congrArg some (by kernel_rfl))⟩
  f13 := ⟨Tryd.f182.name, by decide, Tryd.func182.trans (congrArg some (by kernel_rfl))⟩
  f14 := ⟨Tryd.f183.name, by decide, Tryd.func183.trans (congrArg some (by kernel_rfl))⟩
  f15 := ⟨Tryd.f184.name, by decide, Tryd.func184.trans (congrArg some (by kernel_rfl))⟩
  f16 := ⟨Tryd.f185.name, by decide, Tryd.func185.trans (congrArg some (by kernel_rfl))⟩
  f17 := ⟨Tryd.f186.name, by decide, Tryd.func186.trans (congrArg some (by kernel_rfl))⟩
  f18 := ⟨Tryd.f187.name, by decide, Tryd.func187.trans (congrArg some (by kernel_rfl))⟩
  f19 := Tryd.func188.trans (congrArg some (by kernel_rfl))
  f20 := Tryd.func189.trans (congrArg some (by kernel_rfl))
  f30 := ⟨Tryd.f190.name, by decide, Tryd.func190.trans (congrArg some (by kernel_rfl))⟩
  f31 := Tryd.func191.trans (congrArg some (by kernel_rfl))
  f32 := Tryd.func192.trans (congrArg some (by kernel_rfl))
  f33 := ⟨Tryd.f193.name, by decide, Tryd.func193.trans (congrArg some (by kernel_rfl))⟩
  f34 := ⟨Tryd.f194.name, by decide, Tryd.func194.trans (congrArg some (by kernel_rfl))⟩
  f35 := ⟨Tryd.f174.name, by decide, Tryd.func174.trans (congrArg some (by kernel_rfl))⟩
  f40 := ⟨Tryd.f195.name, by decide, Tryd.func195.trans (congrArg some (by kernel_rfl))⟩
  t0 := Tryd.underlying0
  a0 := Tryd.isAgg0
  z0 := Tryd.sizeOf0
  v0 := Tryd.zeroValue0
  t3 := Tryd.underlying3
  a3 := Tryd.isAgg3
  z3 := Tryd.sizeOf3
  v3 := Tryd.zeroValue3
  t4 := Tryd.underlying4
  a4 := Tryd.isAgg4
  z4 := Tryd.sizeOf4
  v4 := Tryd.zeroValue4
  t5 := Tryd.underlying5
  a5 := Tryd.isAgg5
  z5 := Tryd.sizeOf5
  v5 := Tryd.zeroValue5
  t9 := Tryd.underlying9
  a9 := Tryd.isAgg9
  z9 := Tryd.sizeOf9
  v9 := Tryd.zeroValue9
  t22 := Tryd.underlying22
  a22 := Tryd.isAgg22
  z22 := Tryd.sizeOf22
  v22 := Tryd.zeroValue22
  t23 := Tryd.underlying22
  a23 := Tryd.isAgg22
  z23 := Tryd.sizeOf22
  v23 := Tryd.zeroValue22
  t25 := Tryd.underlying2
  a25 := Tryd.isAgg2
  z25 := Tryd.sizeOf2
  v25 := Tryd.zeroValue2
  t32 := Tryd.underlying169
  a32 := Tryd.isAgg169
  z32 := Tryd.sizeOf169
  v32 := Tryd.zeroValue169
  t35 := Tryd.underlying204
  a35 := Tryd.isAgg204
  z35 := Tryd.sizeOf204
  v35 := Tryd.zeroValue204
  t36 := Tryd.underlying205
  a36 := Tryd.isAgg205
  z36 := Tryd.sizeOf205
  v36 := Tryd.zeroValue205
  t41 := Tryd.underlying157
  a41 := Tryd.isAgg157
  z41 := Tryd.sizeOf157
  v41 := Tryd.zeroValue157
  t44 := Tryd.underlying198
  a44 := Tryd.isAgg198
  z44 := Tryd.sizeOf198
  v44 := Tryd.zeroValue198
  t46 := Tryd.underlying62
  a46 := Tryd.isAgg62
  z46 := Tryd.sizeOf62
  v46 := Tryd.zeroValue62
  t53 := Tryd.underlying211
  a53 := Tryd.isAgg211
  z53 := Tryd.sizeOf211
  v53 := Tryd.zeroValue211
  t57 := Tryd.underlying215
  a57 := Tryd.isAgg215
  z57 := Tryd.sizeOf215
  v57 := Tryd.zeroValue215
  t63 := Tryd.underlying217
  a63 := Tryd.isAgg217
  z63 := Tryd.sizeOf217
  v63 := Tryd.zeroValue217
  t64 := Tryd.underlying218
  a64 := Tryd.isAgg218
  z64 := Tryd.sizeOf218
  v64 := Tryd.zeroValue218 }
end Go.Proofs
