/- slices.DeleteFunc at uint64: the shelf's structure, laid at this program. -/
import Derived.Test.YtoikjokdabpmoaaProg
import Derived.Shelf.SlicesE.DeleteFunc
import Derived.KernelRfl
namespace Go.Proofs.Ytoikjokdabpmoaa
open Go.Shelf
def delL_ren : Go.Shelf.Ren := ⟨fun | 10 => 19 | 6 => 24 | n => n, fun | 22 => 31 | 23 => 23 | 25 => 56 | n => n, fun | n => n⟩
theorem delL : Go.Proofs.SlLaysH.n10 Try.prog delL_ren := {
  mixed := by kernel_rfl,
  f6 := ⟨Try.f24.name, by decide, Try.func24.trans (congrArg some (by kernel_rfl))⟩,
  f10 := ⟨Try.f19.name, by decide, Try.func19.trans (congrArg some (by kernel_rfl))⟩,
  t0 := Try.underlying0,
  a0 := Try.isAgg0,
  z0 := Try.sizeOf0,
  v0 := Try.zeroValue0,
  t3 := Try.underlying3,
  a3 := Try.isAgg3,
  z3 := Try.sizeOf3,
  v3 := Try.zeroValue3,
  t4 := Try.underlying4,
  a4 := Try.isAgg4,
  z4 := Try.sizeOf4,
  v4 := Try.zeroValue4,
  t22 := Try.underlying31,
  a22 := Try.isAgg31,
  z22 := Try.sizeOf31,
  v22 := Try.zeroValue31,
  a23 := Try.isAgg23,
  z23 := Try.sizeOf23,
  t25 := Try.underlying56,
  a25 := Try.isAgg56,
  z25 := Try.sizeOf56,
  v25 := Try.zeroValue56 }
end Go.Proofs.Ytoikjokdabpmoaa
