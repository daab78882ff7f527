/- Layings of the shelf's contracts at this program: the same declarations as the shelf's own command makes. -/
import Derived.Shelf.Spec.SlicesGrow
import Derived.Shelf.SlicesE.Clone
import Derived.Test.YtekolejeliefdaaProg
namespace Go.Proofs.Ytekolejeliefdaa
def growB_ren : Go.Shelf.Ren := ⟨fun | 4 => 102 | n => n, fun | 22 => 33 | 25 => 5 | 3 => 3 | 4 => 4 | 9 => 9 | 20 => 20 | 0 => 0 | n => n, fun n => n⟩
theorem growB : Lays8.n4 Try.prog growB_ren := {
  mixed := by kernel_rfl,
  f4 := ⟨Try.f102.name, by decide, Try.func102.trans (congrArg some (by kernel_rfl))⟩,
  t0 := Try.underlying0,
  a0 := Try.isAgg0,
  z0 := Try.sizeOf0,
  v0 := Try.zeroValue0,
  t3 := Try.underlying3,
  a3 := Try.isAgg3,
  z3 := Try.sizeOf3,
  v3 := Try.zeroValue3,
  t4 := Try.underlying4,
  a4 := Try.isAgg4,
  z4 := Try.sizeOf4,
  v4 := Try.zeroValue4,
  t9 := Try.underlying9,
  a9 := Try.isAgg9,
  z9 := Try.sizeOf9,
  v9 := Try.zeroValue9,
  t20 := Try.underlying20,
  a20 := Try.isAgg20,
  z20 := Try.sizeOf20,
  v20 := Try.zeroValue20,
  t22 := Try.underlying33,
  a22 := Try.isAgg33,
  z22 := Try.sizeOf33,
  v22 := Try.zeroValue33 }
def growV_ren : Go.Shelf.Ren := ⟨fun | 4 => 114 | n => n, fun | 22 => 42 | 25 => 115 | 3 => 3 | 4 => 4 | 9 => 9 | 20 => 20 | 0 => 0 | n => n, fun n => n⟩
theorem growV : Lays8.n4 Try.prog growV_ren := {
  mixed := by kernel_rfl,
  f4 := ⟨Try.f114.name, by decide, Try.func114.trans (congrArg some (by kernel_rfl))⟩,
  t0 := Try.underlying0,
  a0 := Try.isAgg0,
  z0 := Try.sizeOf0,
  v0 := Try.zeroValue0,
  t3 := Try.underlying3,
  a3 := Try.isAgg3,
  z3 := Try.sizeOf3,
  v3 := Try.zeroValue3,
  t4 := Try.underlying4,
  a4 := Try.isAgg4,
  z4 := Try.sizeOf4,
  v4 := Try.zeroValue4,
  t9 := Try.underlying9,
  a9 := Try.isAgg9,
  z9 := Try.sizeOf9,
  v9 := Try.zeroValue9,
  t20 := Try.underlying20,
  a20 := Try.isAgg20,
  z20 := Try.sizeOf20,
  v20 := Try.zeroValue20,
  t22 := Try.underlying42,
  a22 := Try.isAgg42,
  z22 := Try.sizeOf42,
  v22 := Try.zeroValue42 }
def cloneBs_ren : Go.Shelf.Ren := ⟨fun | 41 => 43 | n => n, fun | 22 => 26 | 23 => 33 | 4 => 4 | n => n, fun n => n⟩
theorem cloneBs : SlLaysE0.n41 Try.prog cloneBs_ren := {
  mixed := by kernel_rfl,
  f41 := ⟨Try.f43.name, by decide, Try.func43.trans (congrArg some (by kernel_rfl))⟩,
  t4 := Try.underlying4,
  a4 := Try.isAgg4,
  z4 := Try.sizeOf4,
  v4 := Try.zeroValue4,
  t22 := Try.underlying26,
  a22 := Try.isAgg26,
  z22 := Try.sizeOf26,
  v22 := Try.zeroValue26 }
def cloneV_ren : Go.Shelf.Ren := ⟨fun | 41 => 59 | n => n, fun | 22 => 42 | 23 => 115 | 4 => 4 | n => n, fun n => n⟩
theorem cloneV : SlLaysE0.n41 Try.prog cloneV_ren := {
  mixed := by kernel_rfl,
  f41 := ⟨Try.f59.name, by decide, Try.func59.trans (congrArg some (by kernel_rfl))⟩,
  t4 := Try.underlying4,
  a4 := Try.isAgg4,
  z4 := Try.sizeOf4,
  v4 := Try.zeroValue4,
  t22 := Try.underlying42,
  a22 := Try.isAgg42,
  z22 := Try.sizeOf42,
  v22 := Try.zeroValue42 }
def cloneS_ren : Go.Shelf.Ren := ⟨fun | 41 => 78 | n => n, fun | 22 => 53 | 23 => 9 | 4 => 4 | n => n, fun n => n⟩
theorem cloneS : SlLaysE0.n41 Try.prog cloneS_ren := {
  mixed := by kernel_rfl,
  f41 := ⟨Try.f78.name, by decide, Try.func78.trans (congrArg some (by kernel_rfl))⟩,
  t4 := Try.underlying4,
  a4 := Try.isAgg4,
  z4 := Try.sizeOf4,
  v4 := Try.zeroValue4,
  t22 := Try.underlying53,
  a22 := Try.isAgg53,
  z22 := Try.sizeOf53,
  v22 := Try.zeroValue53 }
def cloneA_ren : Go.Shelf.Ren := ⟨fun | 41 => 143 | n => n, fun | 22 => 84 | 23 => 192 | 4 => 4 | n => n, fun n => n⟩
theorem cloneA : SlLaysE0.n41 Try.prog cloneA_ren := {
  mixed := by kernel_rfl,
  f41 := ⟨Try.f143.name, by decide, Try.func143.trans (congrArg some (by kernel_rfl))⟩,
  t4 := Try.underlying4,
  a4 := Try.isAgg4,
  z4 := Try.sizeOf4,
  v4 := Try.zeroValue4,
  t22 := Try.underlying84,
  a22 := Try.isAgg84,
  z22 := Try.sizeOf84,
  v22 := Try.zeroValue84 }
end Go.Proofs.Ytekolejeliefdaa
