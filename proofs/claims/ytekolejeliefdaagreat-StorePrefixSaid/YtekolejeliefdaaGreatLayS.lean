/- Layings of the shelf's contracts at this program: the same declarations as the shelf's own command makes. -/
import Derived.Shelf.Spec.SlicesGrow
import Derived.Shelf.SlicesE.Clone
import Derived.Test.YtekolejeliefdaaGreatProg
namespace Go.Proofs.YtekolejeliefdaaGreat
def growV_ren : Go.Shelf.Ren := ⟨fun | 4 => 109 | n => n, fun | 22 => 24 | 25 => 91 | 3 => 3 | 4 => 4 | 9 => 9 | 20 => 20 | 0 => 0 | n => n, fun n => n⟩
theorem growV : Lays8.n4 Tryz.prog growV_ren := {
  mixed := by kernel_rfl,
  f4 := ⟨Tryz.f109.name, by decide, Tryz.func109.trans (congrArg some (by kernel_rfl))⟩,
  t0 := Tryz.underlying0,
  a0 := Tryz.isAgg0,
  z0 := Tryz.sizeOf0,
  v0 := Tryz.zeroValue0,
  t3 := Tryz.underlying3,
  a3 := Tryz.isAgg3,
  z3 := Tryz.sizeOf3,
  v3 := Tryz.zeroValue3,
  t4 := Tryz.underlying4,
  a4 := Tryz.isAgg4,
  z4 := Tryz.sizeOf4,
  v4 := Tryz.zeroValue4,
  t9 := Tryz.underlying9,
  a9 := Tryz.isAgg9,
  z9 := Tryz.sizeOf9,
  v9 := Tryz.zeroValue9,
  t20 := Tryz.underlying20,
  a20 := Tryz.isAgg20,
  z20 := Tryz.sizeOf20,
  v20 := Tryz.zeroValue20,
  t22 := Tryz.underlying24,
  a22 := Tryz.isAgg24,
  z22 := Tryz.sizeOf24,
  v22 := Tryz.zeroValue24 }
def cloneV_ren : Go.Shelf.Ren := ⟨fun | 41 => 37 | n => n, fun | 22 => 24 | 23 => 91 | 4 => 4 | n => n, fun n => n⟩
theorem cloneV : SlLaysE0.n41 Tryz.prog cloneV_ren := {
  mixed := by kernel_rfl,
  f41 := ⟨Tryz.f37.name, by decide, Tryz.func37.trans (congrArg some (by kernel_rfl))⟩,
  t4 := Tryz.underlying4,
  a4 := Tryz.isAgg4,
  z4 := Tryz.sizeOf4,
  v4 := Tryz.zeroValue4,
  t22 := Tryz.underlying24,
  a22 := Tryz.isAgg24,
  z22 := Tryz.sizeOf24,
  v22 := Tryz.zeroValue24 }
def cloneS_ren : Go.Shelf.Ren := ⟨fun | 41 => 63 | n => n, fun | 22 => 23 | 23 => 9 | 4 => 4 | n => n, fun n => n⟩
theorem cloneS : SlLaysE0.n41 Tryz.prog cloneS_ren := {
  mixed := by kernel_rfl,
  f41 := ⟨Tryz.f63.name, by decide, Tryz.func63.trans (congrArg some (by kernel_rfl))⟩,
  t4 := Tryz.underlying4,
  a4 := Tryz.isAgg4,
  z4 := Tryz.sizeOf4,
  v4 := Tryz.zeroValue4,
  t22 := Tryz.underlying23,
  a22 := Tryz.isAgg23,
  z22 := Tryz.sizeOf23,
  v22 := Tryz.zeroValue23 }
def cloneA_ren : Go.Shelf.Ren := ⟨fun | 41 => 152 | n => n, fun | 22 => 60 | 23 => 154 | 4 => 4 | n => n, fun n => n⟩
theorem cloneA : SlLaysE0.n41 Tryz.prog cloneA_ren := {
  mixed := by kernel_rfl,
  f41 := ⟨Tryz.f152.name, by decide, Tryz.func152.trans (congrArg some (by kernel_rfl))⟩,
  t4 := Tryz.underlying4,
  a4 := Tryz.isAgg4,
  z4 := Tryz.sizeOf4,
  v4 := Tryz.zeroValue4,
  t22 := Tryz.underlying60,
  a22 := Tryz.isAgg60,
  z22 := Tryz.sizeOf60,
  v22 := Tryz.zeroValue60 }
end Go.Proofs.YtekolejeliefdaaGreat
