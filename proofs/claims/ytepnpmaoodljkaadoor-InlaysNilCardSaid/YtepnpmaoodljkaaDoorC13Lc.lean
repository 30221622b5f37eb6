/-
  Contracts of the library laid at this program, in plain words (printed by a program). Conditions: none.
-/
import Derived.Test.YtepnpmaoodljkaaDoorProg
import Derived.Shelf.Strings.Search3
import Derived.Ground.NamesProg
namespace Go.Proofs
open Go.Shelf
set_option maxRecDepth 100000
def Tryd.lContains_ren : Go.Shelf.Ren := ⟨fun | 144 => 41 | 143 => 55 | 219 => 69 | 217 => 75 | 225 => 76 | 224 => 77 | 267 => 78 | 266 => 80 | 314 => 81 | n => n, fun | 9 => 9 | 4 => 4 | 3 => 3 | 5 => 5 | 46 => 90 | 146 => 130 | 51 => 113 | n => n, fun | 1 => 1 | n => n⟩
theorem Tryd.lContains : Lays.n144 Tryd.prog Tryd.lContains_ren := {
  mixed := by kernel_rfl,
  f143 := Tryd.func55.trans (by kernel_rfl),
  f144 := Tryd.func41.trans (by kernel_rfl),
  f217 := Tryd.func75.trans (by kernel_rfl),
  f219 := Tryd.func69.trans (by kernel_rfl),
  f224 := Tryd.func77.trans (by kernel_rfl),
  f225 := Tryd.func76.trans (by kernel_rfl),
  f266 := Tryd.func80.trans (by kernel_rfl),
  f267 := Tryd.func78.trans (by kernel_rfl),
  f314 := Tryd.func81.trans (by kernel_rfl),
  t3 := Tryd.underlying3,
  a3 := Tryd.isAgg3,
  z3 := Tryd.sizeOf3,
  v3 := Tryd.zeroValue3,
  t4 := Tryd.underlying4,
  a4 := Tryd.isAgg4,
  z4 := Tryd.sizeOf4,
  v4 := Tryd.zeroValue4,
  t5 := Tryd.underlying5,
  a5 := Tryd.isAgg5,
  z5 := Tryd.sizeOf5,
  v5 := Tryd.zeroValue5,
  t9 := Tryd.underlying9,
  a9 := Tryd.isAgg9,
  z9 := Tryd.sizeOf9,
  v9 := Tryd.zeroValue9,
  t46 := Tryd.underlying90,
  a46 := Tryd.isAgg90,
  z46 := Tryd.sizeOf90,
  v46 := Tryd.zeroValue90,
  t51 := Tryd.underlying113,
  a51 := Tryd.isAgg113,
  z51 := Tryd.sizeOf113,
  v51 := Tryd.zeroValue113,
  t146 := Tryd.underlying130,
  a146 := Tryd.isAgg130,
  z146 := Tryd.sizeOf130,
  v146 := Tryd.zeroValue130,
  g1 := by kernel_rfl }
end Go.Proofs
