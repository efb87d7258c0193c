/-
  Layings of the shelf at this seat (lay-plain).
-/
import Derived.Shelf.Strings.OnBuilder
import Derived.Shelf.Strings.Repeat
import Derived.Test.YtpbikmlfhipckaaGreatDoorProg
namespace Go.Proofs.YtpbikmlfhipckaaGreatDoor
open Go.Shelf
def lays105_ren : Go.Shelf.Ren := ⟨fun | 105 => 477 | 212 => 483 | 99 => 200 | 165 => 484 | 166 => 88 | 170 => 191 | 169 => 33 | 263 => 485 | 264 => 393 | 206 => 277 | 240 => 156 | 241 => 486 | 276 => 225 | 277 => 487 | n => n, fun | 9 => 9 | 3 => 3 | 4 => 4 | 20 => 20 | 0 => 0 | 46 => 241 | 109 => 553 | 5 => 5 | 72 => 83 | 76 => 221 | 51 => 30 | 146 => 555 | 53 => 51 | 148 => 505 | 70 => 80 | 37 => 81 | 75 => 220 | 127 => 214 | 164 => 366 | 80 => 35 | n => n, fun | n => n⟩
theorem lays105 : Go.Proofs.Lays.n105 Tryz.prog lays105_ren := {
  mixed := by kernel_rfl
  f99 := Tryz.func200.trans (congrArg some (by kernel_rfl))
  f105 := Tryz.func477.trans (congrArg some (by kernel_rfl))
  f165 := Tryz.func484.trans (congrArg some (by kernel_rfl))
  f166 := Tryz.func88.trans (congrArg some (by kernel_rfl))
  f169 := Tryz.func33.trans (congrArg some (by kernel_rfl))
  f170 := Tryz.func191.trans (congrArg some (by kernel_rfl))
  f206 := Tryz.func277.trans (congrArg some (by kernel_rfl))
  f212 := Tryz.func483.trans (congrArg some (by kernel_rfl))
  f240 := Tryz.func156.trans (congrArg some (by kernel_rfl))
  f241 := Tryz.func486.trans (congrArg some (by kernel_rfl))
  f263 := Tryz.func485.trans (congrArg some (by kernel_rfl))
  f264 := Tryz.func393.trans (congrArg some (by kernel_rfl))
  f276 := Tryz.func225.trans (congrArg some (by kernel_rfl))
  f277 := Tryz.func487.trans (congrArg some (by kernel_rfl))
  t0 := Tryz.underlying0
  a0 := Tryz.isAgg0
  z0 := Tryz.sizeOf0
  v0 := Tryz.zeroValue0
  t3 := Tryz.underlying3
  a3 := Tryz.isAgg3
  z3 := Tryz.sizeOf3
  v3 := Tryz.zeroValue3
  t4 := Tryz.underlying4
  a4 := Tryz.isAgg4
  z4 := Tryz.sizeOf4
  v4 := Tryz.zeroValue4
  t5 := Tryz.underlying5
  a5 := Tryz.isAgg5
  z5 := Tryz.sizeOf5
  v5 := Tryz.zeroValue5
  t9 := Tryz.underlying9
  a9 := Tryz.isAgg9
  z9 := Tryz.sizeOf9
  v9 := Tryz.zeroValue9
  t20 := Tryz.underlying20
  a20 := Tryz.isAgg20
  z20 := Tryz.sizeOf20
  v20 := Tryz.zeroValue20
  t37 := Tryz.underlying81
  a37 := Tryz.isAgg81
  z37 := Tryz.sizeOf81
  v37 := Tryz.zeroValue81
  t46 := Tryz.underlying241
  a46 := Tryz.isAgg241
  z46 := Tryz.sizeOf241
  v46 := Tryz.zeroValue241
  t51 := Tryz.underlying30
  a51 := Tryz.isAgg30
  z51 := Tryz.sizeOf30
  v51 := Tryz.zeroValue30
  t53 := Tryz.underlying51
  a53 := Tryz.isAgg51
  z53 := Tryz.sizeOf51
  v53 := Tryz.zeroValue51
  t70 := Tryz.underlying80
  a70 := Tryz.isAgg80
  z70 := Tryz.sizeOf80
  v70 := Tryz.zeroValue80
  t72 := Tryz.underlying83
  a72 := Tryz.isAgg83
  z72 := Tryz.sizeOf83
  v72 := Tryz.zeroValue83
  t75 := Tryz.underlying220
  a75 := Tryz.isAgg220
  z75 := Tryz.sizeOf220
  v75 := Tryz.zeroValue220
  t76 := Tryz.underlying221
  a76 := Tryz.isAgg221
  z76 := Tryz.sizeOf221
  v76 := Tryz.zeroValue221
  t109 := Tryz.underlying553
  a109 := Tryz.isAgg553
  z109 := Tryz.sizeOf553
  v109 := Tryz.zeroValue553
  t127 := Tryz.underlying214
  a127 := Tryz.isAgg214
  z127 := Tryz.sizeOf214
  v127 := Tryz.zeroValue214
  t146 := Tryz.underlying555
  a146 := Tryz.isAgg555
  z146 := Tryz.sizeOf555
  v146 := Tryz.zeroValue555
  t148 := Tryz.underlying505
  a148 := Tryz.isAgg505
  z148 := Tryz.sizeOf505
  v148 := Tryz.zeroValue505
  t164 := Tryz.underlying366
  a164 := Tryz.isAgg366
  z164 := Tryz.sizeOf366
  v164 := Tryz.zeroValue366 }
end Go.Proofs.YtpbikmlfhipckaaGreatDoor
