/-
  The library's functions that are known by a law of their own, at this seat's numbers. No conditions.
-/
import Derived.Test.YtihcnfmfjlhfdaaGreatDoorRows
import Derived.Test.YtihcnfmfjlhfdaaGreatDoorEvZd
import Derived.Shelf.Strings.Fields
import Derived.Shelf.Strings.Search3
namespace Go.Proofs.YtihcnfmfjlhfdaaGreatDoor.cm
open Go.Proofs Go.Proofs.YtihcnfmfjlhfdaaGreatDoor.Ev

def ren157 : Go.Shelf.Ren := ⟨fun | 157 => 11 | 199 => 26 | 229 => 25 | 261 => 47 | 311 => 93 | 312 => 94 | n => n, fun | 0 => 0 | 3 => 3 | 4 => 4 | 5 => 5 | 9 => 9 | 21 => 21 | 31 => 24 | 40 => 83 | 46 => 231 | 49 => 178 | 51 => 134 | 119 => 81 | 141 => 136 | 152 => 131 | 154 => 133 | 193 => 174 | 194 => 175 | 196 => 177 | 198 => 180 | 201 => 183 | 226 => 230 | 227 => 232 | n => n, fun | 0 => 0 | 1 => 1 | 6 => 1 | n => n⟩
theorem lays157 : Lays.n157 Tryz.prog ren157 where
  mixed := by kernel_rfl
  f157 := Tryz.func11.trans (congrArg some (by kernel_rfl))
  f199 := Tryz.func26.trans (congrArg some (by kernel_rfl))
  f229 := Tryz.func25.trans (congrArg some (by kernel_rfl))
  f261 := Tryz.func47.trans (congrArg some (by kernel_rfl))
  f311 := Tryz.func93.trans (congrArg some (by kernel_rfl))
  f312 := Tryz.func94.trans (congrArg some (by kernel_rfl))
  t0 := Tryz.underlying0
  a0 := Tryz.isAgg0
  z0 := Tryz.sizeOf0
  v0 := Tryz.zeroValue0
  t3 := Tryz.underlying3
  a3 := Tryz.isAgg3
  z3 := Tryz.sizeOf3
  v3 := Tryz.zeroValue3
  t4 := Tryz.underlying4
  a4 := Tryz.isAgg4
  z4 := Tryz.sizeOf4
  v4 := Tryz.zeroValue4
  t5 := Tryz.underlying5
  a5 := Tryz.isAgg5
  z5 := Tryz.sizeOf5
  v5 := Tryz.zeroValue5
  t9 := Tryz.underlying9
  a9 := Tryz.isAgg9
  z9 := Tryz.sizeOf9
  v9 := Tryz.zeroValue9
  t21 := Tryz.underlying21
  a21 := Tryz.isAgg21
  z21 := Tryz.sizeOf21
  v21 := Tryz.zeroValue21
  t31 := Tryz.underlying24
  a31 := Tryz.isAgg24
  z31 := Tryz.sizeOf24
  v31 := Tryz.zeroValue24
  t40 := Tryz.underlying83
  a40 := Tryz.isAgg83
  z40 := Tryz.sizeOf83
  v40 := Tryz.zeroValue83
  t46 := Tryz.underlying231
  a46 := Tryz.isAgg231
  z46 := Tryz.sizeOf231
  v46 := Tryz.zeroValue231
  t49 := Tryz.underlying178
  a49 := Tryz.isAgg178
  z49 := Tryz.sizeOf178
  v49 := Tryz.zeroValue178
  t51 := Tryz.underlying134
  a51 := Tryz.isAgg134
  z51 := Tryz.sizeOf134
  v51 := Tryz.zeroValue134
  t119 := Tryz.underlying81
  a119 := Tryz.isAgg81
  z119 := Tryz.sizeOf81
  t141 := Tryz.underlying136
  a141 := Tryz.isAgg136
  z141 := Tryz.sizeOf136
  v141 := Tryz.zeroValue136
  t152 := Tryz.underlying131
  a152 := Tryz.isAgg131
  z152 := Tryz.sizeOf131
  v152 := Tryz.zeroValue131
  t154 := Tryz.underlying133
  a154 := Tryz.isAgg133
  z154 := Tryz.sizeOf133
  v154 := Tryz.zeroValue133
  t193 := Tryz.underlying174
  a193 := Tryz.isAgg174
  z193 := Tryz.sizeOf174
  v193 := Tryz.zeroValue174
  t194 := Tryz.underlying175
  a194 := Tryz.isAgg175
  z194 := Tryz.sizeOf175
  v194 := Tryz.zeroValue175
  t196 := Tryz.underlying177
  a196 := Tryz.isAgg177
  z196 := Tryz.sizeOf177
  v196 := Tryz.zeroValue177
  t198 := Tryz.underlying180
  a198 := Tryz.isAgg180
  z198 := Tryz.sizeOf180
  v198 := Tryz.zeroValue180
  t201 := Tryz.underlying183
  a201 := Tryz.isAgg183
  z201 := Tryz.sizeOf183
  v201 := Tryz.zeroValue183
  t226 := Tryz.underlying230
  a226 := Tryz.isAgg230
  z226 := Tryz.sizeOf230
  v226 := Tryz.zeroValue230
  t227 := Tryz.underlying232
  a227 := Tryz.isAgg232
  z227 := Tryz.sizeOf232
  v227 := Tryz.zeroValue232
  g0 := by kernel_rfl
  g6 := by kernel_rfl

def ren144 : Go.Shelf.Ren := ⟨fun | 143 => 142 | 144 => 97 | 217 => 213 | 219 => 170 | 224 => 215 | 225 => 214 | 266 => 248 | 267 => 216 | 314 => 249 | n => n, fun | 3 => 3 | 4 => 4 | 5 => 5 | 9 => 9 | 46 => 231 | 51 => 134 | 146 => 272 | n => n, fun | 0 => 0 | 1 => 4 | n => n⟩
theorem lays144 : Lays.n144 Tryz.prog ren144 where
  mixed := by kernel_rfl
  f143 := Tryz.func142.trans (congrArg some (by kernel_rfl))
  f144 := Tryz.func97.trans (congrArg some (by kernel_rfl))
  f217 := Tryz.func213.trans (congrArg some (by kernel_rfl))
  f219 := Tryz.func170.trans (congrArg some (by kernel_rfl))
  f224 := Tryz.func215.trans (congrArg some (by kernel_rfl))
  f225 := Tryz.func214.trans (congrArg some (by kernel_rfl))
  f266 := Tryz.func248.trans (congrArg some (by kernel_rfl))
  f267 := Tryz.func216.trans (congrArg some (by kernel_rfl))
  f314 := Tryz.func249.trans (congrArg some (by kernel_rfl))
  t3 := Tryz.underlying3
  a3 := Tryz.isAgg3
  z3 := Tryz.sizeOf3
  v3 := Tryz.zeroValue3
  t4 := Tryz.underlying4
  a4 := Tryz.isAgg4
  z4 := Tryz.sizeOf4
  v4 := Tryz.zeroValue4
  t5 := Tryz.underlying5
  a5 := Tryz.isAgg5
  z5 := Tryz.sizeOf5
  v5 := Tryz.zeroValue5
  t9 := Tryz.underlying9
  a9 := Tryz.isAgg9
  z9 := Tryz.sizeOf9
  v9 := Tryz.zeroValue9
  t46 := Tryz.underlying231
  a46 := Tryz.isAgg231
  z46 := Tryz.sizeOf231
  v46 := Tryz.zeroValue231
  t51 := Tryz.underlying134
  a51 := Tryz.isAgg134
  z51 := Tryz.sizeOf134
  v51 := Tryz.zeroValue134
  t146 := Tryz.underlying272
  a146 := Tryz.isAgg272
  z146 := Tryz.sizeOf272
  v146 := Tryz.zeroValue272
  g1 := by kernel_rfl

def sums0 : List (FuncId × LK) := [(11, .fields 0 9), (97, .contains 4)]
theorem known : SumsOk Tryz.prog sums0 := SumsOk.cons ⟨by decide +kernel, fun s w hs hl ht => Any.strings_Fields_core lays157 (by kernel_rfl) s w hs hl ht⟩ (SumsOk.cons ⟨by decide +kernel, fun s u m w hs hm => Any.strings_Contains lays144 s u m w hs hm⟩ (SumsOk.none _))
end Go.Proofs.YtihcnfmfjlhfdaaGreatDoor.cm
