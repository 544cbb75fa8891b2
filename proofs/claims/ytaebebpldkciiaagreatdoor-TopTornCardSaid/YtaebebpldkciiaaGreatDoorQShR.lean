/-
 Contracts of the shelf, laid at this program, in plain words (printed by the kit's lay-plain).
-/
import Derived.Shelf.Strings.SlTrimAscii
import Derived.Ground.NamesProg
import Derived.Test.YtaebebpldkciiaaGreatDoorProg
namespace Go.Proofs
open Go.Shelf
def Tryz.lays160_ren : Go.Shelf.Ren := ⟨fun | 160 => 98 | 232 => 140 | 231 => 139 | 227 => 141 | 234 => 143 | 233 => 142 | 236 => 145 | 235 => 144 | 228 => 174 | 271 => 177 | 151 => 176 | 197 => 175 | 120 => 207 | 152 => 206 | 260 => 205 | 137 => 227 | 119 => 228 | 224 => 182 | 225 => 181 | 217 => 180 | 266 => 213 | n => n, fun | 9 => 9 | 4 => 4 | 3 => 3 | 5 => 5 | 117 => 205 | 116 => 204 | 0 => 0 | 124 => 208 | 21 => 21 | 105 => 239 | 46 => 115 | 119 => 273 | 139 => 276 | 138 => 275 | n => n, fun | 3 => 4 | 4 => 5 | n => n⟩
theorem Tryz.lays160 : Go.Proofs.Lays.n160 Tryz.prog Tryz.lays160_ren := {
 mixed := by kernel_rfl
 f119 := Tryz.func228.trans (congrArg some (by kernel_rfl))
 f120 := Tryz.func207.trans (congrArg some (by kernel_rfl))
 f137 := Tryz.func227.trans (congrArg some (by kernel_rfl))
 f151 := Tryz.func176.trans (congrArg some (by kernel_rfl))
 f152 := Tryz.func206.trans (congrArg some (by kernel_rfl))
 f160 := Tryz.func98.trans (congrArg some (by kernel_rfl))
 f197 := Tryz.func175.trans (congrArg some (by kernel_rfl))
 f217 := Tryz.func180.trans (congrArg some (by kernel_rfl))
 f224 := Tryz.func182.trans (congrArg some (by kernel_rfl))
 f225 := Tryz.func181.trans (congrArg some (by kernel_rfl))
 f227 := Tryz.func141.trans (congrArg some (by kernel_rfl))
 f228 := Tryz.func174.trans (congrArg some (by kernel_rfl))
 f231 := Tryz.func139.trans (congrArg some (by kernel_rfl))
 f232 := Tryz.func140.trans (congrArg some (by kernel_rfl))
 f233 := Tryz.func142.trans (congrArg some (by kernel_rfl))
 f234 := Tryz.func143.trans (congrArg some (by kernel_rfl))
 f235 := Tryz.func144.trans (congrArg some (by kernel_rfl))
 f236 := Tryz.func145.trans (congrArg some (by kernel_rfl))
 f260 := Tryz.func205.trans (congrArg some (by kernel_rfl))
 f266 := Tryz.func213.trans (congrArg some (by kernel_rfl))
 f271 := Tryz.func177.trans (congrArg some (by kernel_rfl))
 t0 := Tryz.underlying0
 a0 := Tryz.isAgg0
 z0 := Tryz.sizeOf0
 v0 := Tryz.zeroValue0
 t3 := Tryz.underlying3
 a3 := Tryz.isAgg3
 z3 := Tryz.sizeOf3
 v3 := Tryz.zeroValue3
 t4 := Tryz.underlying4
 a4 := Tryz.isAgg4
 z4 := Tryz.sizeOf4
 v4 := Tryz.zeroValue4
 t5 := Tryz.underlying5
 a5 := Tryz.isAgg5
 z5 := Tryz.sizeOf5
 v5 := Tryz.zeroValue5
 t9 := Tryz.underlying9
 a9 := Tryz.isAgg9
 z9 := Tryz.sizeOf9
 v9 := Tryz.zeroValue9
 t21 := Tryz.underlying21
 a21 := Tryz.isAgg21
 z21 := Tryz.sizeOf21
 v21 := Tryz.zeroValue21
 t46 := Tryz.underlying115
 a46 := Tryz.isAgg115
 z46 := Tryz.sizeOf115
 v46 := Tryz.zeroValue115
 t105 := Tryz.underlying239
 a105 := Tryz.isAgg239
 z105 := Tryz.sizeOf239
 v105 := Tryz.zeroValue239
 t116 := Tryz.underlying204
 a116 := Tryz.isAgg204
 z116 := Tryz.sizeOf204
 t117 := Tryz.underlying205
 a117 := Tryz.isAgg205
 z117 := Tryz.sizeOf205
 v117 := Tryz.zeroValue205
 t119 := Tryz.underlying273
 a119 := Tryz.isAgg273
 z119 := Tryz.sizeOf273
 t124 := Tryz.underlying208
 a124 := Tryz.isAgg208
 z124 := Tryz.sizeOf208
 v124 := Tryz.zeroValue208
 t138 := Tryz.underlying275
 a138 := Tryz.isAgg275
 z138 := Tryz.sizeOf275
 v138 := Tryz.zeroValue275
 t139 := Tryz.underlying276
 a139 := Tryz.isAgg276
 z139 := Tryz.sizeOf276
 v139 := Tryz.zeroValue276
 g3 := by kernel_rfl
 g4 := by kernel_rfl }
end Go.Proofs
