/-
  Contracts of the shelf, laid at this program, in plain words (printed by the kit's lay-plain).
-/
import Derived.Shelf.Strings.Prefix
import Derived.Shelf.Sort.Plain
import Derived.Ground.NamesProg
import Derived.Test.YtdlifdmnfbjokaaProg
namespace Go.Proofs
open Go.Shelf
def Try.lays99_ren : Go.Shelf.Ren := ⟨fun | 99 => 6 | 206 => 11 | n => n, fun | 9 => 9 | 4 => 4 | 3 => 3 | n => n, fun | n => n⟩
theorem Try.lays99 : Go.Proofs.Lays.n99 Try.prog Try.lays99_ren := {
  mixed := by kernel_rfl
  f99 := Try.func6.trans (congrArg some (by kernel_rfl))
  f206 := Try.func11.trans (congrArg some (by kernel_rfl))
  t3 := Try.underlying3
  a3 := Try.isAgg3
  z3 := Try.sizeOf3
  v3 := Try.zeroValue3
  t4 := Try.underlying4
  a4 := Try.isAgg4
  z4 := Try.sizeOf4
  v4 := Try.zeroValue4
  t9 := Try.underlying9
  a9 := Try.isAgg9
  z9 := Try.sizeOf9
  v9 := Try.zeroValue9 }
def Try.lays190_ren : Go.Shelf.Ren := ⟨fun | 190 => 9 | 125 => 13 | 258 => 12 | 128 => 23 | 129 => 24 | 302 => 15 | 303 => 16 | 304 => 17 | 305 => 18 | 306 => 19 | 307 => 20 | 308 => 10 | 309 => 21 | 310 => 22 | 333 => 25 | 329 => 26 | 330 => 27 | 334 => 28 | 335 => 29 | 336 => 14 | 344 => 30 | n => n, fun | 31 => 22 | 9 => 9 | 3 => 3 | 46 => 32 | 0 => 0 | 51 => 42 | 53 => 44 | 4 => 4 | 183 => 35 | 182 => 34 | 131 => 39 | 5 => 5 | 218 => 45 | 222 => 49 | 228 => 51 | 229 => 52 | n => n, fun | n => n⟩
theorem Try.lays190 : Go.Proofs.Lays.n190 Try.prog Try.lays190_ren := {
  mixed := by kernel_rfl
  f125 := Try.func13.trans (congrArg some (by kernel_rfl))
  f128 := Try.func23.trans (congrArg some (by kernel_rfl))
  f129 := Try.func24.trans (congrArg some (by kernel_rfl))
  f190 := Try.func9.trans (congrArg some (by kernel_rfl))
  f258 := Try.func12.trans (congrArg some (by kernel_rfl))
  f302 := Try.func15.trans (congrArg some (by kernel_rfl))
  f303 := Try.func16.trans (congrArg some (by kernel_rfl))
  f304 := Try.func17.trans (congrArg some (by kernel_rfl))
  f305 := Try.func18.trans (congrArg some (by kernel_rfl))
  f306 := Try.func19.trans (congrArg some (by kernel_rfl))
  f307 := Try.func20.trans (congrArg some (by kernel_rfl))
  f308 := Try.func10.trans (congrArg some (by kernel_rfl))
  f309 := Try.func21.trans (congrArg some (by kernel_rfl))
  f310 := Try.func22.trans (congrArg some (by kernel_rfl))
  f329 := Try.func26.trans (congrArg some (by kernel_rfl))
  f330 := Try.func27.trans (congrArg some (by kernel_rfl))
  f333 := Try.func25.trans (congrArg some (by kernel_rfl))
  f334 := Try.func28.trans (congrArg some (by kernel_rfl))
  f335 := Try.func29.trans (congrArg some (by kernel_rfl))
  f336 := Try.func14.trans (congrArg some (by kernel_rfl))
  f344 := Try.func30.trans (congrArg some (by kernel_rfl))
  t0 := Try.underlying0
  a0 := Try.isAgg0
  z0 := Try.sizeOf0
  v0 := Try.zeroValue0
  t3 := Try.underlying3
  a3 := Try.isAgg3
  z3 := Try.sizeOf3
  v3 := Try.zeroValue3
  t4 := Try.underlying4
  a4 := Try.isAgg4
  z4 := Try.sizeOf4
  v4 := Try.zeroValue4
  t5 := Try.underlying5
  a5 := Try.isAgg5
  z5 := Try.sizeOf5
  v5 := Try.zeroValue5
  t9 := Try.underlying9
  a9 := Try.isAgg9
  z9 := Try.sizeOf9
  v9 := Try.zeroValue9
  t31 := Try.underlying22
  a31 := Try.isAgg22
  z31 := Try.sizeOf22
  v31 := Try.zeroValue22
  t46 := Try.underlying32
  a46 := Try.isAgg32
  z46 := Try.sizeOf32
  v46 := Try.zeroValue32
  t51 := Try.underlying42
  a51 := Try.isAgg42
  z51 := Try.sizeOf42
  v51 := Try.zeroValue42
  t53 := Try.underlying44
  a53 := Try.isAgg44
  z53 := Try.sizeOf44
  v53 := Try.zeroValue44
  t131 := Try.underlying39
  a131 := Try.isAgg39
  z131 := Try.sizeOf39
  v131 := Try.zeroValue39
  t182 := Try.underlying34
  a182 := Try.isAgg34
  z182 := Try.sizeOf34
  v182 := Try.zeroValue34
  t183 := Try.underlying35
  a183 := Try.isAgg35
  z183 := Try.sizeOf35
  v183 := Try.zeroValue35
  t218 := Try.underlying45
  a218 := Try.isAgg45
  z218 := Try.sizeOf45
  v218 := Try.zeroValue45
  t222 := Try.underlying49
  a222 := Try.isAgg49
  z222 := Try.sizeOf49
  v222 := Try.zeroValue49
  t228 := Try.underlying51
  a228 := Try.isAgg51
  z228 := Try.sizeOf51
  v228 := Try.zeroValue51
  t229 := Try.underlying52
  a229 := Try.isAgg52
  z229 := Try.sizeOf52
  v229 := Try.zeroValue52 }
end Go.Proofs
