/-
 Contracts of the shelf, laid at this program, in plain words (printed by the kit's lay-plain).
-/
import Derived.Shelf.Strings.Search3
import Derived.Shelf.Strconv.Itoa3
import Derived.Shelf.Strconv.AtoiAll
import Derived.Shelf.Strconv.ErrVarAll
import Derived.Shelf.Strings.Cut
import Derived.Ground.NamesProg
import Derived.Test.YtaebebpldkciiaaGreatDoorProg
import Derived.Test.YtaebebpldkciiaaGreatDoorQG08
import Derived.Lib.ItoaNum
import Derived.Lib.ItoaMem
import Derived.Lib.Atoi
import Derived.Lib.IndexLaws
import Derived.Lib.AtoiErrMem
import Derived.Shelf.Strconv.ErrVar
import Derived.Shelf.Strconv.Atoi
import Derived.Lib.AppendIntMem
import Derived.Lib.SmallJoins
import Derived.Handy
namespace Go.Proofs
open Go.Shelf
def Tryz.lays143_ren : Go.Shelf.Ren := ⟨fun | 143 => 101 | 219 => 147 | 217 => 180 | 225 => 181 | 224 => 182 | 267 => 183 | 266 => 213 | 314 => 214 | n => n, fun | 9 => 9 | 3 => 3 | 4 => 4 | 5 => 5 | 46 => 115 | 146 => 265 | 51 => 158 | n => n, fun | 1 => 1 | n => n⟩
theorem Tryz.lays143 : Go.Proofs.Lays.n143 Tryz.prog Tryz.lays143_ren := {
 mixed := by kernel_rfl
 f143 := Tryz.func101.trans (congrArg some (by kernel_rfl))
 f217 := Tryz.func180.trans (congrArg some (by kernel_rfl))
 f219 := Tryz.func147.trans (congrArg some (by kernel_rfl))
 f224 := Tryz.func182.trans (congrArg some (by kernel_rfl))
 f225 := Tryz.func181.trans (congrArg some (by kernel_rfl))
 f266 := Tryz.func213.trans (congrArg some (by kernel_rfl))
 f267 := Tryz.func183.trans (congrArg some (by kernel_rfl))
 f314 := Tryz.func214.trans (congrArg some (by kernel_rfl))
 t3 := Tryz.underlying3
 a3 := Tryz.isAgg3
 z3 := Tryz.sizeOf3
 v3 := Tryz.zeroValue3
 t4 := Tryz.underlying4
 a4 := Tryz.isAgg4
 z4 := Tryz.sizeOf4
 v4 := Tryz.zeroValue4
 t5 := Tryz.underlying5
 a5 := Tryz.isAgg5
 z5 := Tryz.sizeOf5
 v5 := Tryz.zeroValue5
 t9 := Tryz.underlying9
 a9 := Tryz.isAgg9
 z9 := Tryz.sizeOf9
 v9 := Tryz.zeroValue9
 t46 := Tryz.underlying115
 a46 := Tryz.isAgg115
 z46 := Tryz.sizeOf115
 v46 := Tryz.zeroValue115
 t51 := Tryz.underlying158
 a51 := Tryz.isAgg158
 z51 := Tryz.sizeOf158
 v51 := Tryz.zeroValue158
 t146 := Tryz.underlying265
 a146 := Tryz.isAgg265
 z146 := Tryz.sizeOf265
 v146 := Tryz.zeroValue265
 g1 := by kernel_rfl }
def Tryz.lays171_ren : Go.Shelf.Ren := ⟨fun | 171 => 61 | 243 => 102 | 246 => 148 | 283 => 184 | 284 => 185 | 285 => 186 | 286 => 187 | 129 => 92 | 317 => 215 | 318 => 216 | 319 => 217 | 320 => 218 | 337 => 232 | 338 => 233 | n => n, fun | 3 => 3 | 9 => 9 | 2 => 2 | 4 => 4 | 171 => 244 | 0 => 0 | 53 => 160 | 37 => 234 | 5 => 5 | 173 => 246 | 212 => 268 | 51 => 158 | 20 => 20 | 213 => 269 | 46 => 115 | 232 => 297 | 233 => 298 | n => n, fun | 17 => 2 | 18 => 10 | 19 => 11 | n => n⟩
theorem Tryz.lays171 : Go.Proofs.LaysM.n171 Tryz.prog Tryz.lays171_ren := {
 mixed := by kernel_rfl
 f129 := Tryz.func92.trans (congrArg some (by kernel_rfl))
 f171 := Tryz.func61.trans (congrArg some (by kernel_rfl))
 f243 := Tryz.func102.trans (congrArg some (by kernel_rfl))
 f246 := Tryz.func148.trans (congrArg some (by kernel_rfl))
 f283 := Tryz.func184.trans (congrArg some (by kernel_rfl))
 f284 := Tryz.func185.trans (congrArg some (by kernel_rfl))
 f285 := Tryz.func186.trans (congrArg some (by kernel_rfl))
 f286 := Tryz.func187.trans (congrArg some (by kernel_rfl))
 f317 := Tryz.func215.trans (congrArg some (by kernel_rfl))
 f318 := Tryz.func216.trans (congrArg some (by kernel_rfl))
 f319 := Tryz.func217.trans (congrArg some (by kernel_rfl))
 f320 := Tryz.func218.trans (congrArg some (by kernel_rfl))
 f337 := Tryz.func232.trans (congrArg some (by kernel_rfl))
 f338 := Tryz.func233.trans (congrArg some (by kernel_rfl))
 t0 := Tryz.underlying0
 a0 := Tryz.isAgg0
 z0 := Tryz.sizeOf0
 v0 := Tryz.zeroValue0
 t2 := Tryz.underlying2
 a2 := Tryz.isAgg2
 z2 := Tryz.sizeOf2
 v2 := Tryz.zeroValue2
 t3 := Tryz.underlying3
 a3 := Tryz.isAgg3
 z3 := Tryz.sizeOf3
 v3 := Tryz.zeroValue3
 t4 := Tryz.underlying4
 a4 := Tryz.isAgg4
 z4 := Tryz.sizeOf4
 v4 := Tryz.zeroValue4
 t5 := Tryz.underlying5
 a5 := Tryz.isAgg5
 z5 := Tryz.sizeOf5
 v5 := Tryz.zeroValue5
 t9 := Tryz.underlying9
 a9 := Tryz.isAgg9
 z9 := Tryz.sizeOf9
 v9 := Tryz.zeroValue9
 t20 := Tryz.underlying20
 a20 := Tryz.isAgg20
 z20 := Tryz.sizeOf20
 v20 := Tryz.zeroValue20
 t37 := Tryz.underlying234
 a37 := Tryz.isAgg234
 z37 := Tryz.sizeOf234
 v37 := Tryz.zeroValue234
 t46 := Tryz.underlying115
 a46 := Tryz.isAgg115
 z46 := Tryz.sizeOf115
 v46 := Tryz.zeroValue115
 t51 := Tryz.underlying158
 a51 := Tryz.isAgg158
 z51 := Tryz.sizeOf158
 v51 := Tryz.zeroValue158
 t53 := Tryz.underlying160
 a53 := Tryz.isAgg160
 z53 := Tryz.sizeOf160
 v53 := Tryz.zeroValue160
 t171 := Tryz.underlying244
 a171 := Tryz.isAgg244
 z171 := Tryz.sizeOf244
 v171 := Tryz.zeroValue244
 t173 := Tryz.underlying246
 a173 := Tryz.isAgg246
 z173 := Tryz.sizeOf246
 v173 := Tryz.zeroValue246
 t212 := Tryz.underlying268
 a212 := Tryz.isAgg268
 z212 := Tryz.sizeOf268
 v212 := Tryz.zeroValue268
 t213 := Tryz.underlying269
 a213 := Tryz.isAgg269
 z213 := Tryz.sizeOf269
 t232 := Tryz.underlying297
 a232 := Tryz.isAgg297
 z232 := Tryz.sizeOf297
 v232 := Tryz.zeroValue297
 t233 := Tryz.underlying298
 a233 := Tryz.isAgg298
 z233 := Tryz.sizeOf298
 v233 := Tryz.zeroValue298
 g17 := by kernel_rfl
 g18 := by kernel_rfl
 g19 := by kernel_rfl
 i0 := by kernel_rfl
 i2 := by kernel_rfl
 i3 := by kernel_rfl
 i4 := by kernel_rfl
 i5 := by kernel_rfl
 i9 := by kernel_rfl
 i20 := by kernel_rfl
 i37 := by kernel_rfl
 i46 := by kernel_rfl
 i51 := by kernel_rfl
 i53 := by kernel_rfl
 i171 := by kernel_rfl
 i173 := by kernel_rfl
 i212 := by kernel_rfl
 i232 := by kernel_rfl
 i233 := by kernel_rfl
 m17 := by kernel_rfl
 m18 := by kernel_rfl
 m19 := by kernel_rfl }
def Tryz.lays172_ren : Go.Shelf.Ren := ⟨fun | 172 => 146 | 244 => 178 | 245 => 179 | 247 => 208 | 279 => 209 | 280 => 210 | 281 => 211 | 282 => 212 | 287 => 229 | 316 => 230 | 171 => 61 | 205 => 231 | 321 => 240 | 322 => 241 | 243 => 102 | 246 => 148 | 283 => 184 | 284 => 185 | 285 => 186 | 286 => 187 | 129 => 92 | 317 => 215 | 318 => 216 | 319 => 217 | 320 => 218 | 337 => 232 | 338 => 233 | n => n, fun | 9 => 9 | 3 => 3 | 75 => 210 | 76 => 211 | 4 => 4 | 5 => 5 | 167 => 259 | 37 => 234 | 0 => 0 | 85 => 260 | 2 => 2 | 168 => 262 | 53 => 160 | 175 => 278 | 46 => 115 | 210 => 282 | 127 => 293 | 145 => 296 | 143 => 294 | 21 => 21 | 171 => 244 | 173 => 246 | 212 => 268 | 51 => 158 | 20 => 20 | 213 => 269 | 232 => 297 | 233 => 298 | 80 => 81 | n => n, fun | 15 => 6 | 16 => 7 | 17 => 2 | 18 => 10 | 19 => 11 | n => n⟩
theorem Tryz.lays172 : Go.Proofs.LaysC.n172 Tryz.prog Tryz.lays172_ren := {
 mixed := by kernel_rfl
 f129 := Tryz.func92.trans (congrArg some (by kernel_rfl))
 f171 := Tryz.func61.trans (congrArg some (by kernel_rfl))
 f172 := Tryz.func146.trans (congrArg some (by kernel_rfl))
 f205 := Tryz.func231.trans (congrArg some (by kernel_rfl))
 f243 := Tryz.func102.trans (congrArg some (by kernel_rfl))
 f244 := Tryz.func178.trans (congrArg some (by kernel_rfl))
 f245 := Tryz.func179.trans (congrArg some (by kernel_rfl))
 f246 := Tryz.func148.trans (congrArg some (by kernel_rfl))
 f247 := Tryz.func208.trans (congrArg some (by kernel_rfl))
 f279 := Tryz.func209.trans (congrArg some (by kernel_rfl))
 f280 := Tryz.func210.trans (congrArg some (by kernel_rfl))
 f281 := Tryz.func211.trans (congrArg some (by kernel_rfl))
 f282 := Tryz.func212.trans (congrArg some (by kernel_rfl))
 f283 := Tryz.func184.trans (congrArg some (by kernel_rfl))
 f284 := Tryz.func185.trans (congrArg some (by kernel_rfl))
 f285 := Tryz.func186.trans (congrArg some (by kernel_rfl))
 f286 := Tryz.func187.trans (congrArg some (by kernel_rfl))
 f287 := Tryz.func229.trans (congrArg some (by kernel_rfl))
 f316 := Tryz.func230.trans (congrArg some (by kernel_rfl))
 f317 := Tryz.func215.trans (congrArg some (by kernel_rfl))
 f318 := Tryz.func216.trans (congrArg some (by kernel_rfl))
 f319 := Tryz.func217.trans (congrArg some (by kernel_rfl))
 f320 := Tryz.func218.trans (congrArg some (by kernel_rfl))
 f321 := Tryz.func240.trans (congrArg some (by kernel_rfl))
 f322 := Tryz.func241.trans (congrArg some (by kernel_rfl))
 f337 := Tryz.func232.trans (congrArg some (by kernel_rfl))
 f338 := Tryz.func233.trans (congrArg some (by kernel_rfl))
 t0 := Tryz.underlying0
 a0 := Tryz.isAgg0
 z0 := Tryz.sizeOf0
 v0 := Tryz.zeroValue0
 t2 := Tryz.underlying2
 a2 := Tryz.isAgg2
 z2 := Tryz.sizeOf2
 v2 := Tryz.zeroValue2
 t3 := Tryz.underlying3
 a3 := Tryz.isAgg3
 z3 := Tryz.sizeOf3
 v3 := Tryz.zeroValue3
 t4 := Tryz.underlying4
 a4 := Tryz.isAgg4
 z4 := Tryz.sizeOf4
 v4 := Tryz.zeroValue4
 t5 := Tryz.underlying5
 a5 := Tryz.isAgg5
 z5 := Tryz.sizeOf5
 v5 := Tryz.zeroValue5
 t9 := Tryz.underlying9
 a9 := Tryz.isAgg9
 z9 := Tryz.sizeOf9
 v9 := Tryz.zeroValue9
 t20 := Tryz.underlying20
 a20 := Tryz.isAgg20
 z20 := Tryz.sizeOf20
 v20 := Tryz.zeroValue20
 t21 := Tryz.underlying21
 a21 := Tryz.isAgg21
 z21 := Tryz.sizeOf21
 v21 := Tryz.zeroValue21
 t37 := Tryz.underlying234
 a37 := Tryz.isAgg234
 z37 := Tryz.sizeOf234
 v37 := Tryz.zeroValue234
 t46 := Tryz.underlying115
 a46 := Tryz.isAgg115
 z46 := Tryz.sizeOf115
 v46 := Tryz.zeroValue115
 t51 := Tryz.underlying158
 a51 := Tryz.isAgg158
 z51 := Tryz.sizeOf158
 v51 := Tryz.zeroValue158
 t53 := Tryz.underlying160
 a53 := Tryz.isAgg160
 z53 := Tryz.sizeOf160
 v53 := Tryz.zeroValue160
 t75 := Tryz.underlying210
 a75 := Tryz.isAgg210
 z75 := Tryz.sizeOf210
 v75 := Tryz.zeroValue210
 t76 := Tryz.underlying211
 a76 := Tryz.isAgg211
 z76 := Tryz.sizeOf211
 v76 := Tryz.zeroValue211
 t85 := Tryz.underlying260
 a85 := Tryz.isAgg260
 z85 := Tryz.sizeOf260
 v85 := Tryz.zeroValue260
 t127 := Tryz.underlying293
 a127 := Tryz.isAgg293
 z127 := Tryz.sizeOf293
 v127 := Tryz.zeroValue293
 t143 := Tryz.underlying294
 a143 := Tryz.isAgg294
 z143 := Tryz.sizeOf294
 v143 := Tryz.zeroValue294
 t145 := Tryz.underlying296
 a145 := Tryz.isAgg296
 z145 := Tryz.sizeOf296
 v145 := Tryz.zeroValue296
 t167 := Tryz.underlying259
 a167 := Tryz.isAgg259
 z167 := Tryz.sizeOf259
 v167 := Tryz.zeroValue259
 t168 := Tryz.underlying262
 a168 := Tryz.isAgg262
 z168 := Tryz.sizeOf262
 v168 := Tryz.zeroValue262
 t171 := Tryz.underlying244
 a171 := Tryz.isAgg244
 z171 := Tryz.sizeOf244
 v171 := Tryz.zeroValue244
 t173 := Tryz.underlying246
 a173 := Tryz.isAgg246
 z173 := Tryz.sizeOf246
 v173 := Tryz.zeroValue246
 t175 := Tryz.underlying278
 a175 := Tryz.isAgg278
 z175 := Tryz.sizeOf278
 v175 := Tryz.zeroValue278
 t210 := Tryz.underlying282
 a210 := Tryz.isAgg282
 z210 := Tryz.sizeOf282
 v210 := Tryz.zeroValue282
 t212 := Tryz.underlying268
 a212 := Tryz.isAgg268
 z212 := Tryz.sizeOf268
 v212 := Tryz.zeroValue268
 t213 := Tryz.underlying269
 a213 := Tryz.isAgg269
 z213 := Tryz.sizeOf269
 t232 := Tryz.underlying297
 a232 := Tryz.isAgg297
 z232 := Tryz.sizeOf297
 v232 := Tryz.zeroValue297
 t233 := Tryz.underlying298
 a233 := Tryz.isAgg298
 z233 := Tryz.sizeOf298
 v233 := Tryz.zeroValue298
 g15 := by kernel_rfl
 g16 := by kernel_rfl
 g17 := by kernel_rfl
 g18 := by kernel_rfl
 g19 := by kernel_rfl
 t80 := Tryz.underlying81
 a80 := Tryz.isAgg81
 z80 := Tryz.sizeOf81
 v80 := Tryz.zeroValue81
 i0 := by kernel_rfl
 i2 := by kernel_rfl
 i3 := by kernel_rfl
 i4 := by kernel_rfl
 i5 := by kernel_rfl
 i9 := by kernel_rfl
 i20 := by kernel_rfl
 i21 := by kernel_rfl
 i37 := by kernel_rfl
 i46 := by kernel_rfl
 i51 := by kernel_rfl
 i53 := by kernel_rfl
 i75 := by kernel_rfl
 i76 := by kernel_rfl
 i80 := by kernel_rfl
 i85 := by kernel_rfl
 i127 := by kernel_rfl
 i143 := by kernel_rfl
 i145 := by kernel_rfl
 i167 := by kernel_rfl
 i168 := by kernel_rfl
 i171 := by kernel_rfl
 i173 := by kernel_rfl
 i175 := by kernel_rfl
 i210 := by kernel_rfl
 i212 := by kernel_rfl
 i232 := by kernel_rfl
 i233 := by kernel_rfl
 m15 := by kernel_rfl
 m16 := by kernel_rfl
 m17 := by kernel_rfl
 m18 := by kernel_rfl
 m19 := by kernel_rfl
 c0 := by kernel_rfl
 c2 := by kernel_rfl
 c3 := by kernel_rfl
 c4 := by kernel_rfl
 c5 := by kernel_rfl
 c9 := by kernel_rfl
 c20 := by kernel_rfl
 c21 := by kernel_rfl
 c37 := by kernel_rfl
 c46 := by kernel_rfl
 c51 := by kernel_rfl
 c53 := by kernel_rfl
 c75 := by kernel_rfl
 c76 := by kernel_rfl
 c80 := by kernel_rfl
 c85 := by kernel_rfl
 c127 := by kernel_rfl
 c143 := by kernel_rfl
 c145 := by kernel_rfl
 c167 := by kernel_rfl
 c168 := by kernel_rfl
 c171 := by kernel_rfl
 c173 := by kernel_rfl
 c175 := by kernel_rfl
 c210 := by kernel_rfl
 c212 := by kernel_rfl
 c213 := by kernel_rfl
 c232 := by kernel_rfl
 c233 := by kernel_rfl }
def Tryz.lays145_ren : Go.Shelf.Ren := ⟨fun | 145 => 94 | 220 => 132 | 219 => 147 | 217 => 180 | 225 => 181 | 224 => 182 | 267 => 183 | 266 => 213 | 314 => 214 | n => n, fun | 9 => 9 | 4 => 4 | 59 => 162 | 3 => 3 | 5 => 5 | 46 => 115 | 146 => 265 | 51 => 158 | n => n, fun | 1 => 1 | n => n⟩
theorem Tryz.lays145 : Go.Proofs.Lays.n145 Tryz.prog Tryz.lays145_ren := {
 mixed := by kernel_rfl
 f145 := Tryz.func94.trans (congrArg some (by kernel_rfl))
 f217 := Tryz.func180.trans (congrArg some (by kernel_rfl))
 f219 := Tryz.func147.trans (congrArg some (by kernel_rfl))
 f220 := Tryz.func132.trans (congrArg some (by kernel_rfl))
 f224 := Tryz.func182.trans (congrArg some (by kernel_rfl))
 f225 := Tryz.func181.trans (congrArg some (by kernel_rfl))
 f266 := Tryz.func213.trans (congrArg some (by kernel_rfl))
 f267 := Tryz.func183.trans (congrArg some (by kernel_rfl))
 f314 := Tryz.func214.trans (congrArg some (by kernel_rfl))
 t3 := Tryz.underlying3
 a3 := Tryz.isAgg3
 z3 := Tryz.sizeOf3
 v3 := Tryz.zeroValue3
 t4 := Tryz.underlying4
 a4 := Tryz.isAgg4
 z4 := Tryz.sizeOf4
 v4 := Tryz.zeroValue4
 t5 := Tryz.underlying5
 a5 := Tryz.isAgg5
 z5 := Tryz.sizeOf5
 v5 := Tryz.zeroValue5
 t9 := Tryz.underlying9
 a9 := Tryz.isAgg9
 z9 := Tryz.sizeOf9
 v9 := Tryz.zeroValue9
 t46 := Tryz.underlying115
 a46 := Tryz.isAgg115
 z46 := Tryz.sizeOf115
 v46 := Tryz.zeroValue115
 t51 := Tryz.underlying158
 a51 := Tryz.isAgg158
 z51 := Tryz.sizeOf158
 v51 := Tryz.zeroValue158
 t59 := Tryz.underlying162
 a59 := Tryz.isAgg162
 z59 := Tryz.sizeOf162
 v59 := Tryz.zeroValue162
 t146 := Tryz.underlying265
 a146 := Tryz.isAgg265
 z146 := Tryz.sizeOf265
 v146 := Tryz.zeroValue265
 g1 := by kernel_rfl }
end Go.Proofs
namespace Go.Proofs.YtaebebpldkciiaaGreatDoor
open Go.Lib
def isDg (b : UInt8) : Bool := 48 ≤ b.toNat && b.toNat ≤ 57
theorem ofNat_toNat {i : Nat} (h : i < 10) : (UInt8.ofNat (48 + i)).toNat = 48 + i := by
 rw [UInt8.toNat_ofNat']; omega
theorem isDg_ofNat {i : Nat} (h : i < 10) : isDg (UInt8.ofNat (48 + i)) = true := by
 unfold isDg; rw [ofNat_toNat h]; simp; omega
theorem digitVal_ofNat {i : Nat} (h : i < 10) : digitVal (UInt8.ofNat (48 + i)) = some i := by
 unfold digitVal; rw [ofNat_toNat h, if_pos (by omega)]; congr 1; omega
theorem decDigits_big {u : Nat} (h : ¬ u < 10) : decDigits u = decDigits (u / 10) ++ [UInt8.ofNat (48 + u % 10)] := by
 rw [decDigits, dif_neg h]
theorem decDigits_dg (u : Nat) : ∀ b ∈ decDigits u, isDg b = true := by
 induction u using Nat.strongRecOn with
 | _ u ih =>
  by_cases h : u < 10
  ·rw [decDigits_one h]; intro b hb; rw [List.mem_singleton.1 hb]; exact isDg_ofNat h
  ·rw [decDigits_big h]; intro b hb
   rcases List.mem_append.1 hb with hb | hb
   ·exact ih (u / 10) (by omega) b hb
   ·rw [List.mem_singleton.1 hb]; exact isDg_ofNat (Nat.mod_lt u (by decide : 0 < 10))
theorem decDigits_ne (u : Nat) : decDigits u ≠ [] := by
 intro h
 have := decDigits_length u
 rw [h] at this
 have := nDigits_pos u
 simp at *
 omega
theorem decFrom_append : ∀ (a b : L8) (acc n : Nat), decFrom acc a = some n → decFrom acc (a ++ b) = decFrom n b
 | [], _, acc, n, h => by simp only [decFrom, Option.some.injEq] at h; subst h; rfl
 | c :: a, b, acc, n, h => by
  simp only [decFrom, List.cons_append] at h ⊢
  cases hc : digitVal c with
  | none => rw [hc] at h; cases h
  | some d => rw [hc] at h; exact decFrom_append a b _ n h
theorem decFrom_decDigits (u : Nat) : decFrom 0 (decDigits u) = some u := by
 induction u using Nat.strongRecOn with
 | _ u ih =>
  by_cases h : u < 10
  ·rw [decDigits_one h]; simp only [decFrom, digitVal_ofNat h, Nat.zero_mul, Nat.zero_add]
  ·rw [decDigits_big h, decFrom_append _ _ _ _ (ih (u / 10) (by omega))]
   simp only [decFrom, digitVal_ofNat (Nat.mod_lt u (by decide : 0 < 10))]
   congr 1; omega
theorem decDigits_inj {m n : Nat} (h : decDigits m = decDigits n) : m = n := by
 have h1 := decFrom_decDigits m
 rw [h, decFrom_decDigits] at h1
 exact (Option.some.inj h1).symm
theorem decNat_decDigits (u : Nat) : decNat (decDigits u) = some u := by
 unfold decNat
 rw [if_neg (by have := decDigits_ne u; simpa using this), decFrom_decDigits]
theorem atoi_decDigits (u : Nat) : atoi (decDigits u) = some (u : Int) := by
 cases hd : decDigits u with
 | nil => exact absurd hd (decDigits_ne u)
 | cons b r =>
  have hb := decDigits_dg u b (by rw [hd]; simp)
  have h45 : (b == 45) = false := by
   rw [beq_eq_false_iff_ne]; rintro rfl; simp [isDg] at hb
  have h43 : (b == 43) = false := by
   rw [beq_eq_false_iff_ne]; rintro rfl; simp [isDg] at hb
  simp only [atoi, h45, h43]
  rw [← hd, decNat_decDigits]
  rfl
theorem split_unique {P : UInt8 → Prop} {c c' : UInt8} : ∀ {a a' r r' : L8}, (∀ b ∈ a, P b) → (∀ b ∈ a', P b) → ¬ P c → ¬ P c' → a ++ c :: r = a' ++ c' :: r' → a = a' ∧ c = c' ∧ r = r'
 | [], [], r, r', _, _, _, _, h => by simpa using h
 | [], b :: a', r, r', _, h2, h3, _, h => by
  simp only [List.nil_append, List.cons_append, List.cons.injEq] at h
  exact absurd (h.1 ▸ h2 b (by simp)) h3
 | b :: a, [], r, r', h1, _, _, h4, h => by
  simp only [List.nil_append, List.cons_append, List.cons.injEq] at h
  exact absurd (h.1 ▸ h1 b (by simp)) h4
 | b :: a, b' :: a', r, r', h1, h2, h3, h4, h => by
  simp only [List.cons_append, List.cons.injEq] at h
  obtain ⟨e1, e2, e3⟩ := split_unique (fun x hx => h1 x (by simp [hx])) (fun x hx => h2 x (by simp [hx])) h3 h4 h.2
  exact ⟨by rw [h.1, e1], e2, e3⟩
theorem indexByte_at {c : UInt8} : ∀ (a r : L8), (∀ b ∈ a, b ≠ c) → indexByte (a ++ c :: r) c = (a.length : Int)
 | [], r, _ => by simp [indexByte]
 | b :: a, r, h => by
  have hb : (b == c) = false := beq_eq_false_iff_ne.2 (h b (by simp))
  have ih := indexByte_at a r (fun x hx => h x (by simp [hx]))
  simp only [List.cons_append, indexByte, hb, ih]
  have : ((a.length : Int) == -1) = false := by rw [beq_eq_false_iff_ne]; omega
  rw [this]
  simp
theorem indexByte_split {c : UInt8} {l : L8} {o : Nat} (h : indexByte l c = (o : Int)) : l = l.take o ++ c :: l.drop (o + 1) ∧ (∀ b ∈ l.take o, b ≠ c) ∧ o < l.length := by
 obtain ⟨h1, h2⟩ := indexByte_some h
 have hlt : o < l.length := (List.getElem?_eq_some_iff.1 h1).1
 refine ⟨?_, fun b hb e => ?_, hlt⟩
 ·have h3 : l[o] = c := by rw [List.getElem?_eq_getElem hlt] at h1; exact Option.some.inj h1
  conv => lhs; rw [← List.take_append_drop o l, List.drop_eq_getElem_cons hlt, h3]
 ·subst e
  obtain ⟨k, hk, e⟩ := List.getElem_of_mem hb
  have hk2 : k < o := by simp at hk; omega
  refine h2 k hk2 ?_
  rw [List.getElem_take] at e
  rw [List.getElem?_eq_getElem (by omega), e]
theorem nDigits_le6 {n : Nat} (h : n < 1000000) : (decDigits n).length ≤ 6 := by
 rw [decDigits_length]
 rcases Nat.lt_or_ge n 10 with h1 | h1
 ·rw [nDigits_small h1]; omega
 rw [nDigits_big (by omega)]
 rcases Nat.lt_or_ge n 100 with h2 | h2
 ·rw [nDigits_small (by omega)]; omega
 rw [nDigits_big (by omega)]
 rcases Nat.lt_or_ge n 1000 with h3 | h3
 ·rw [nDigits_small (by omega)]; omega
 rw [nDigits_big (by omega)]
 rcases Nat.lt_or_ge n 10000 with h4 | h4
 ·rw [nDigits_small (by omega)]; omega
 rw [nDigits_big (by omega)]
 rcases Nat.lt_or_ge n 100000 with h5 | h5
 ·rw [nDigits_small (by omega)]; omega
 rw [nDigits_big (by omega), nDigits_small (by omega)]; omega
theorem lt_of_nDigits6 {n : Nat} (h : (decDigits n).length ≤ 6) : n < 1000000 := by
 rw [decDigits_length] at h
 have h1 := lt_pow_nDigits n
 have h2 : 10 ^ nDigits n ≤ 10 ^ 6 := Nat.pow_le_pow_right (by decide) h
 omega
end Go.Proofs.YtaebebpldkciiaaGreatDoor
namespace Go.Proofs.YtaebebpldkciiaaGreatDoor
open Go.Lib
def sumS (p : Nat × Nat) (c : UInt8) : Nat × Nat := ((p.1 + c.toNat) % 251, (p.2 + (p.1 + c.toNat) % 251) % 241)
def sumL (l : L8) : Nat := 256 * (l.foldl sumS (1, 0)).2 + (l.foldl sumS (1, 0)).1
theorem sumS_bd (l : L8) : (l.foldl sumS (1, 0)).1 ≤ 250 ∧ (l.foldl sumS (1, 0)).2 ≤ 240 := by
 suffices h : ∀ (l : L8) (p : Nat × Nat), p.1 ≤ 250 ∧ p.2 ≤ 240 → (l.foldl sumS p).1 ≤ 250 ∧ (l.foldl sumS p).2 ≤ 240 from h l (1, 0) ⟨by decide, by decide⟩
 intro l
 induction l with
 | nil => intro p h; exact h
 | cons b l ih =>
  intro p h
  rw [List.foldl_cons]
  refine ih _ ⟨?_, ?_⟩
  ·have := Nat.mod_lt (p.1 + b.toNat) (by decide : 0 < 251)
   simp only [sumS]; omega
  ·have := Nat.mod_lt (p.2 + (p.1 + b.toNat) % 251) (by decide : 0 < 241)
   simp only [sumS]; omega
theorem sumL_bd (l : L8) : sumL l < 100000 := by
 have := sumS_bd l
 unfold sumL; omega
def preL (e : Ent) : L8 := decDigits e.num.toNat ++ 32 :: (decDigits e.time.toNat ++ 32 :: (bl e.kind ++ 32 :: (decDigits (bl e.text).length ++ 58 :: bl e.text)))
def full (e : Ent) (m : Nat) (r : L8) : L8 := decDigits e.num.toNat ++ 32 :: (decDigits e.time.toNat ++ 32 :: (bl e.kind ++ 32 :: (decDigits (bl e.text).length ++ 58 :: (bl e.text ++ 59 :: (decDigits m ++ 10 :: r)))))
theorem full_pre (e : Ent) (m : Nat) (r : L8) : full e m r = preL e ++ 59 :: (decDigits m ++ 10 :: r) := by
 simp [full, preL]
theorem full_append (e : Ent) (m : Nat) (r s : L8) : full e m r ++ s = full e m (r ++ s) := by
 simp [full]
def encL (e : Ent) : L8 := full e (sumL (preL e)) []
theorem full_inj {e e' : Ent} {m m' : Nat} {r r' : L8} (h : Ok e) (h' : Ok e') (hf : full e m r = full e' m' r') : e = e' ∧ m = m' ∧ r = r' := by
 have nd : ∀ c : UInt8, c = 32 ∨ c = 58 ∨ c = 10 → ¬ isDg c = true := by
  intro c hc
  rcases hc with rfl | rfl | rfl <;> decide
 unfold full at hf
 obtain ⟨a1, _, hf⟩ := split_unique (P := fun b => isDg b = true) (decDigits_dg _) (decDigits_dg _) (nd 32 (by simp)) (nd 32 (by simp)) hf
 obtain ⟨a2, _, hf⟩ := split_unique (P := fun b => isDg b = true) (decDigits_dg _) (decDigits_dg _) (nd 32 (by simp)) (nd 32 (by simp)) hf
 obtain ⟨a3, _, hf⟩ := split_unique (P := fun b => lower b = true) h.kl h'.kl (by decide) (by decide) hf
 obtain ⟨a4, _, hf⟩ := split_unique (P := fun b => isDg b = true) (decDigits_dg _) (decDigits_dg _) (nd 58 (by simp)) (nd 58 (by simp)) hf
 obtain ⟨a5, hf⟩ := List.append_inj hf (decDigits_inj a4)
 rw [List.cons.injEq] at hf
 obtain ⟨a6, _, hf⟩ := split_unique (P := fun b => isDg b = true) (decDigits_dg _) (decDigits_dg _) (nd 10 (by simp)) (nd 10 (by simp)) hf.2
 have b1 := decDigits_inj a1
 have b2 := decDigits_inj a2
 have c1 := h.n1; have c2 := h'.n1; have c3 := h.t1; have c4 := h'.t1
 refine ⟨?_, decDigits_inj a6, hf⟩
 cases e; cases e'
 simp only at *
 have d1 := bl_inj a3
 have d2 := bl_inj a5
 subst d1; subst d2
 congr 1 <;> omega
theorem encL_len {e : Ent} (h : Ok e) : 1 ≤ (encL e).length ∧ (encL e).length ≤ 160 := by
 have n1 := h.n1; have n2 := h.n2; have t1 := h.t1; have t2 := h.t2; have x := h.x; have k := h.k
 have k0 : 0 < (bl e.kind).length := by
  rcases Nat.eq_zero_or_pos (bl e.kind).length with h0 | h0
  ·exact absurd (List.length_eq_zero_iff.1 h0) h.k0
  ·exact h0
 have pos : ∀ u, 1 ≤ (decDigits u).length := fun u => by rw [decDigits_length]; exact nDigits_pos u
 have a1 := nDigits_le6 (n := e.num.toNat) (by omega)
 have a2 := nDigits_le6 (n := e.time.toNat) (by omega)
 have a3 := nDigits_le6 (n := (bl e.text).length) (by omega)
 have a4 := nDigits_le6 (n := sumL (preL e)) (by have := sumL_bd (preL e); omega)
 have p1 := pos e.num.toNat; have p2 := pos e.time.toNat; have p3 := pos (bl e.text).length; have p4 := pos (sumL (preL e))
 unfold encL full
 simp only [List.length_append, List.length_cons, List.length_nil]
 omega
def Forms (l : L8) (e : Ent) (m : Nat) (r : L8) : Prop := Ok e ∧ m < 1000000 ∧ l = full e m r
theorem forms_uniq {l : L8} {e e' : Ent} {m m' : Nat} {r r' : L8} (h : Forms l e m r) (h' : Forms l e' m' r') : e = e' ∧ m = m' ∧ r = r' :=
 full_inj h.1 h'.1 (h.2.2.symm.trans h'.2.2)
theorem forms_enc {e : Ent} (h : Ok e) (r : L8) : Forms (encL e ++ r) e (sumL (preL e)) r := ⟨h, by have := sumL_bd (preL e); omega, by unfold encL; rw [full_append, List.nil_append]⟩
theorem forms_of_sum {l : L8} {e : Ent} {r : L8} (h : Forms l e (sumL (preL e)) r) : l = encL e ++ r := by
 rw [h.2.2]; unfold encL; rw [full_append, List.nil_append]
end Go.Proofs.YtaebebpldkciiaaGreatDoor
namespace Go.Proofs.YtaebebpldkciiaaGreatDoor
open Go.RowKit
open Go.Lib hiding intOf
structure Env (w : World) : Prop where
 tab : TabIs Tryz.prog w "internal/strconv.uint64pow10" .u64 pow10Tab
 syn : ∃ tp p, w.var? Tryz.prog "strconv.ErrSyntax" = some #[.iface tp p]
 rng : ∃ tp p, w.var? Tryz.prog "strconv.ErrRange" = some #[.iface tp p]
 most : ∃ m, w.cell? ⟨1, 0, none⟩ = some (.int .i64 m)
theorem gPow : Tryz.prog.globalNamed "internal/strconv.uint64pow10" = some 2 := by kernel_rfl
theorem gSyn : Tryz.prog.globalNamed "strconv.ErrSyntax" = some 6 := by kernel_rfl
theorem gRng : Tryz.prog.globalNamed "strconv.ErrRange" = some 7 := by kernel_rfl
theorem var_below {n : String} {g : Nat} {vs : Array Value} {w w' : World} (hg : Tryz.prog.globalNamed n = some g) (h : w.var? Tryz.prog n = some vs) (hb : Below w.heap.size w w') : w'.var? Tryz.prog n = some vs := by
 unfold World.var? at h ⊢
 rw [hg] at h ⊢
 simp only [Option.bind_some] at h ⊢
 have hlt : g < w.heap.size := by
  rcases Nat.lt_or_ge g w.heap.size with h' | h'
  ·exact h'
  ·rw [Array.getElem?_eq_none h'] at h; cases h
 rw [hb.block g hlt]
 exact h
theorem Env.below {w w' : World} (h : Env w) (hb : Below w.heap.size w w') : Env w' := by
 obtain ⟨h1, ⟨t2, p2, h2⟩, ⟨t3, p3, h3⟩, m, h4⟩ := h
 refine ⟨var_below gPow h1 hb, ⟨t2, p2, var_below gSyn h2 hb⟩, ⟨t3, p3, var_below gRng h3 hb⟩, m, ?_⟩
 rw [hb.cell (p := ⟨1, 0, none⟩) (lt_of_cell h4)]
 exact h4
theorem Cut1_any (s : ByteArray) (c : ByteArray) (w : World) (hs : s.size ≤ 1000) (he : Env w) :
  Calls Tryz.prog 94 #[.string s, .string c] w fun e w' => e = .returned (.tuple #[.string (mk (cut (bl s) (bl c)).1), .string (mk (cut (bl s) (bl c)).2.1), .bool (cut (bl s) (bl c)).2.2]) ∧ Below w.heap.size w w' := by
 obtain ⟨m, hm⟩ := he.most
 refine (Any.strings_Cut Tryz.lays145 s c m w (by omega) hm).mono ?_
 rintro e w' ⟨rfl, n, rfl⟩
 exact ⟨rfl, below_drewN (Below.refl _ _) n⟩
theorem Itoa_any (n : Nat) (w : World) (hn : n ≤ 9223372036854775807) (he : Env w) :
  Calls Tryz.prog 61 #[.int .i64 (n : Int)] w fun e w' => e = .returned (.string (mk (decDigits n))) ∧ Below w.heap.size w w' := by
 refine (Any.strconv_Itoa Tryz.lays171 (n : Int) (by omega) (by omega) w he.1).mono ?_
 rintro e w' ⟨rfl, k, os, rfl⟩
 rw [itoa_nonneg]
 exact ⟨rfl, below_grow _ _ (Nat.le_refl _) _ _⟩
theorem Index_any (s : ByteArray) (c : UInt8) (w : World) :
  Calls Tryz.prog 101 #[.string s, .string ⟨#[c]⟩] w fun e w' => e = .returned (.int .i64 (indexByte (bl s) c)) ∧ w = w' :=
 (Any.strings_Index_one Tryz.lays143 s c w).mono fun _ _ h => ⟨h.1, h.2.symm⟩
theorem Atoi_ok (s : ByteArray) (n : Int) (w : World) (hl : s.size ≤ 18) (h : atoi (bl s) = some n) :
  Calls Tryz.prog 146 #[.string s] w fun e w' => e = .returned (.tuple #[.int .i64 n, .nilIface]) ∧ Below w.heap.size w w' := by
 refine (Any.strconv_Atoi { Tryz.lays172 with } s n hl h w).mono ?_
 rintro e w' ⟨rfl, t, rfl⟩
 exact ⟨rfl, bytesWorld_below _ _ _⟩
theorem Atoi_no (s : ByteArray) (w : World) (hl : s.size ≤ 18) (h : atoi (bl s) = none) (he : Env w) :
  Calls Tryz.prog 146 #[.string s] w fun e w' => (∃ N t, e = .returned (.tuple #[.int .i64 0, .iface t (.pointer (some ⟨N, 0, none⟩))])) ∧ Below w.heap.size w w' := by
 obtain ⟨tp, p, hv⟩ := he.syn
 refine (Any.strconv_Atoi_err_var Tryz.lays172 s hl h tp p w hv).mono ?_
 rintro e w' ⟨N, rfl, _, _, hb⟩
 exact ⟨⟨N, _, rfl⟩, hb⟩
set_option maxRecDepth 100000 in
set_option maxHeartbeats 1000000 in
theorem Sum_any (s : ByteArray) (w : World) (hs : s.size ≤ maxLen) :
  Calls Tryz.prog 62 #[.string s] w fun e w' => e = .returned (.int .i64 ((sumL (bl s) : Nat) : Int)) ∧ w = w' := by
 unfold maxLen at hs
 go_enter Tryz.func62, Tryz.ntmps62
 go_wp2
 go_loop [3, 4, 5, 8] (fun a b _ i => ∃ k : Nat, k ≤ s.size ∧ i = .int .i64 (k : Int) ∧ a = .int .i64 (((((bl s).take k).foldl sumS (1, 0)).1 : Nat) : Int) ∧ b = .int .i64 (((((bl s).take k).foldl sumS (1, 0)).2 : Nat) : Int)) (fun _ _ _ i => s.size - (intOf i).toNat)
 case atStart => exact ⟨0, by omega, rfl, rfl, rfl⟩
 case round =>
  obtain ⟨k, hk, rfl, rfl, rfl⟩ := hrel
  have hbd := sumS_bd ((bl s).take k)
  by_cases hlt : k < s.size
  ·have hts := take_snoc s k hlt
   have hst : ((bl s).take (k + 1)).foldl sumS (1, 0) = sumS (((bl s).take k).foldl sumS (1, 0)) s[k] := by rw [hts, List.foldl_append]; rfl
   obtain ⟨p, hp⟩ : ∃ p, ((bl s).take k).foldl sumS (1, 0) = p := ⟨_, rfl⟩
   rw [hp] at hst hbd ⊢
   obtain ⟨a, b⟩ := p
   have HST := Lib.hid hst
   have hcb := UInt8.toNat_lt s[k]
   clear hts hst hp
   simp only at hbd ⊢
   obtain ⟨h1, h2⟩ := hbd
   go_wp2
   go_round
   case rel =>
    refine ⟨k + 1, by omega, by go_num, ?_, ?_⟩
    ·rw [HST.out]; simp only [sumS]; go_num
    ·rw [HST.out]; simp only [sumS]; go_num
   case measure => simp [intOf]; omega
  ·obtain rfl : s.size = k := by omega
   have htk : (bl s).take s.size = bl s := List.take_of_length_le (by rw [size_bl]; omega)
   rw [htk] at hbd ⊢
   obtain ⟨p, hp⟩ : ∃ p, (bl s).foldl sumS (1, 0) = p := ⟨_, rfl⟩
   have hq : sumL (bl s) = 256 * p.2 + p.1 := by unfold sumL; rw [hp]
   rw [hp] at hbd ⊢
   have HQ := Lib.hid hq
   clear htk hp hq
   go_wp2
   go_ret
   exact ⟨by rw [HQ.out]; exact ret_int (by omega), rfl⟩
end Go.Proofs.YtaebebpldkciiaaGreatDoor
