/- math/bits.Div64: the quotient and the rest of two words through one; no condition but that the quotient fits. -/
import Derived.Shelf.Small.Bits
import Derived.Shelf.Small.Wraps
import Derived.Shelf.Strconv.Itoa0
import Derived.Shelf.Bits.Mul64
import Derived.Ground.Names2Prog
import Derived.Shelf.Slices.Clone
import Derived.Shelf.Slices.SearchI
import Derived.Ground.SlgnProg
import Derived.Shelf.SlicesE.Clone
import Derived.Shelf.SlLaysF0
import Derived.Ground.SlsfProg
import Derived.Test.YtkjabiabeemfhaaGreatDoorProg
import Derived.WalkKit
import Derived.Lib.BitFns
import Derived.Lib.ItoaNum
import Derived.Test.YtkjabiabeemfhaaGreatDoorRows
import Derived.WalkSpells
import Derived.WalkSmall
import Derived.WalkLawsBesides
import Derived.BigQuiet
import Derived.Deep.RegionHeld3
import Derived.Deep.DeepCutAuto
import Derived.Deep.CutBlock
import Derived.Lib.Hide
set_option linter.all false
set_option linter.all false
section
namespace Go.Proofs
open Go.Shelf
def Tryz.lays134_ren : Go.Shelf.Ren := ⟨fun | 134 => 211 | 129 => 148 | n => n, fun | 53 => 203 | 3 => 3 | 4 => 4 | 46 => 189 | 5 => 5 | 9 => 9 | n => n, fun | n => n⟩
theorem Tryz.lays134 : Go.Proofs.Lays.n134 Tryz.prog Tryz.lays134_ren := {
 mixed := by kernel_rfl
 f129 := Tryz.func148.trans (congrArg some (by kernel_rfl))
 f134 := Tryz.func211.trans (congrArg some (by kernel_rfl))
 t3 := Tryz.underlying3
 a3 := Tryz.isAgg3
 z3 := Tryz.sizeOf3
 v3 := Tryz.zeroValue3
 t4 := Tryz.underlying4
 a4 := Tryz.isAgg4
 z4 := Tryz.sizeOf4
 v4 := Tryz.zeroValue4
 t5 := Tryz.underlying5
 a5 := Tryz.isAgg5
 z5 := Tryz.sizeOf5
 v5 := Tryz.zeroValue5
 t9 := Tryz.underlying9
 a9 := Tryz.isAgg9
 z9 := Tryz.sizeOf9
 v9 := Tryz.zeroValue9
 t46 := Tryz.underlying189
 a46 := Tryz.isAgg189
 z46 := Tryz.sizeOf189
 v46 := Tryz.zeroValue189
 t53 := Tryz.underlying203
 a53 := Tryz.isAgg203
 z53 := Tryz.sizeOf203
 v53 := Tryz.zeroValue203 }
theorem Tryz.bits_LeadingZeros64 (x : Int) (w : World) (h0 : 0 ≤ x) (h1 : x ≤ 18446744073709551615) :
  Calls Tryz.prog 211 #[.int .u64 x] w fun e w' => e = .returned (.int .i64 (64 - (Lib.bitLen x.toNat : Int))) ∧ w' = w := Any.bits_LeadingZeros64 Tryz.lays134 x w h0 h1
def Tryz.lays215_ren : Go.Shelf.Ren := ⟨fun | 215 => 97 | n => n, fun | 3 => 3 | 4 => 4 | n => n, fun | n => n⟩
def Tryz.lays122_ren : Go.Shelf.Ren := ⟨fun | 122 => 53 | 215 => 97 | n => n, fun | 3 => 3 | 4 => 4 | n => n, fun | n => n⟩
theorem Tryz.lays122 : Go.Proofs.Lays.n122 Tryz.prog Tryz.lays122_ren := {
 mixed := by kernel_rfl
 f122 := Tryz.func53.trans (congrArg some (by kernel_rfl))
 f215 := Tryz.func97.trans (congrArg some (by kernel_rfl))
 t3 := Tryz.underlying3
 a3 := Tryz.isAgg3
 z3 := Tryz.sizeOf3
 v3 := Tryz.zeroValue3
 t4 := Tryz.underlying4
 a4 := Tryz.isAgg4
 z4 := Tryz.sizeOf4
 v4 := Tryz.zeroValue4 }
open Go.RowKit in
theorem Tryz.cmp_Compare_int (x y : Int) (w : World) :
  Calls Tryz.prog 53 #[.int .i64 x, .int .i64 y] w fun e w' => e = .returned (.int .i64 (Lib.compareInt x y)) ∧ w' = w := Any.cmp_Compare_int Tryz.lays122 x y w
def Tryz.lays264_ren : Go.Shelf.Ren := ⟨fun | 264 => 202 | n => n, fun | 53 => 203 | 46 => 189 | n => n, fun | n => n⟩
theorem Tryz.lays264 : Go.Proofs.Lays.n264 Tryz.prog Tryz.lays264_ren := {
 mixed := by kernel_rfl
 f264 := Tryz.func202.trans (congrArg some (by kernel_rfl))
 t46 := Tryz.underlying189
 a46 := Tryz.isAgg189
 z46 := Tryz.sizeOf189
 v46 := Tryz.zeroValue189
 t53 := Tryz.underlying203
 a53 := Tryz.isAgg203
 z53 := Tryz.sizeOf203
 v53 := Tryz.zeroValue203 }
open Go.RowKit Go.Lib in
theorem Tryz.bits_Mul64 (x y : Nat) (hx : x < 18446744073709551616) (hy : y < 18446744073709551616) (w : World) :
  Calls Tryz.prog 202 #[.int .u64 x, .int .u64 y] w fun e w' => e = .returned (.tuple #[.int .u64 ((x * y / 18446744073709551616 : Nat) : Int), .int .u64 ((x * y % 18446744073709551616 : Nat) : Int)]) ∧ w' = w := Any.bits_Mul64 Tryz.lays264 x y hx hy w
def Tryz.laysNm215_ren : Go.Shelf.Ren := ⟨fun | 15 => 207 | n => n, fun | 22 => 94 | 3 => 3 | 4 => 4 | n => n, fun | n => n⟩
theorem Tryz.laysNm215 : Go.Proofs.Lays2.n15 Tryz.prog Tryz.laysNm215_ren := {
 mixed := by kernel_rfl
 f15 := Tryz.func207.trans (congrArg some (by kernel_rfl))
 t3 := Tryz.underlying3
 a3 := Tryz.isAgg3
 z3 := Tryz.sizeOf3
 v3 := Tryz.zeroValue3
 t4 := Tryz.underlying4
 a4 := Tryz.isAgg4
 z4 := Tryz.sizeOf4
 v4 := Tryz.zeroValue4
 t22 := Tryz.underlying94
 a22 := Tryz.isAgg94
 z22 := Tryz.sizeOf94
 v22 := Tryz.zeroValue94
 i3 := by kernel_rfl }
open Go.RowKit Go.Lib in
theorem Tryz.slices_Clone_int (b off n c : Nat) (zs : List Int) (w : World) (hz : n ≤ zs.length) (hbig : n * 8 ≤ 140737488355328) (hc : ∀ j, j < zs.length → w.cell? ⟨b, off + j, none⟩ = some (.int .i64 (zs.getD j 0))) :
  Calls Tryz.prog 207 #[.slice (some ⟨b, off, none⟩) n c] w fun e w' => ∃ v', e = .returned v' ∧ w'.ownsRow w.heap.size 3 1 v' n ((zs.take n).map (Value.int .i64)) ∧ v' ≠ .slice none 0 0 ∧ Below w.heap.size w w' := Any.slices_Clone_int Tryz.laysNm215 b off n c zs w hz hbig hc
def Tryz.sortFlow_ren : Go.Shelf.Ren := ⟨fun | 6 => 48 | 15 => 95 | 14 => 94 | 28 => 147 | 29 => 148 | 20 => 139 | 21 => 140 | 22 => 141 | 23 => 142 | 24 => 143 | 25 => 144 | 26 => 145 | 27 => 146 | 46 => 179 | 47 => 180 | 48 => 181 | 49 => 182 | 50 => 183 | 57 => 198 | n => n, fun | 22 => 30 | 24 => 50 | 25 => 106 | 3 => 3 | 39 => 189 | 0 => 0 | 53 => 239 | 55 => 203 | 4 => 4 | 46 => 233 | 45 => 232 | 50 => 58 | 5 => 5 | 9 => 9 | 66 => 276 | 70 => 280 | 76 => 299 | 77 => 300 | n => n, fun | n => n⟩
theorem Tryz.sortFlow : Go.Proofs.SlLaysF0.n6 Tryz.prog Tryz.sortFlow_ren := {
 mixed := by kernel_rfl
 f6 := ⟨Tryz.f48.name, by decide, Tryz.func48.trans (congrArg some (by kernel_rfl))⟩
 f14 := ⟨Tryz.f94.name, by decide, Tryz.func94.trans (congrArg some (by kernel_rfl))⟩
 f15 := Tryz.func95.trans (congrArg some (by kernel_rfl))
 f20 := ⟨Tryz.f139.name, by decide, Tryz.func139.trans (congrArg some (by kernel_rfl))⟩
 f21 := ⟨Tryz.f140.name, by decide, Tryz.func140.trans (congrArg some (by kernel_rfl))⟩
 f22 := ⟨Tryz.f141.name, by decide, Tryz.func141.trans (congrArg some (by kernel_rfl))⟩
 f23 := ⟨Tryz.f142.name, by decide, Tryz.func142.trans (congrArg some (by kernel_rfl))⟩
 f24 := ⟨Tryz.f143.name, by decide, Tryz.func143.trans (congrArg some (by kernel_rfl))⟩
 f25 := ⟨Tryz.f144.name, by decide, Tryz.func144.trans (congrArg some (by kernel_rfl))⟩
 f26 := ⟨Tryz.f145.name, by decide, Tryz.func145.trans (congrArg some (by kernel_rfl))⟩
 f27 := ⟨Tryz.f146.name, by decide, Tryz.func146.trans (congrArg some (by kernel_rfl))⟩
 f28 := Tryz.func147.trans (congrArg some (by kernel_rfl))
 f29 := Tryz.func148.trans (congrArg some (by kernel_rfl))
 f46 := ⟨Tryz.f179.name, by decide, Tryz.func179.trans (congrArg some (by kernel_rfl))⟩
 f47 := Tryz.func180.trans (congrArg some (by kernel_rfl))
 f48 := Tryz.func181.trans (congrArg some (by kernel_rfl))
 f49 := ⟨Tryz.f182.name, by decide, Tryz.func182.trans (congrArg some (by kernel_rfl))⟩
 f50 := ⟨Tryz.f183.name, by decide, Tryz.func183.trans (congrArg some (by kernel_rfl))⟩
 f57 := ⟨Tryz.f198.name, by decide, Tryz.func198.trans (congrArg some (by kernel_rfl))⟩
 t0 := Tryz.underlying0
 a0 := Tryz.isAgg0
 z0 := Tryz.sizeOf0
 v0 := Tryz.zeroValue0
 t3 := Tryz.underlying3
 a3 := Tryz.isAgg3
 z3 := Tryz.sizeOf3
 v3 := Tryz.zeroValue3
 t4 := Tryz.underlying4
 a4 := Tryz.isAgg4
 z4 := Tryz.sizeOf4
 v4 := Tryz.zeroValue4
 t5 := Tryz.underlying5
 a5 := Tryz.isAgg5
 z5 := Tryz.sizeOf5
 v5 := Tryz.zeroValue5
 t9 := Tryz.underlying9
 a9 := Tryz.isAgg9
 z9 := Tryz.sizeOf9
 v9 := Tryz.zeroValue9
 t22 := Tryz.underlying30
 a22 := Tryz.isAgg30
 z22 := Tryz.sizeOf30
 v22 := Tryz.zeroValue30
 t25 := Tryz.underlying106
 a25 := Tryz.isAgg106
 z25 := Tryz.sizeOf106
 v25 := Tryz.zeroValue106
 t39 := Tryz.underlying189
 a39 := Tryz.isAgg189
 z39 := Tryz.sizeOf189
 v39 := Tryz.zeroValue189
 t45 := Tryz.underlying232
 a45 := Tryz.isAgg232
 z45 := Tryz.sizeOf232
 v45 := Tryz.zeroValue232
 t46 := Tryz.underlying233
 a46 := Tryz.isAgg233
 z46 := Tryz.sizeOf233
 v46 := Tryz.zeroValue233
 t50 := Tryz.underlying58
 a50 := Tryz.isAgg58
 z50 := Tryz.sizeOf58
 v50 := Tryz.zeroValue58
 t53 := Tryz.underlying239
 a53 := Tryz.isAgg239
 z53 := Tryz.sizeOf239
 v53 := Tryz.zeroValue239
 t55 := Tryz.underlying203
 a55 := Tryz.isAgg203
 z55 := Tryz.sizeOf203
 v55 := Tryz.zeroValue203
 t66 := Tryz.underlying276
 a66 := Tryz.isAgg276
 z66 := Tryz.sizeOf276
 v66 := Tryz.zeroValue276
 t70 := Tryz.underlying280
 a70 := Tryz.isAgg280
 z70 := Tryz.sizeOf280
 v70 := Tryz.zeroValue280
 t76 := Tryz.underlying299
 a76 := Tryz.isAgg299
 z76 := Tryz.sizeOf299
 v76 := Tryz.zeroValue299
 t77 := Tryz.underlying300
 a77 := Tryz.isAgg300
 z77 := Tryz.sizeOf300
 v77 := Tryz.zeroValue300 }
def Tryz.sortWait_ren : Go.Shelf.Ren := ⟨fun | 6 => 50 | 15 => 95 | 14 => 96 | 28 => 147 | 29 => 148 | 20 => 149 | 21 => 150 | 22 => 151 | 23 => 152 | 24 => 153 | 25 => 154 | 26 => 155 | 27 => 156 | 46 => 184 | 47 => 180 | 48 => 181 | 49 => 185 | 50 => 186 | 57 => 199 | n => n, fun | 22 => 34 | 24 => 46 | 25 => 111 | 3 => 3 | 39 => 189 | 0 => 0 | 53 => 239 | 55 => 203 | 4 => 4 | 46 => 233 | 45 => 232 | 50 => 58 | 5 => 5 | 9 => 9 | 66 => 276 | 70 => 280 | 76 => 299 | 77 => 300 | n => n, fun | n => n⟩
theorem Tryz.sortWait : Go.Proofs.SlLaysF0.n6 Tryz.prog Tryz.sortWait_ren := {
 mixed := by kernel_rfl
 f6 := ⟨Tryz.f50.name, by decide, Tryz.func50.trans (congrArg some (by kernel_rfl))⟩
 f14 := ⟨Tryz.f96.name, by decide, Tryz.func96.trans (congrArg some (by kernel_rfl))⟩
 f15 := Tryz.func95.trans (congrArg some (by kernel_rfl))
 f20 := ⟨Tryz.f149.name, by decide, Tryz.func149.trans (congrArg some (by kernel_rfl))⟩
 f21 := ⟨Tryz.f150.name, by decide, Tryz.func150.trans (congrArg some (by kernel_rfl))⟩
 f22 := ⟨Tryz.f151.name, by decide, Tryz.func151.trans (congrArg some (by kernel_rfl))⟩
 f23 := ⟨Tryz.f152.name, by decide, Tryz.func152.trans (congrArg some (by kernel_rfl))⟩
 f24 := ⟨Tryz.f153.name, by decide, Tryz.func153.trans (congrArg some (by kernel_rfl))⟩
 f25 := ⟨Tryz.f154.name, by decide, Tryz.func154.trans (congrArg some (by kernel_rfl))⟩
 f26 := ⟨Tryz.f155.name, by decide, Tryz.func155.trans (congrArg some (by kernel_rfl))⟩
 f27 := ⟨Tryz.f156.name, by decide, Tryz.func156.trans (congrArg some (by kernel_rfl))⟩
 f28 := Tryz.func147.trans (congrArg some (by kernel_rfl))
 f29 := Tryz.func148.trans (congrArg some (by kernel_rfl))
 f46 := ⟨Tryz.f184.name, by decide, Tryz.func184.trans (congrArg some (by kernel_rfl))⟩
 f47 := Tryz.func180.trans (congrArg some (by kernel_rfl))
 f48 := Tryz.func181.trans (congrArg some (by kernel_rfl))
 f49 := ⟨Tryz.f185.name, by decide, Tryz.func185.trans (congrArg some (by kernel_rfl))⟩
 f50 := ⟨Tryz.f186.name, by decide, Tryz.func186.trans (congrArg some (by kernel_rfl))⟩
 f57 := ⟨Tryz.f199.name, by decide, Tryz.func199.trans (congrArg some (by kernel_rfl))⟩
 t0 := Tryz.underlying0
 a0 := Tryz.isAgg0
 z0 := Tryz.sizeOf0
 v0 := Tryz.zeroValue0
 t3 := Tryz.underlying3
 a3 := Tryz.isAgg3
 z3 := Tryz.sizeOf3
 v3 := Tryz.zeroValue3
 t4 := Tryz.underlying4
 a4 := Tryz.isAgg4
 z4 := Tryz.sizeOf4
 v4 := Tryz.zeroValue4
 t5 := Tryz.underlying5
 a5 := Tryz.isAgg5
 z5 := Tryz.sizeOf5
 v5 := Tryz.zeroValue5
 t9 := Tryz.underlying9
 a9 := Tryz.isAgg9
 z9 := Tryz.sizeOf9
 v9 := Tryz.zeroValue9
 t22 := Tryz.underlying34
 a22 := Tryz.isAgg34
 z22 := Tryz.sizeOf34
 v22 := Tryz.zeroValue34
 t25 := Tryz.underlying111
 a25 := Tryz.isAgg111
 z25 := Tryz.sizeOf111
 v25 := Tryz.zeroValue111
 t39 := Tryz.underlying189
 a39 := Tryz.isAgg189
 z39 := Tryz.sizeOf189
 v39 := Tryz.zeroValue189
 t45 := Tryz.underlying232
 a45 := Tryz.isAgg232
 z45 := Tryz.sizeOf232
 v45 := Tryz.zeroValue232
 t46 := Tryz.underlying233
 a46 := Tryz.isAgg233
 z46 := Tryz.sizeOf233
 v46 := Tryz.zeroValue233
 t50 := Tryz.underlying58
 a50 := Tryz.isAgg58
 z50 := Tryz.sizeOf58
 v50 := Tryz.zeroValue58
 t53 := Tryz.underlying239
 a53 := Tryz.isAgg239
 z53 := Tryz.sizeOf239
 v53 := Tryz.zeroValue239
 t55 := Tryz.underlying203
 a55 := Tryz.isAgg203
 z55 := Tryz.sizeOf203
 v55 := Tryz.zeroValue203
 t66 := Tryz.underlying276
 a66 := Tryz.isAgg276
 z66 := Tryz.sizeOf276
 v66 := Tryz.zeroValue276
 t70 := Tryz.underlying280
 a70 := Tryz.isAgg280
 z70 := Tryz.sizeOf280
 v70 := Tryz.zeroValue280
 t76 := Tryz.underlying299
 a76 := Tryz.isAgg299
 z76 := Tryz.sizeOf299
 v76 := Tryz.zeroValue299
 t77 := Tryz.underlying300
 a77 := Tryz.isAgg300
 z77 := Tryz.sizeOf300
 v77 := Tryz.zeroValue300 }
def Tryz.sortEntry_ren : Go.Shelf.Ren := ⟨fun | 6 => 205 | 15 => 95 | 14 => 212 | 28 => 147 | 29 => 148 | 20 => 215 | 21 => 216 | 22 => 217 | 23 => 218 | 24 => 219 | 25 => 220 | 26 => 221 | 27 => 222 | 46 => 224 | 47 => 180 | 48 => 181 | 49 => 225 | 50 => 226 | 57 => 227 | n => n, fun | 22 => 307 | 24 => 309 | 25 => 311 | 3 => 3 | 39 => 189 | 0 => 0 | 53 => 239 | 55 => 203 | 4 => 4 | 46 => 233 | 45 => 232 | 50 => 58 | 5 => 5 | 9 => 9 | 66 => 276 | 70 => 280 | 76 => 299 | 77 => 300 | n => n, fun | n => n⟩
theorem Tryz.sortEntry : Go.Proofs.SlLaysF0.n6 Tryz.prog Tryz.sortEntry_ren := {
 mixed := by kernel_rfl
 f6 := ⟨Tryz.f205.name, by decide, Tryz.func205.trans (congrArg some (by kernel_rfl))⟩
 f14 := ⟨Tryz.f212.name, by decide, Tryz.func212.trans (congrArg some (by kernel_rfl))⟩
 f15 := Tryz.func95.trans (congrArg some (by kernel_rfl))
 f20 := ⟨Tryz.f215.name, by decide, Tryz.func215.trans (congrArg some (by kernel_rfl))⟩
 f21 := ⟨Tryz.f216.name, by decide, Tryz.func216.trans (congrArg some (by kernel_rfl))⟩
 f22 := ⟨Tryz.f217.name, by decide, Tryz.func217.trans (congrArg some (by kernel_rfl))⟩
 f23 := ⟨Tryz.f218.name, by decide, Tryz.func218.trans (congrArg some (by kernel_rfl))⟩
 f24 := ⟨Tryz.f219.name, by decide, Tryz.func219.trans (congrArg some (by kernel_rfl))⟩
 f25 := ⟨Tryz.f220.name, by decide, Tryz.func220.trans (congrArg some (by kernel_rfl))⟩
 f26 := ⟨Tryz.f221.name, by decide, Tryz.func221.trans (congrArg some (by kernel_rfl))⟩
 f27 := ⟨Tryz.f222.name, by decide, Tryz.func222.trans (congrArg some (by kernel_rfl))⟩
 f28 := Tryz.func147.trans (congrArg some (by kernel_rfl))
 f29 := Tryz.func148.trans (congrArg some (by kernel_rfl))
 f46 := ⟨Tryz.f224.name, by decide, Tryz.func224.trans (congrArg some (by kernel_rfl))⟩
 f47 := Tryz.func180.trans (congrArg some (by kernel_rfl))
 f48 := Tryz.func181.trans (congrArg some (by kernel_rfl))
 f49 := ⟨Tryz.f225.name, by decide, Tryz.func225.trans (congrArg some (by kernel_rfl))⟩
 f50 := ⟨Tryz.f226.name, by decide, Tryz.func226.trans (congrArg some (by kernel_rfl))⟩
 f57 := ⟨Tryz.f227.name, by decide, Tryz.func227.trans (congrArg some (by kernel_rfl))⟩
 t0 := Tryz.underlying0
 a0 := Tryz.isAgg0
 z0 := Tryz.sizeOf0
 v0 := Tryz.zeroValue0
 t3 := Tryz.underlying3
 a3 := Tryz.isAgg3
 z3 := Tryz.sizeOf3
 v3 := Tryz.zeroValue3
 t4 := Tryz.underlying4
 a4 := Tryz.isAgg4
 z4 := Tryz.sizeOf4
 v4 := Tryz.zeroValue4
 t5 := Tryz.underlying5
 a5 := Tryz.isAgg5
 z5 := Tryz.sizeOf5
 v5 := Tryz.zeroValue5
 t9 := Tryz.underlying9
 a9 := Tryz.isAgg9
 z9 := Tryz.sizeOf9
 v9 := Tryz.zeroValue9
 t22 := Tryz.underlying307
 a22 := Tryz.isAgg307
 z22 := Tryz.sizeOf307
 v22 := Tryz.zeroValue307
 t25 := Tryz.underlying311
 a25 := Tryz.isAgg311
 z25 := Tryz.sizeOf311
 v25 := Tryz.zeroValue311
 t39 := Tryz.underlying189
 a39 := Tryz.isAgg189
 z39 := Tryz.sizeOf189
 v39 := Tryz.zeroValue189
 t45 := Tryz.underlying232
 a45 := Tryz.isAgg232
 z45 := Tryz.sizeOf232
 v45 := Tryz.zeroValue232
 t46 := Tryz.underlying233
 a46 := Tryz.isAgg233
 z46 := Tryz.sizeOf233
 v46 := Tryz.zeroValue233
 t50 := Tryz.underlying58
 a50 := Tryz.isAgg58
 z50 := Tryz.sizeOf58
 v50 := Tryz.zeroValue58
 t53 := Tryz.underlying239
 a53 := Tryz.isAgg239
 z53 := Tryz.sizeOf239
 v53 := Tryz.zeroValue239
 t55 := Tryz.underlying203
 a55 := Tryz.isAgg203
 z55 := Tryz.sizeOf203
 v55 := Tryz.zeroValue203
 t66 := Tryz.underlying276
 a66 := Tryz.isAgg276
 z66 := Tryz.sizeOf276
 v66 := Tryz.zeroValue276
 t70 := Tryz.underlying280
 a70 := Tryz.isAgg280
 z70 := Tryz.sizeOf280
 v70 := Tryz.zeroValue280
 t76 := Tryz.underlying299
 a76 := Tryz.isAgg299
 z76 := Tryz.sizeOf299
 v76 := Tryz.zeroValue299
 t77 := Tryz.underlying300
 a77 := Tryz.isAgg300
 z77 := Tryz.sizeOf300
 v77 := Tryz.zeroValue300 }
end Go.Proofs
end
section
namespace Go.Proofs.YtkjabiabeemfhaaGreatDoor
open Go.RowKit
set_option maxRecDepth 100000
structure DInv (a b u d q r : Int) : Prop where
 e : q * a + r = u
 r0 : 0 ≤ r
 q0 : 0 ≤ q
 up : u * 4294967296 + d < q * a * 4294967296 + q * b + (a * 4294967296 + b)
 qb : q ≤ 4294967297
structure DEnd (a b u d q : Int) : Prop where
 q0 : 0 ≤ q
 qb : q ≤ 4294967295
 lo : q * a * 4294967296 + q * b ≤ u * 4294967296 + d
 up : u * 4294967296 + d < q * a * 4294967296 + q * b + (a * 4294967296 + b)
theorem DInv.start {a b u d : Int} (a1 : 2147483648 ≤ a) (a2 : a ≤ 4294967295) (b1 : 0 ≤ b) (b2 : b ≤ 4294967295) (u1 : 0 ≤ u) (u2 : u < a * 4294967296 + b) (d1 : 0 ≤ d) (d2 : d ≤ 4294967295) :
  DInv a b u d (u / a) (u - u / a * a) := by
 have h1 := Int.emod_add_mul_ediv u a
 have h2 := Int.emod_nonneg u (show a ≠ 0 by omega)
 have h3 := Int.emod_lt_of_pos u (show 0 < a by omega)
 have h4 : u / a * a = a * (u / a) := Int.mul_comm _ _
 have h0 : 0 ≤ u / a := Int.ediv_nonneg u1 (by omega)
 have hq : u / a < 4294967298 := Int.ediv_lt_of_lt_mul (by omega) (by omega)
 have h5 : 0 ≤ u / a * b := Int.mul_nonneg h0 b1
 refine ⟨by omega, by omega, h0, ?_, by omega⟩
 rw [h4]
 generalize a * (u / a) = P at *
 omega
theorem DInv.small {a b u d q r : Int} (h : DInv a b u d q r) (b1 : 0 ≤ b) (b2 : b ≤ 4294967295) (hq : q < 4294967296) : 0 ≤ q * b ∧ q * b ≤ 18446744073709551615 := by
 refine ⟨Int.mul_nonneg h.q0 b1, ?_⟩
 have := Int.mul_le_mul (show q ≤ 4294967295 by omega) b2 b1 (by omega)
 omega
theorem DInv.stop {a b u d q r : Int} (h : DInv a b u d q r) (hq : q < 4294967296) (hc : q * b ≤ 4294967296 * r + d) : DEnd a b u d q := by
 obtain ⟨e, r0, q0, up, qb⟩ := h
 refine ⟨q0, by omega, ?_, up⟩
 generalize q * a = P at *
 generalize q * b = S at *
 omega
theorem DInv.next {a b u d q r : Int} (h : DInv a b u d q r) (a1 : 2147483648 ≤ a) (a2 : a ≤ 4294967295) (b1 : 0 ≤ b) (b2 : b ≤ 4294967295) (u2 : u < a * 4294967296 + b) (d1 : 0 ≤ d) (d2 : d ≤ 4294967295)
  (hc : 4294967296 ≤ q ∨ 4294967296 * r + d < q * b) : 1 ≤ q ∧ DInv a b u d (q - 1) (r + a) := by
 obtain ⟨e, r0, q0, up, qb⟩ := h
 have e1 : (q - 1) * a = q * a - a := by rw [Int.sub_mul]; omega
 have e2 : (q - 1) * b = q * b - b := by rw [Int.sub_mul]; omega
 have hq : 1 ≤ q := by
  rcases hc with h | h
  ·omega
  ·by_cases hz : q = 0
   ·subst hz; simp at h; omega
   ·omega
 have key : u * 4294967296 + d < q * a * 4294967296 + q * b := by
  rcases hc with h | h
  ·have k1 := Int.mul_le_mul h (Int.le_refl a) (by omega) (by omega)
   have k2 := Int.mul_le_mul h (Int.le_refl b) (by omega) (by omega)
   generalize q * a = P at *
   generalize q * b = S at *
   omega
  ·generalize q * a = P at *
   generalize q * b = S at *
   omega
 refine ⟨hq, ?_, by omega, by omega, ?_, by omega⟩
 ·rw [e1]; omega
 ·rw [e1, e2]
  generalize q * a = P at *
  generalize q * b = S at *
  omega
theorem DInv.leave {a b u d q r : Int} (h : DInv a b u d q r) (a1 : 2147483648 ≤ a) (b1 : 0 ≤ b) (b2 : b ≤ 4294967295) (u2 : u < a * 4294967296 + b) (d1 : 0 ≤ d) (d2 : d ≤ 4294967295) (hq : q ≤ 4294967296) (hr : 4294967296 ≤ r) : DEnd a b u d q := by
 obtain ⟨e, r0, q0, up, qb⟩ := h
 have k : q * b ≤ 4294967296 * 4294967295 := Int.mul_le_mul hq b2 b1 (by omega)
 have lo : q * a * 4294967296 + q * b ≤ u * 4294967296 + d := by
  generalize q * a = P at *
  generalize q * b = S at *
  omega
 refine ⟨q0, ?_, lo, up⟩
 by_cases hz : q = 4294967296
 ·subst hz; omega
 ·omega
theorem two_digits {a b u v1 v0 q1 q0 Y : Int} (hY : Y = a * 4294967296 + b) (h1 : DEnd a b u v1 q1) (h0 : DEnd a b (u * 4294967296 + v1 - q1 * Y) v0 q0) (hYp : 0 < Y) :
  q1 * 4294967296 + q0 = (u * 18446744073709551616 + (v1 * 4294967296 + v0)) / Y ∧
  (u * 4294967296 + v1 - q1 * Y) * 4294967296 + v0 - q0 * Y = (u * 18446744073709551616 + (v1 * 4294967296 + v0)) % Y := by
 have e0 : q0 * Y = q0 * a * 4294967296 + q0 * b := by rw [hY, Int.mul_add, Int.mul_assoc]
 have l := h0.lo
 have p := h0.up
 rw [← hY, ← e0] at p
 rw [← e0] at l
 have E : u * 18446744073709551616 + (v1 * 4294967296 + v0) = (q1 * 4294967296 + q0) * Y + ((u * 4294967296 + v1 - q1 * Y) * 4294967296 + v0 - q0 * Y) := by
  rw [Int.add_mul, Int.mul_right_comm]
  generalize q1 * Y = A at *
  generalize q0 * Y = C at *
  omega
 have := Int.ediv_emod_unique (a := u * 18446744073709551616 + (v1 * 4294967296 + v0)) (b := Y) (r := (u * 4294967296 + v1 - q1 * Y) * 4294967296 + v0 - q0 * Y) (q := q1 * 4294967296 + q0) hYp
 have h := this.2 ⟨by rw [E, Int.mul_comm Y]; omega, by omega, by omega⟩
 exact ⟨h.1.symm, h.2.symm⟩
theorem bits_pow (y : Nat) (h0 : 0 < y) (h1 : y < 18446744073709551616) : ∃ k : Nat, k ≤ 63 ∧ 64 - (Lib.bitLen y : Int) = k ∧ 9223372036854775808 ≤ y * 2 ^ k ∧ y * 2 ^ k < 18446744073709551616 := by
 have hb := Lib.bitLenAux_bounds 64 y (by simpa using h1) (by omega)
 have hl := Lib.bitLen_le y 64 (by omega) (by simpa using h1)
 unfold Lib.bitLen at *
 generalize Lib.bitLenAux 64 y = n at *
 obtain ⟨b1, b2, b3⟩ := hb
 refine ⟨64 - n, by omega, by omega, ?_, ?_⟩
 ·have e : 2 ^ (n - 1) * 2 ^ (64 - n) = 2 ^ 63 := by rw [← Nat.pow_add]; congr 1; omega
  have := Nat.mul_le_mul_right (2 ^ (64 - n)) b2
  rw [e] at this
  omega
 ·have e : 2 ^ n * 2 ^ (64 - n) = 2 ^ 64 := by rw [← Nat.pow_add]; congr 1; omega
  have := Nat.mul_lt_mul_of_pos_right b3 (show 0 < 2 ^ (64 - n) from Nat.two_pow_pos _)
  rw [e] at this
  omega
theorem shift_two (hi lo y : Nat) (k : Nat) (hk : k ≤ 63) (hy : y * 2 ^ k < 18446744073709551616) (h : hi < y) (hlo : lo < 18446744073709551616) :
  hi * 2 ^ k < 18446744073709551616 ∧ lo / 2 ^ (64 - k) < 2 ^ k ∧ (hi * 2 ^ k) ||| (lo / 2 ^ (64 - k)) = hi * 2 ^ k + lo / 2 ^ (64 - k) ∧
  hi * 2 ^ k + lo / 2 ^ (64 - k) < y * 2 ^ k ∧ (hi * 2 ^ k + lo / 2 ^ (64 - k)) * 18446744073709551616 + lo * 2 ^ k % 18446744073709551616 = (hi * 18446744073709551616 + lo) * 2 ^ k := by
 have e : 2 ^ (64 - k) * 2 ^ k = 18446744073709551616 := by rw [← Nat.pow_add, show 64 - k + k = 64 by omega]
 have p1 : 0 < 2 ^ (64 - k) := Nat.two_pow_pos _
 have p2 : 0 < 2 ^ k := Nat.two_pow_pos _
 have m1 : hi * 2 ^ k + 2 ^ k ≤ y * 2 ^ k := by
  have := Nat.mul_le_mul_right (2 ^ k) (show hi + 1 ≤ y from h)
  rw [Nat.add_mul] at this
  omega
 have d1 : lo / 2 ^ (64 - k) < 2 ^ k := Nat.div_lt_of_lt_mul (by rw [e]; exact hlo)
 have o1 : (hi * 2 ^ k) ||| (lo / 2 ^ (64 - k)) = hi * 2 ^ k + lo / 2 ^ (64 - k) := by
  rw [Nat.mul_comm hi, Nat.two_pow_add_eq_or_of_lt d1]
 refine ⟨by omega, d1, o1, by omega, ?_⟩
 have md : lo * 2 ^ k % 18446744073709551616 = (lo % 2 ^ (64 - k)) * 2 ^ k := by
  rw [← e, Nat.mul_mod_mul_right]
 have dm := Nat.div_add_mod lo (2 ^ (64 - k))
 rw [md, Nat.add_mul, Nat.add_mul, ← e]
 have : lo * 2 ^ k = (2 ^ (64 - k) * (lo / 2 ^ (64 - k)) + lo % 2 ^ (64 - k)) * 2 ^ k := by rw [dm]
 rw [this, Nat.add_mul]
 have c1 : lo / 2 ^ (64 - k) * (2 ^ (64 - k) * 2 ^ k) = 2 ^ (64 - k) * (lo / 2 ^ (64 - k)) * 2 ^ k := by
  rw [← Nat.mul_assoc, Nat.mul_comm (lo / 2 ^ (64 - k))]
 have c2 : hi * 2 ^ k * (2 ^ (64 - k) * 2 ^ k) = hi * (2 ^ (64 - k) * 2 ^ k) * 2 ^ k := by
  rw [Nat.mul_right_comm]
 omega
theorem wrap_u64 (n : Int) : IntKind.u64.wrap n = n % 18446744073709551616 := by simp [IntKind.wrap, IntKind.bits, IntKind.signed]
theorem wrap_three (A B C : Int) (h0 : 0 ≤ A + B - C) (h1 : A + B - C ≤ 18446744073709551615) : IntKind.u64.wrap (IntKind.u64.wrap (IntKind.u64.wrap A + B) - IntKind.u64.wrap C) = A + B - C := by
 simp only [wrap_u64]; omega
theorem wrap_two (A C : Int) (h0 : 0 ≤ A - C) (h1 : A - C ≤ 18446744073709551615) : IntKind.u64.wrap (A - IntKind.u64.wrap C) = A - C := by
 simp only [wrap_u64]; omega
set_option maxHeartbeats 1000000 in
theorem div64_core (hi lo y : Int) (w : World) (h1 : 0 ≤ hi) (h2 : hi < y) (h3 : 0 ≤ lo) (h4 : lo ≤ 18446744073709551615) (h5 : y ≤ 18446744073709551615) (hz : ¬ hi = 0)
  (k : Nat) (Y a b u v v1 v0 : Int) (hk : (k : Int) ≤ 63) (HS : Hid (64 - (Lib.bitLen y.toNat : Int) = k)) (eY : IntKind.u64.wrap (y * 2 ^ k) = Y)
  (ea : Y / 4294967296 = a) (eb : bits BinOp.and IntKind.u64 Y 4294967295 = b) (a1 : 2147483648 ≤ a) (a2 : a ≤ 4294967295) (b1 : 0 ≤ b) (b2 : b ≤ 4294967295) (HY : Hid (Y = a * 4294967296 + b)) (Y1 : 0 ≤ Y) (Y2 : Y ≤ 18446744073709551615)
  (eu : bits BinOp.or IntKind.u64 (IntKind.u64.wrap (hi * 2 ^ k)) (lo / 2 ^ (64 - k)) = u) (u1 : 0 ≤ u) (u2 : u < a * 4294967296 + b) (u3 : u ≤ 18446744073709551615)
  (ev : IntKind.u64.wrap (lo * 2 ^ k) = v) (ev1 : v / 4294967296 = v1) (ev0 : bits BinOp.and IntKind.u64 v 4294967295 = v0) (v10 : 0 ≤ v1) (v11 : v1 ≤ 4294967295) (v00 : 0 ≤ v0) (v01 : v0 ≤ 4294967295) (v2 : 0 ≤ v) (v3 : v ≤ 18446744073709551615) :
  Calls Tryz.prog 203 #[.int .u64 hi, .int .u64 lo, .int .u64 y] w fun e w' => e = .returned (.tuple #[.int .u64 ((u * 18446744073709551616 + (v1 * 4294967296 + v0)) / Y), .int .u64 ((u * 18446744073709551616 + (v1 * 4294967296 + v0)) % Y / 2 ^ k)]) ∧ w = w' := by
  have hy : 0 < y := by omega
  have I := DInv.start a1 a2 b1 b2 u1 u2 v10 v11
  have er : IntKind.u64.wrap (u - IntKind.u64.wrap (u / a * a)) = u - u / a * a := wrap_two _ _ (by have := I.r0; omega) (by have := Int.mul_nonneg I.q0 (show 0 ≤ a by omega); omega)
  have r2 : u - u / a * a < 4294967296 := by
   have h1 := Int.emod_add_mul_ediv u a
   have h3 := Int.emod_lt_of_pos u (show 0 < a by omega)
   have h4 : u / a * a = a * (u / a) := Int.mul_comm _ _
   omega
  have r1 := I.r0
  have q1 := I.q0
  generalize hqq : u / a = q at *
  generalize hrr : u - q * a = r at *
  clear hrr
  have I' : DInv a b u v1 (u / a) r := by rw [hqq]; exact I
  have HI := Lib.hid I'
  clear I'
  go_enter Tryz.func203, Tryz.ntmps203
  go_upto_block 0 with (go_at_call 211; refine (Tryz.bits_LeadingZeros64 _ _ (by omega) (by omega)).mono ?_; rw [HS.out]; rintro e w' ⟨rfl, rfl⟩)
  clear eY ea eb eu ev ev1 ev0 er hqq
  go_cut [15, 16] (fun s15 s16 wx => ∃ q1 r1 : Int, s15 = .int .u64 q1 ∧ s16 = .int .u64 r1 ∧ DEnd a b u v1 q1 ∧ wx = w')
  case first =>
   go_wp2_with fail
   go_loop [15, 16] (fun s15 s16 => ∃ q r : Int, s15 = .int .u64 q ∧ s16 = .int .u64 r ∧ r < 4294967296 ∧ DInv a b u v1 q r) (fun s15 _ => (intOf s15).toNat)
   case atStart => exact ⟨_, _, rfl, rfl, r2, HI.out⟩
   case round =>
    obtain ⟨q, r, rfl, rfl, hr, J⟩ := hrel
    have j0 := J.q0
    have j1 := J.r0
    have j2 := J.qb
    by_cases hq : 4294967296 ≤ q
    ·have N := J.next a1 a2 b1 b2 u2 v10 v11 (.inl hq)
     have n1 := N.1
     by_cases hr2 : 4294967296 ≤ r + a
     ·go_wp2
      go_meet
      exact ⟨_, _, rfl, rfl, N.2.leave a1 b1 b2 u2 v10 v11 (by have := J.qb; omega) hr2, rfl⟩
     ·go_wp2
      go_round
      case rel => exact ⟨_, _, rfl, rfl, by omega, N.2⟩
      case measure => simp [intOf]; omega
    ·have hsm := J.small b1 b2 (by omega)
     obtain ⟨s0, s1⟩ := hsm
     by_cases hc : 4294967296 * r + v1 < q * b
     ·have N := J.next a1 a2 b1 b2 u2 v10 v11 (.inr hc)
      have n1 := N.1
      by_cases hr2 : 4294967296 ≤ r + a
      ·go_wp2
       go_meet
       exact ⟨_, _, rfl, rfl, N.2.leave a1 b1 b2 u2 v10 v11 (by have := J.qb; omega) hr2, rfl⟩
      ·go_wp2
       go_round
       case rel => exact ⟨_, _, rfl, rfl, by omega, N.2⟩
       case measure => simp [intOf]; omega
     ·go_wp2
      go_meet
      exact ⟨_, _, rfl, rfl, J.stop (by omega) (by omega), rfl⟩
  case rest =>
   obtain ⟨q1, r1, rfl, rfl, E, rfl⟩ := hcut
   clear HI I r2
   have y1 : q1 * Y = q1 * a * 4294967296 + q1 * b := by rw [HY.out, Int.mul_add, Int.mul_assoc]
   have w0 : 0 ≤ u * 4294967296 + v1 - q1 * Y := by have := E.lo; omega
   have w1 : u * 4294967296 + v1 - q1 * Y < a * 4294967296 + b := by have := E.up; omega
   have eun : IntKind.u64.wrap (IntKind.u64.wrap (IntKind.u64.wrap (u * 4294967296) + v1) - IntKind.u64.wrap (q1 * Y)) = u * 4294967296 + v1 - q1 * Y := wrap_three _ _ _ w0 (by have := HY.out; omega)
   have T := fun (q0 : Int) (h0 : DEnd a b (u * 4294967296 + v1 - q1 * Y) v0 q0) => two_digits (q0 := q0) HY.out E h0 (by have := HY.out; omega)
   clear y1
   generalize huu : u * 4294967296 + v1 - q1 * Y = u' at *
   have HU := Lib.hid huu
   clear huu
   have u2' := w1
   have I := DInv.start a1 a2 b1 b2 w0 w1 v00 v01
   have er : IntKind.u64.wrap (u' - IntKind.u64.wrap (u' / a * a)) = u' - u' / a * a := wrap_two _ _ (by have := I.r0; omega) (by have := Int.mul_nonneg I.q0 (show 0 ≤ a by omega); omega)
   have r2' : u' - u' / a * a < 4294967296 := by
    have h1 := Int.emod_add_mul_ediv u' a
    have h3 := Int.emod_lt_of_pos u' (show 0 < a by omega)
    have h4 : u' / a * a = a * (u' / a) := Int.mul_comm _ _
    omega
   have r1' := I.r0
   have q1' := I.q0
   generalize hqq : u' / a = q' at *
   generalize hrr : u' - q' * a = r' at *
   clear hrr
   have I' : DInv a b u' v0 (u' / a) r' := by rw [hqq]; exact I
   have HI2 := Lib.hid I'
   clear I'
   go_upto_block 2 with fail
   clear er eun hqq
   go_cut [18, 16] (fun s18 s16 wx => ∃ q0 r1 : Int, s18 = .int .u64 q0 ∧ s16 = .int .u64 r1 ∧ DEnd a b u' v0 q0 ∧ wx = wc)
   case first =>
    go_wp2_with fail
    go_loop [18, 16] (fun s18 s16 => ∃ q r : Int, s18 = .int .u64 q ∧ s16 = .int .u64 r ∧ r < 4294967296 ∧ DInv a b u' v0 q r) (fun s18 _ => (intOf s18).toNat)
    case atStart => exact ⟨_, _, rfl, rfl, r2', HI2.out⟩
    case round =>
     obtain ⟨q, r, rfl, rfl, hr, J⟩ := hrel
     have j0 := J.q0
     have j1 := J.r0
     have j2 := J.qb
     by_cases hq : 4294967296 ≤ q
     ·have N := J.next a1 a2 b1 b2 u2' v00 v01 (.inl hq)
      have n1 := N.1
      by_cases hr2 : 4294967296 ≤ r + a
      ·go_wp2
       go_meet
       exact ⟨_, _, rfl, rfl, N.2.leave a1 b1 b2 u2' v00 v01 (by have := J.qb; omega) hr2, rfl⟩
      ·go_wp2
       go_round
       case rel => exact ⟨_, _, rfl, rfl, by omega, N.2⟩
       case measure => simp [intOf]; omega
     ·have hsm := J.small b1 b2 (by omega)
      obtain ⟨s0, s1⟩ := hsm
      by_cases hc : 4294967296 * r + v0 < q * b
      ·have N := J.next a1 a2 b1 b2 u2' v00 v01 (.inr hc)
       have n1 := N.1
       by_cases hr2 : 4294967296 ≤ r + a
       ·go_wp2
        go_meet
        exact ⟨_, _, rfl, rfl, N.2.leave a1 b1 b2 u2' v00 v01 (by have := J.qb; omega) hr2, rfl⟩
       ·go_wp2
        go_round
        case rel => exact ⟨_, _, rfl, rfl, by omega, N.2⟩
        case measure => simp [intOf]; omega
      ·go_wp2
       go_meet
       exact ⟨_, _, rfl, rfl, J.stop (by omega) (by omega), rfl⟩
   case rest =>
    obtain ⟨q0, r0, rfl, rfl, F, rfl⟩ := hcut
    obtain ⟨t1, t2⟩ := T q0 F
    have g1 : IntKind.u64.wrap (IntKind.u64.wrap (q1 * 4294967296) + q0) = q1 * 4294967296 + q0 := by
     have := E.q0; have := E.qb; have := F.q0; have := F.qb
     simp only [wrap_u64]; omega
    have y2 : q0 * Y = q0 * a * 4294967296 + q0 * b := by rw [HY.out, Int.mul_add, Int.mul_assoc]
    have w2 : 0 ≤ u' * 4294967296 + v0 - q0 * Y := by have := F.lo; omega
    have w3 : u' * 4294967296 + v0 - q0 * Y ≤ 18446744073709551615 := by have := F.up; have := HY.out; omega
    have g2 : IntKind.u64.wrap (IntKind.u64.wrap (IntKind.u64.wrap (u' * 4294967296) + v0) - IntKind.u64.wrap (q0 * Y)) = u' * 4294967296 + v0 - q0 * Y := wrap_three _ _ _ w2 w3
    have T1 := Lib.hid t1
    have T2 := Lib.hid t2
    clear t1 t2 y2 T
    generalize u' * 4294967296 + v0 - q0 * Y = R at *
    clear g1
    have q5 := E.q0
    have q6 := E.qb
    have q7 := F.q0
    have q8 := F.qb
    go_wp2
    go_ret2
    exact ⟨by rw [← T1.out, ← T2.out]; rfl, rfl⟩
theorem masked (x : Int) (h0 : 0 ≤ x) (h1 : x ≤ 18446744073709551615) : bits BinOp.and IntKind.u64 x 4294967295 = x % 4294967296 := by
 have := bits_mask IntKind.u64 64 (by simp [IntKind.bits]) (fun n h0 h1 => by rw [wrap_u64]; omega) 32 (by omega) x h0 (by omega)
 simpa using this
theorem div64_any (hi lo y : Int) (w : World) (h1 : 0 ≤ hi) (h2 : hi < y) (h3 : 0 ≤ lo) (h4 : lo ≤ 18446744073709551615) (h5 : y ≤ 18446744073709551615) :
  Calls Tryz.prog 203 #[.int .u64 hi, .int .u64 lo, .int .u64 y] w fun e w' => e = .returned (.tuple #[.int .u64 ((hi * 18446744073709551616 + lo) / y), .int .u64 ((hi * 18446744073709551616 + lo) % y)]) ∧ ∃ n, w' = w.drewN n := by
 have hy : 0 < y := by omega
 by_cases hz : hi = 0
 ·subst hz
  go_enter Tryz.func203, Tryz.ntmps203
  go_wp2
  go_quiet (fail)
  go_wp2
  go_ret2
  exact ⟨by simp, _, rfl⟩
 ·obtain ⟨H, rfl⟩ := Int.eq_ofNat_of_zero_le h1
  obtain ⟨L, rfl⟩ := Int.eq_ofNat_of_zero_le h3
  obtain ⟨y', rfl⟩ := Int.eq_ofNat_of_zero_le (show 0 ≤ y by omega)
  obtain ⟨k, hk, hb, k1, k2⟩ := bits_pow y' (by omega) (by omega)
  obtain ⟨s1, s2, s3, s4, s5⟩ := shift_two H L y' k hk k2 (by omega) (by omega)
  have c1 : ((y' : Int) * 2 ^ k) = ((y' * 2 ^ k : Nat) : Int) := by simp
  have c2 : ((H : Int) * 2 ^ k) = ((H * 2 ^ k : Nat) : Int) := by simp
  have c3 : ((L : Int) / 2 ^ (64 - k)) = ((L / 2 ^ (64 - k) : Nat) : Int) := by simp
  have c4 : ((L : Int) * 2 ^ k) = ((L * 2 ^ k : Nat) : Int) := by simp
  have eY : IntKind.u64.wrap ((y' : Int) * 2 ^ k) = ((y' * 2 ^ k : Nat) : Int) := by rw [c1, wrap_u64]; omega
  have eu : bits BinOp.or IntKind.u64 (IntKind.u64.wrap ((H : Int) * 2 ^ k)) ((L : Int) / 2 ^ (64 - k)) = ((H * 2 ^ k + L / 2 ^ (64 - k) : Nat) : Int) := by
   have e1 : IntKind.u64.wrap ((H : Int) * 2 ^ k) = ((H * 2 ^ k : Nat) : Int) := by rw [c2, wrap_u64]; omega
   have := (bits_nat IntKind.u64 64 (by simp [IntKind.bits]) (fun n h0 h1 => by rw [wrap_u64]; omega) (H * 2 ^ k) (L / 2 ^ (64 - k)) s1 (by omega)).2
   rw [e1, c3, this, s3]
  have ev : IntKind.u64.wrap ((L : Int) * 2 ^ k) = ((L * 2 ^ k % 18446744073709551616 : Nat) : Int) := by rw [c4, wrap_u64]; omega
  have core := div64_core H L y' w h1 h2 h3 h4 h5 hz k _ _ _ _ _ _ _ (by omega) (show Hid _ from (show 64 - (Lib.bitLen (y' : Int).toNat : Int) = k by simpa using hb)) eY rfl (masked _ (by omega) (by omega)) (by omega) (by omega) (by omega) (by omega) (show Hid _ from (show _ = _ from by omega)) (by omega) (by omega)
   eu (by omega) (by omega) (by omega) ev rfl (masked _ (by omega) (by omega)) (by omega) (by omega) (by omega) (by omega) (by omega) (by omega)
  refine core.mono ?_
  rintro e w' ⟨he, rfl⟩
  have hp : (0 : Nat) < 2 ^ k := Nat.two_pow_pos _
  refine ⟨?_, 0, rfl⟩
  rw [he]
  generalize L * 2 ^ k % 18446744073709551616 = V at *
  generalize L / 2 ^ (64 - k) = LL at *
  have e5 : (((H * 2 ^ k + LL : Nat) : Int) * 18446744073709551616 + ((V : Int) / 4294967296 * 4294967296 + (V : Int) % 4294967296)) = (((H * 18446744073709551616 + L) * 2 ^ k : Nat) : Int) := by
   rw [← s5]; omega
  have e6 : ((H : Int) * 18446744073709551616 + (L : Int)) = ((H * 18446744073709551616 + L : Nat) : Int) := by simp
  rw [e5, e6]
  have e7 : (((H * 18446744073709551616 + L) * 2 ^ k : Nat) : Int) / ((y' * 2 ^ k : Nat) : Int) = ((H * 18446744073709551616 + L : Nat) : Int) / (y' : Int) := by
   rw [← Int.natCast_ediv, ← Int.natCast_ediv, Nat.mul_div_mul_right _ _ hp]
  have e8 : (((H * 18446744073709551616 + L) * 2 ^ k : Nat) : Int) % ((y' * 2 ^ k : Nat) : Int) / 2 ^ k = ((H * 18446744073709551616 + L : Nat) : Int) % (y' : Int) := by
   have e9 : ((2 : Int) ^ k) = ((2 ^ k : Nat) : Int) := by simp
   rw [e9, ← Int.natCast_emod, ← Int.natCast_emod, ← Int.natCast_ediv, Nat.mul_mod_mul_right, Nat.mul_div_cancel _ hp]
  rw [e7, e8]
end Go.Proofs.YtkjabiabeemfhaaGreatDoor
end
