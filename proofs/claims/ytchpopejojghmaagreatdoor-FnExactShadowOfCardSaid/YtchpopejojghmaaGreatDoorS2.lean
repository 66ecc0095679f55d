/- The shelf of contracts at this program: sort, compact, trim (the kit's text in plain words, cut down). -/
import Derived.Shelf.Strings.Trim
import Derived.Shelf.Sort.Plain
import Derived.Ground.Names2Prog
import Derived.Shelf.Slices.CompactS
import Derived.Shelf.Slices.In.SortNone
import Derived.Shelf.Spec.SlicesGrow
import Derived.Ground.Names8Prog
import Derived.Test.YtchpopejojghmaaGreatDoorProg
namespace Go.Proofs
open Go.Shelf
def Tryz.lays162_ren : Go.Shelf.Ren := ⟨fun | 162 => 156 | 232 => 191 | 227 => 192 | 234 => 193 | 236 => 194 | 228 => 210 | 271 => 211 | 151 => 212 | 120 => 219 | 197 => 220 | 152 => 221 | 260 => 223 | 137 => 224 | 119 => 225 | 224 => 226 | 225 => 227 | 217 => 228 | 266 => 229 | n => n, fun | 9 => 9 | 4 => 4 | 3 => 3 | 5 => 5 | 117 => 194 | 116 => 193 | 0 => 0 | 124 => 197 | 21 => 21 | 105 => 212 | 46 => 185 | 119 => 228 | 139 => 231 | 138 => 230 | n => n, fun | 3 => 0 | 4 => 1 | n => n⟩
theorem Tryz.lays162 : Go.Proofs.Lays.n162 Tryz.prog Tryz.lays162_ren := {
 mixed := by kernel_rfl
 f119 := Tryz.func225.trans (congrArg some (by kernel_rfl))
 f120 := Tryz.func219.trans (congrArg some (by kernel_rfl))
 f137 := Tryz.func224.trans (congrArg some (by kernel_rfl))
 f151 := Tryz.func212.trans (congrArg some (by kernel_rfl))
 f152 := Tryz.func221.trans (congrArg some (by kernel_rfl))
 f162 := Tryz.func156.trans (congrArg some (by kernel_rfl))
 f197 := Tryz.func220.trans (congrArg some (by kernel_rfl))
 f217 := Tryz.func228.trans (congrArg some (by kernel_rfl))
 f224 := Tryz.func226.trans (congrArg some (by kernel_rfl))
 f225 := Tryz.func227.trans (congrArg some (by kernel_rfl))
 f227 := Tryz.func192.trans (congrArg some (by kernel_rfl))
 f228 := Tryz.func210.trans (congrArg some (by kernel_rfl))
 f232 := Tryz.func191.trans (congrArg some (by kernel_rfl))
 f234 := Tryz.func193.trans (congrArg some (by kernel_rfl))
 f236 := Tryz.func194.trans (congrArg some (by kernel_rfl))
 f260 := Tryz.func223.trans (congrArg some (by kernel_rfl))
 f266 := Tryz.func229.trans (congrArg some (by kernel_rfl))
 f271 := Tryz.func211.trans (congrArg some (by kernel_rfl))
 t0 := Tryz.underlying0
 a0 := Tryz.isAgg0
 z0 := Tryz.sizeOf0
 v0 := Tryz.zeroValue0
 t3 := Tryz.underlying3
 a3 := Tryz.isAgg3
 z3 := Tryz.sizeOf3
 v3 := Tryz.zeroValue3
 t4 := Tryz.underlying4
 a4 := Tryz.isAgg4
 z4 := Tryz.sizeOf4
 v4 := Tryz.zeroValue4
 t5 := Tryz.underlying5
 a5 := Tryz.isAgg5
 z5 := Tryz.sizeOf5
 v5 := Tryz.zeroValue5
 t9 := Tryz.underlying9
 a9 := Tryz.isAgg9
 z9 := Tryz.sizeOf9
 v9 := Tryz.zeroValue9
 t21 := Tryz.underlying21
 a21 := Tryz.isAgg21
 z21 := Tryz.sizeOf21
 v21 := Tryz.zeroValue21
 t46 := Tryz.underlying185
 a46 := Tryz.isAgg185
 z46 := Tryz.sizeOf185
 v46 := Tryz.zeroValue185
 t105 := Tryz.underlying212
 a105 := Tryz.isAgg212
 z105 := Tryz.sizeOf212
 v105 := Tryz.zeroValue212
 t116 := Tryz.underlying193
 a116 := Tryz.isAgg193
 z116 := Tryz.sizeOf193
 t117 := Tryz.underlying194
 a117 := Tryz.isAgg194
 z117 := Tryz.sizeOf194
 v117 := Tryz.zeroValue194
 t119 := Tryz.underlying228
 a119 := Tryz.isAgg228
 z119 := Tryz.sizeOf228
 t124 := Tryz.underlying197
 a124 := Tryz.isAgg197
 z124 := Tryz.sizeOf197
 v124 := Tryz.zeroValue197
 t138 := Tryz.underlying230
 a138 := Tryz.isAgg230
 z138 := Tryz.sizeOf230
 v138 := Tryz.zeroValue230
 t139 := Tryz.underlying231
 a139 := Tryz.isAgg231
 z139 := Tryz.sizeOf231
 v139 := Tryz.zeroValue231
 g3 := by kernel_rfl
 g4 := by kernel_rfl }
open Go.RowKit in
theorem Tryz.strings_TrimRight_one (s : ByteArray) (c : UInt8) (hc : c.toNat < 128) (w : World) (hs : s.size ≤ 9223372036854775807) :
  Calls Tryz.prog 156 #[.string s, .string ⟨#[c]⟩] w fun e w' => e = .returned (.string ⟨(Lib.trimRightB s.data.toList c).toArray⟩) ∧ w' = w := Any.strings_TrimRight_one Tryz.lays162 s c hc w hs
def Tryz.lays190_ren : Go.Shelf.Ren := ⟨fun | 190 => 147 | 125 => 184 | 258 => 183 | 128 => 208 | 129 => 209 | 302 => 199 | 303 => 200 | 304 => 201 | 305 => 202 | 306 => 203 | 307 => 204 | 308 => 205 | 309 => 206 | 310 => 207 | 333 => 213 | 329 => 214 | 330 => 215 | 334 => 216 | 335 => 217 | 336 => 218 | 344 => 222 | n => n, fun | 31 => 68 | 9 => 9 | 3 => 3 | 46 => 185 | 0 => 0 | 51 => 208 | 53 => 210 | 4 => 4 | 183 => 200 | 182 => 199 | 131 => 205 | 5 => 5 | 218 => 215 | 222 => 219 | 228 => 222 | 229 => 223 | n => n, fun | n => n⟩
theorem Tryz.lays190 : Go.Proofs.Lays.n190 Tryz.prog Tryz.lays190_ren := {
 mixed := by kernel_rfl
 f125 := Tryz.func184.trans (congrArg some (by kernel_rfl))
 f128 := Tryz.func208.trans (congrArg some (by kernel_rfl))
 f129 := Tryz.func209.trans (congrArg some (by kernel_rfl))
 f190 := Tryz.func147.trans (congrArg some (by kernel_rfl))
 f258 := Tryz.func183.trans (congrArg some (by kernel_rfl))
 f302 := Tryz.func199.trans (congrArg some (by kernel_rfl))
 f303 := Tryz.func200.trans (congrArg some (by kernel_rfl))
 f304 := Tryz.func201.trans (congrArg some (by kernel_rfl))
 f305 := Tryz.func202.trans (congrArg some (by kernel_rfl))
 f306 := Tryz.func203.trans (congrArg some (by kernel_rfl))
 f307 := Tryz.func204.trans (congrArg some (by kernel_rfl))
 f308 := Tryz.func205.trans (congrArg some (by kernel_rfl))
 f309 := Tryz.func206.trans (congrArg some (by kernel_rfl))
 f310 := Tryz.func207.trans (congrArg some (by kernel_rfl))
 f329 := Tryz.func214.trans (congrArg some (by kernel_rfl))
 f330 := Tryz.func215.trans (congrArg some (by kernel_rfl))
 f333 := Tryz.func213.trans (congrArg some (by kernel_rfl))
 f334 := Tryz.func216.trans (congrArg some (by kernel_rfl))
 f335 := Tryz.func217.trans (congrArg some (by kernel_rfl))
 f336 := Tryz.func218.trans (congrArg some (by kernel_rfl))
 f344 := Tryz.func222.trans (congrArg some (by kernel_rfl))
 t0 := Tryz.underlying0
 a0 := Tryz.isAgg0
 z0 := Tryz.sizeOf0
 v0 := Tryz.zeroValue0
 t3 := Tryz.underlying3
 a3 := Tryz.isAgg3
 z3 := Tryz.sizeOf3
 v3 := Tryz.zeroValue3
 t4 := Tryz.underlying4
 a4 := Tryz.isAgg4
 z4 := Tryz.sizeOf4
 v4 := Tryz.zeroValue4
 t5 := Tryz.underlying5
 a5 := Tryz.isAgg5
 z5 := Tryz.sizeOf5
 v5 := Tryz.zeroValue5
 t9 := Tryz.underlying9
 a9 := Tryz.isAgg9
 z9 := Tryz.sizeOf9
 v9 := Tryz.zeroValue9
 t31 := Tryz.underlying68
 a31 := Tryz.isAgg68
 z31 := Tryz.sizeOf68
 v31 := Tryz.zeroValue68
 t46 := Tryz.underlying185
 a46 := Tryz.isAgg185
 z46 := Tryz.sizeOf185
 v46 := Tryz.zeroValue185
 t51 := Tryz.underlying208
 a51 := Tryz.isAgg208
 z51 := Tryz.sizeOf208
 v51 := Tryz.zeroValue208
 t53 := Tryz.underlying210
 a53 := Tryz.isAgg210
 z53 := Tryz.sizeOf210
 v53 := Tryz.zeroValue210
 t131 := Tryz.underlying205
 a131 := Tryz.isAgg205
 z131 := Tryz.sizeOf205
 v131 := Tryz.zeroValue205
 t182 := Tryz.underlying199
 a182 := Tryz.isAgg199
 z182 := Tryz.sizeOf199
 v182 := Tryz.zeroValue199
 t183 := Tryz.underlying200
 a183 := Tryz.isAgg200
 z183 := Tryz.sizeOf200
 v183 := Tryz.zeroValue200
 t218 := Tryz.underlying215
 a218 := Tryz.isAgg215
 z218 := Tryz.sizeOf215
 v218 := Tryz.zeroValue215
 t222 := Tryz.underlying219
 a222 := Tryz.isAgg219
 z222 := Tryz.sizeOf219
 v222 := Tryz.zeroValue219
 t228 := Tryz.underlying222
 a228 := Tryz.isAgg222
 z228 := Tryz.sizeOf222
 v228 := Tryz.zeroValue222
 t229 := Tryz.underlying223
 a229 := Tryz.isAgg223
 z229 := Tryz.sizeOf223
 v229 := Tryz.zeroValue223 }
open Go.Sort Go.RowKit in
theorem Tryz.slices_Sort_string (blk off cap : Nat) (ss : List (List UInt8)) (w : World) (hH : Holds encStr w blk off ss.toArray) (hblk : blk < w.heap.size) (hsz : ss.length < 4611686018427387904) :
  Calls Tryz.prog 147 #[.slice (some ⟨blk, off, none⟩) ss.length cap] w fun e w' =>
   e = .returned (.tuple #[]) ∧ ∃ n os, w' = grow (putRow encStr (Sort.ahead w n) blk off (ss.mergeSort fun x y => decide (x ≤ y)).toArray) os := Any.slices_Sort_string Tryz.lays190 blk off cap ss w hH hblk hsz
def Tryz.lays194_ren : Go.Shelf.Ren := ⟨fun | 194 => 149 | n => n, fun | 31 => 68 | 9 => 9 | 3 => 3 | 4 => 4 | 0 => 0 | n => n, fun | n => n⟩
theorem Tryz.lays194 : Go.Proofs.Lays.n194 Tryz.prog Tryz.lays194_ren := {
 mixed := by kernel_rfl
 f194 := Tryz.func149.trans (congrArg some (by kernel_rfl))
 t0 := Tryz.underlying0
 a0 := Tryz.isAgg0
 z0 := Tryz.sizeOf0
 v0 := Tryz.zeroValue0
 t3 := Tryz.underlying3
 a3 := Tryz.isAgg3
 z3 := Tryz.sizeOf3
 v3 := Tryz.zeroValue3
 t4 := Tryz.underlying4
 a4 := Tryz.isAgg4
 z4 := Tryz.sizeOf4
 v4 := Tryz.zeroValue4
 t9 := Tryz.underlying9
 a9 := Tryz.isAgg9
 z9 := Tryz.sizeOf9
 v9 := Tryz.zeroValue9
 t31 := Tryz.underlying68
 a31 := Tryz.isAgg68
 z31 := Tryz.sizeOf68
 v31 := Tryz.zeroValue68 }
open Go.RowKit Go.Lib Go.Sort in
theorem Tryz.slices_Compact_string (blk off cap : Nat) (zs : List (List UInt8)) (w : World) (hH : Holds encStr w blk off zs.toArray) (hsz : zs.length ≤ 9223372036854775807) (hcap : zs.length ≤ cap) :
  Calls Tryz.prog 149 #[.slice (some ⟨blk, off, none⟩) zs.length cap] w fun e w' => e = .returned (.slice (some ⟨blk, off, none⟩) (Lib.compact zs).length cap) ∧ ∃ q, w' = putRow encStr (Sort.ahead w q) blk off (Lib.compact zs ++ List.replicate (zs.length - (Lib.compact zs).length) []).toArray := Any.slices_Compact_string Tryz.lays194 blk off cap zs w hH hsz hcap
open Go.RowKit Go.Lib Go.Sort in
theorem Tryz.slices_Compact_string_empty (a : Option Addr) (cap : Nat) (w : World) :
  Calls Tryz.prog 149 #[.slice a 0 cap] w fun e w' => e = .returned (.slice a 0 cap) ∧ w' = w := Any.slices_Compact_string_empty Tryz.lays194 a cap w
open Go.RowKit Go.Sort in
theorem Tryz.slices_Sort_string_none (p : Option Addr) (cap : Nat) (w : World) :
  Calls Tryz.prog 147 #[.slice p 0 cap] w fun e w' => e = .returned (.tuple #[]) ∧ w' = w := Any.slices_Sort_string_none Tryz.lays190 p cap w
def Tryz.laysGrowS_ren : Go.Shelf.Ren := ⟨fun | 4 => 182 | n => n, fun | 22 => 68 | 25 => 9 | 3 => 3 | 4 => 4 | 9 => 9 | 20 => 20 | 0 => 0 | n => n, fun | n => n⟩
theorem Tryz.laysGrowS : Go.Proofs.Lays8.n4 Tryz.prog Tryz.laysGrowS_ren := {
 mixed := by kernel_rfl
 f4 := ⟨Tryz.f182.name, by decide, Tryz.func182.trans (congrArg some (by kernel_rfl))⟩
 t0 := Tryz.underlying0
 a0 := Tryz.isAgg0
 z0 := Tryz.sizeOf0
 v0 := Tryz.zeroValue0
 t3 := Tryz.underlying3
 a3 := Tryz.isAgg3
 z3 := Tryz.sizeOf3
 v3 := Tryz.zeroValue3
 t4 := Tryz.underlying4
 a4 := Tryz.isAgg4
 z4 := Tryz.sizeOf4
 v4 := Tryz.zeroValue4
 t9 := Tryz.underlying9
 a9 := Tryz.isAgg9
 z9 := Tryz.sizeOf9
 v9 := Tryz.zeroValue9
 t20 := Tryz.underlying20
 a20 := Tryz.isAgg20
 z20 := Tryz.sizeOf20
 v20 := Tryz.zeroValue20
 t22 := Tryz.underlying68
 a22 := Tryz.isAgg68
 z22 := Tryz.sizeOf68
 v22 := Tryz.zeroValue68 }
def Tryz.laysGrowP_ren : Go.Shelf.Ren := ⟨fun | 4 => 190 | n => n, fun | 22 => 27 | 25 => 65 | 3 => 3 | 4 => 4 | 9 => 9 | 20 => 20 | 0 => 0 | n => n, fun | n => n⟩
theorem Tryz.laysGrowP : Go.Proofs.Lays8.n4 Tryz.prog Tryz.laysGrowP_ren := {
 mixed := by kernel_rfl
 f4 := ⟨Tryz.f190.name, by decide, Tryz.func190.trans (congrArg some (by kernel_rfl))⟩
 t0 := Tryz.underlying0
 a0 := Tryz.isAgg0
 z0 := Tryz.sizeOf0
 v0 := Tryz.zeroValue0
 t3 := Tryz.underlying3
 a3 := Tryz.isAgg3
 z3 := Tryz.sizeOf3
 v3 := Tryz.zeroValue3
 t4 := Tryz.underlying4
 a4 := Tryz.isAgg4
 z4 := Tryz.sizeOf4
 v4 := Tryz.zeroValue4
 t9 := Tryz.underlying9
 a9 := Tryz.isAgg9
 z9 := Tryz.sizeOf9
 v9 := Tryz.zeroValue9
 t20 := Tryz.underlying20
 a20 := Tryz.isAgg20
 z20 := Tryz.sizeOf20
 v20 := Tryz.zeroValue20
 t22 := Tryz.underlying27
 a22 := Tryz.isAgg27
 z22 := Tryz.sizeOf27
 v22 := Tryz.zeroValue27 }
end Go.Proofs
