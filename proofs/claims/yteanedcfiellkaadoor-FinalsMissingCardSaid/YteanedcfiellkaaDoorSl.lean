/-
  DERIVED: THE SHELF's CONTRACTS AT THIS DUMP, IN PLAIN WORDS (tools/lay-plain.mjs out of 'YteanedcfiellkaaDoorSl0.lean', which tools/lay-shelf.mjs wrote): THE SAME DECLARATIONS UNDER THE SAME NAMES: 'import', 'namespace', 'open', 'def', 'theorem' AND NOTHING ELSE: no command of the shelf's: FOR A HAND-IN. Each laying: the table of numbers ('.._ren') and one theorem, a field a fact of the dump's own or the kernel's comparison; each contract: ONE APPLICATION.
-/
import Derived.Shelf.Sort.Plain
import Derived.Shelf.Slices.In.SortNone
import Derived.Test.YteanedcfiellkaaDoorProg
namespace Go.Proofs
open Go.Shelf
def Tryd.lays190_ren : Go.Shelf.Ren := ⟨fun | 190 => 106 | 125 => 154 | 258 => 153 | 128 => 189 | 129 => 190 | 302 => 180 | 303 => 181 | 304 => 182 | 305 => 183 | 306 => 184 | 307 => 185 | 308 => 186 | 309 => 187 | 310 => 188 | 333 => 210 | 329 => 211 | 330 => 212 | 334 => 213 | 335 => 214 | 336 => 215 | 344 => 224 | n => n, fun | 31 => 26 | 9 => 9 | 3 => 3 | 46 => 181 | 0 => 0 | 51 => 226 | 53 => 204 | 4 => 4 | 183 => 220 | 182 => 219 | 131 => 116 | 5 => 5 | 218 => 239 | 222 => 243 | 228 => 253 | 229 => 254 | n => n, fun | n => n⟩
theorem Tryd.lays190 : Go.Proofs.Lays.n190 Tryd.prog Tryd.lays190_ren := {
  mixed := by kernel_rfl
  f125 := Tryd.func154.trans (congrArg some (by kernel_rfl))
  f128 := Tryd.func189.trans (congrArg some (by kernel_rfl))
  f129 := Tryd.func190.trans (congrArg some (by kernel_rfl))
  f190 := Tryd.func106.trans (congrArg some (by kernel_rfl))
  f258 := Tryd.func153.trans (congrArg some (by kernel_rfl))
  f302 := Tryd.func180.trans (congrArg some (by kernel_rfl))
  f303 := Tryd.func181.trans (congrArg some (by kernel_rfl))
  f304 := Tryd.func182.trans (congrArg some (by kernel_rfl))
  f305 := Tryd.func183.trans (congrArg some (by kernel_rfl))
  f306 := Tryd.func184.trans (congrArg some (by kernel_rfl))
  f307 := Tryd.func185.trans (congrArg some (by kernel_rfl))
  f308 := Tryd.func186.trans (congrArg some (by kernel_rfl))
  f309 := Tryd.func187.trans (congrArg some (by kernel_rfl))
  f310 := Tryd.func188.trans (congrArg some (by kernel_rfl))
  f329 := Tryd.func211.trans (congrArg some (by kernel_rfl))
  f330 := Tryd.func212.trans (congrArg some (by kernel_rfl))
  f333 := Tryd.func210.trans (congrArg some (by kernel_rfl))
  f334 := Tryd.func213.trans (congrArg some (by kernel_rfl))
  f335 := Tryd.func214.trans (congrArg some (by kernel_rfl))
  f336 := Tryd.func215.trans (congrArg some (by kernel_rfl))
  f344 := Tryd.func224.trans (congrArg some (by kernel_rfl))
  t0 := Tryd.underlying0
  a0 := Tryd.isAgg0
  z0 := Tryd.sizeOf0
  v0 := Tryd.zeroValue0
  t3 := Tryd.underlying3
  a3 := Tryd.isAgg3
  z3 := Tryd.sizeOf3
  v3 := Tryd.zeroValue3
  t4 := Tryd.underlying4
  a4 := Tryd.isAgg4
  z4 := Tryd.sizeOf4
  v4 := Tryd.zeroValue4
  t5 := Tryd.underlying5
  a5 := Tryd.isAgg5
  z5 := Tryd.sizeOf5
  v5 := Tryd.zeroValue5
  t9 := Tryd.underlying9
  a9 := Tryd.isAgg9
  z9 := Tryd.sizeOf9
  v9 := Tryd.zeroValue9
  t31 := Tryd.underlying26
  a31 := Tryd.isAgg26
  z31 := Tryd.sizeOf26
  v31 := Tryd.zeroValue26
  t46 := Tryd.underlying181
  a46 := Tryd.isAgg181
  z46 := Tryd.sizeOf181
  v46 := Tryd.zeroValue181
  t51 := Tryd.underlying226
  a51 := Tryd.isAgg226
  z51 := Tryd.sizeOf226
  v51 := Tryd.zeroValue226
  t53 := Tryd.underlying204
  a53 := Tryd.isAgg204
  z53 := Tryd.sizeOf204
  v53 := Tryd.zeroValue204
  t131 := Tryd.underlying116
  a131 := Tryd.isAgg116
  z131 := Tryd.sizeOf116
  v131 := Tryd.zeroValue116
  t182 := Tryd.underlying219
  a182 := Tryd.isAgg219
  z182 := Tryd.sizeOf219
  v182 := Tryd.zeroValue219
  t183 := Tryd.underlying220
  a183 := Tryd.isAgg220
  z183 := Tryd.sizeOf220
  v183 := Tryd.zeroValue220
  t218 := Tryd.underlying239
  a218 := Tryd.isAgg239
  z218 := Tryd.sizeOf239
  v218 := Tryd.zeroValue239
  t222 := Tryd.underlying243
  a222 := Tryd.isAgg243
  z222 := Tryd.sizeOf243
  v222 := Tryd.zeroValue243
  t228 := Tryd.underlying253
  a228 := Tryd.isAgg253
  z228 := Tryd.sizeOf253
  v228 := Tryd.zeroValue253
  t229 := Tryd.underlying254
  a229 := Tryd.isAgg254
  z229 := Tryd.sizeOf254
  v229 := Tryd.zeroValue254 }
open Go.RowKit Go.Sort in
/-- slices.Sort of strings. -/
theorem Tryd.slices_Sort_string (blk off cap : Nat) (ss : List (List UInt8)) (w : World) (hH : Holds encStr w blk off ss.toArray) (hblk : blk < w.heap.size) (hsz : ss.length < 4611686018427387904) :
    Calls Tryd.prog 106 #[.slice (some ⟨blk, off, none⟩) ss.length cap] w fun e w' =>
      e = .returned (.tuple #[]) ∧ ∃ n os, w' = grow (putRow encStr (Sort.ahead w n) blk off (ss.mergeSort fun x y => decide (x ≤ y)).toArray) os := Any.slices_Sort_string Tryd.lays190 blk off cap ss w hH hblk hsz
open Go.RowKit in
/-- slices.Sort of no strings. -/
theorem Tryd.slices_Sort_string_none (p : Option Addr) (cap : Nat) (w : World) :
    Calls Tryd.prog 106 #[.slice p 0 cap] w fun e w' => e = .returned (.tuple #[]) ∧ w' = w := Any.slices_Sort_string_none Tryd.lays190 p cap w
end Go.Proofs
