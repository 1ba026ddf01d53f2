/-
  DERIVED: THE SHELF's CONTRACTS AT THIS DUMP, IN PLAIN WORDS (tools/lay-plain.mjs out of 'YtjbaijgdkkccbaaGreatDoorSh0.lean', which tools/lay-shelf.mjs wrote): THE SAME DECLARATIONS UNDER THE SAME NAMES: 'import', 'namespace', 'open', 'def', 'theorem' AND NOTHING ELSE: no command of the shelf's: FOR A HAND-IN. Each laying: the table of numbers ('.._ren') and one theorem, a field a fact of the dump's own or the kernel's comparison; each contract: ONE APPLICATION.
-/
import Derived.Shelf.Strings.SlTrimAscii
import Derived.Test.YtjbaijgdkkccbaaGreatDoorProg
namespace Go.Proofs
open Go.Shelf
def Tryz.lays160_ren : Go.Shelf.Ren := ⟨fun | 160 => 220 | 232 => 285 | 231 => 284 | 227 => 286 | 234 => 288 | 233 => 287 | 236 => 290 | 235 => 289 | 228 => 338 | 271 => 340 | 151 => 339 | 197 => 321 | 120 => 366 | 152 => 365 | 260 => 358 | 137 => 264 | 119 => 374 | 224 => 356 | 225 => 355 | 217 => 328 | 266 => 362 | n => n, fun | 9 => 9 | 4 => 4 | 3 => 3 | 5 => 5 | 117 => 312 | 116 => 311 | 0 => 0 | 124 => 315 | 21 => 21 | 105 => 333 | 46 => 206 | 119 => 366 | 139 => 369 | 138 => 368 | n => n, fun | 3 => 4 | 4 => 5 | n => n⟩
theorem Tryz.lays160 : Go.Proofs.Lays.n160 Tryz.prog Tryz.lays160_ren := {
  mixed := by kernel_rfl
  f119 := Tryz.func374.trans (congrArg some (by kernel_rfl))
  f120 := Tryz.func366.trans (congrArg some (by kernel_rfl))
  f137 := Tryz.func264.trans (congrArg some (by kernel_rfl))
  f151 := Tryz.func339.trans (congrArg some (by kernel_rfl))
  f152 := Tryz.func365.trans (congrArg some (by kernel_rfl))
  f160 := Tryz.func220.trans (congrArg some (by kernel_rfl))
  f197 := Tryz.func321.trans (congrArg some (by kernel_rfl))
  f217 := Tryz.func328.trans (congrArg some (by kernel_rfl))
  f224 := Tryz.func356.trans (congrArg some (by kernel_rfl))
  f225 := Tryz.func355.trans (congrArg some (by kernel_rfl))
  f227 := Tryz.func286.trans (congrArg some (by kernel_rfl))
  f228 := Tryz.func338.trans (congrArg some (by kernel_rfl))
  f231 := Tryz.func284.trans (congrArg some (by kernel_rfl))
  f232 := Tryz.func285.trans (congrArg some (by kernel_rfl))
  f233 := Tryz.func287.trans (congrArg some (by kernel_rfl))
  f234 := Tryz.func288.trans (congrArg some (by kernel_rfl))
  f235 := Tryz.func289.trans (congrArg some (by kernel_rfl))
  f236 := Tryz.func290.trans (congrArg some (by kernel_rfl))
  f260 := Tryz.func358.trans (congrArg some (by kernel_rfl))
  f266 := Tryz.func362.trans (congrArg some (by kernel_rfl))
  f271 := Tryz.func340.trans (congrArg some (by kernel_rfl))
  t0 := Tryz.underlying0
  a0 := Tryz.isAgg0
  z0 := Tryz.sizeOf0
  v0 := Tryz.zeroValue0
  t3 := Tryz.underlying3
  a3 := Tryz.isAgg3
  z3 := Tryz.sizeOf3
  v3 := Tryz.zeroValue3
  t4 := Tryz.underlying4
  a4 := Tryz.isAgg4
  z4 := Tryz.sizeOf4
  v4 := Tryz.zeroValue4
  t5 := Tryz.underlying5
  a5 := Tryz.isAgg5
  z5 := Tryz.sizeOf5
  v5 := Tryz.zeroValue5
  t9 := Tryz.underlying9
  a9 := Tryz.isAgg9
  z9 := Tryz.sizeOf9
  v9 := Tryz.zeroValue9
  t21 := Tryz.underlying21
  a21 := Tryz.isAgg21
  z21 := Tryz.sizeOf21
  v21 := Tryz.zeroValue21
  t46 := Tryz.underlying206
  a46 := Tryz.isAgg206
  z46 := Tryz.sizeOf206
  v46 := Tryz.zeroValue206
  t105 := Tryz.underlying333
  a105 := Tryz.isAgg333
  z105 := Tryz.sizeOf333
  v105 := Tryz.zeroValue333
  t116 := Tryz.underlying311
  a116 := Tryz.isAgg311
  z116 := Tryz.sizeOf311
  t117 := Tryz.underlying312
  a117 := Tryz.isAgg312
  z117 := Tryz.sizeOf312
  v117 := Tryz.zeroValue312
  t119 := Tryz.underlying366
  a119 := Tryz.isAgg366
  z119 := Tryz.sizeOf366
  t124 := Tryz.underlying315
  a124 := Tryz.isAgg315
  z124 := Tryz.sizeOf315
  v124 := Tryz.zeroValue315
  t138 := Tryz.underlying368
  a138 := Tryz.isAgg368
  z138 := Tryz.sizeOf368
  v138 := Tryz.zeroValue368
  t139 := Tryz.underlying369
  a139 := Tryz.isAgg369
  z139 := Tryz.sizeOf369
  v139 := Tryz.zeroValue369
  g3 := by kernel_rfl
  g4 := by kernel_rfl }
open Go.RowKit in
/-- strings.Trim at a cutset of ASCII bytes. -/
theorem Tryz.strings_Trim_ascii (s cutset : ByteArray) (w : World) (hs : s.size ≤ 9223372036854775807) (hcs : cutset.size < 4294967281) (hascii : ∀ (j : Nat) b, cutset.data.toList[j]? = some b → b.toNat < 128) :
    Calls Tryz.prog 220 #[.string s, .string cutset] w fun e w' => e = .returned (.string ⟨(Lib.trimS s.data.toList cutset.data.toList).toArray⟩) ∧ Below w.heap.size w w' := Any.strings_Trim_laid Tryz.lays160 (by kernel_rfl) s cutset w hs hcs hascii
end Go.Proofs
