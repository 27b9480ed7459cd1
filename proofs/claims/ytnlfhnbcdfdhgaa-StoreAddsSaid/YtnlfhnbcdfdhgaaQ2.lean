/- The library's sort and compact of ints, laid at this dump (written by the kit's tool, its numbers turned to names). -/
import Derived.Shelf.Sort.Plain
import Derived.Shelf.Slices.In.SortNone
import Derived.Shelf.Slices.CompactI
import Derived.Test.YtnlfhnbcdfdhgaaProg
namespace Go.Proofs
open Go.Shelf
set_option linter.unusedVariables false
set_option linter.unusedSimpArgs false
def Try.lays189_ren : Go.Shelf.Ren := ⟨fun | 189 => 12 | 125 => 26 | 257 => 25 | 128 => 42 | 129 => 43 | 294 => 34 | 295 => 35 | 296 => 36 | 297 => 37 | 298 => 38 | 299 => 39 | 216 => 32 | 300 => 40 | 301 => 41 | 328 => 46 | 329 => 47 | 330 => 48 | 331 => 49 | 332 => 50 | 215 => 45 | 343 => 51 | n => n, fun | 28 => 22 | 3 => 3 | 46 => 48 | 0 => 0 | 51 => 61 | 53 => 63 | 4 => 4 | 183 => 55 | 182 => 54 | 131 => 44 | 5 => 5 | 9 => 9 | 218 => 65 | 222 => 69 | 228 => 71 | 229 => 72 | n => n, fun | n => n⟩
theorem Try.lays189 : Go.Proofs.Lays.n189 Try.prog Try.lays189_ren := {
 mixed := by kernel_rfl
 f125 := Try.func26.trans (congrArg some (by kernel_rfl))
 f128 := Try.func42.trans (congrArg some (by kernel_rfl))
 f129 := Try.func43.trans (congrArg some (by kernel_rfl))
 f189 := Try.func12.trans (congrArg some (by kernel_rfl))
 f215 := Try.func45.trans (congrArg some (by kernel_rfl))
 f216 := Try.func32.trans (congrArg some (by kernel_rfl))
 f257 := Try.func25.trans (congrArg some (by kernel_rfl))
 f294 := Try.func34.trans (congrArg some (by kernel_rfl))
 f295 := Try.func35.trans (congrArg some (by kernel_rfl))
 f296 := Try.func36.trans (congrArg some (by kernel_rfl))
 f297 := Try.func37.trans (congrArg some (by kernel_rfl))
 f298 := Try.func38.trans (congrArg some (by kernel_rfl))
 f299 := Try.func39.trans (congrArg some (by kernel_rfl))
 f300 := Try.func40.trans (congrArg some (by kernel_rfl))
 f301 := Try.func41.trans (congrArg some (by kernel_rfl))
 f328 := Try.func46.trans (congrArg some (by kernel_rfl))
 f329 := Try.func47.trans (congrArg some (by kernel_rfl))
 f330 := Try.func48.trans (congrArg some (by kernel_rfl))
 f331 := Try.func49.trans (congrArg some (by kernel_rfl))
 f332 := Try.func50.trans (congrArg some (by kernel_rfl))
 f343 := Try.func51.trans (congrArg some (by kernel_rfl))
 t0 := Try.underlying0
 a0 := Try.isAgg0
 z0 := Try.sizeOf0
 v0 := Try.zeroValue0
 t3 := Try.underlying3
 a3 := Try.isAgg3
 z3 := Try.sizeOf3
 v3 := Try.zeroValue3
 t4 := Try.underlying4
 a4 := Try.isAgg4
 z4 := Try.sizeOf4
 v4 := Try.zeroValue4
 t5 := Try.underlying5
 a5 := Try.isAgg5
 z5 := Try.sizeOf5
 v5 := Try.zeroValue5
 t9 := Try.underlying9
 a9 := Try.isAgg9
 z9 := Try.sizeOf9
 v9 := Try.zeroValue9
 t28 := Try.underlying22
 a28 := Try.isAgg22
 z28 := Try.sizeOf22
 v28 := Try.zeroValue22
 t46 := Try.underlying48
 a46 := Try.isAgg48
 z46 := Try.sizeOf48
 v46 := Try.zeroValue48
 t51 := Try.underlying61
 a51 := Try.isAgg61
 z51 := Try.sizeOf61
 v51 := Try.zeroValue61
 t53 := Try.underlying63
 a53 := Try.isAgg63
 z53 := Try.sizeOf63
 v53 := Try.zeroValue63
 t131 := Try.underlying44
 a131 := Try.isAgg44
 z131 := Try.sizeOf44
 v131 := Try.zeroValue44
 t182 := Try.underlying54
 a182 := Try.isAgg54
 z182 := Try.sizeOf54
 v182 := Try.zeroValue54
 t183 := Try.underlying55
 a183 := Try.isAgg55
 z183 := Try.sizeOf55
 v183 := Try.zeroValue55
 t218 := Try.underlying65
 a218 := Try.isAgg65
 z218 := Try.sizeOf65
 v218 := Try.zeroValue65
 t222 := Try.underlying69
 a222 := Try.isAgg69
 z222 := Try.sizeOf69
 v222 := Try.zeroValue69
 t228 := Try.underlying71
 a228 := Try.isAgg71
 z228 := Try.sizeOf71
 v228 := Try.zeroValue71
 t229 := Try.underlying72
 a229 := Try.isAgg72
 z229 := Try.sizeOf72
 v229 := Try.zeroValue72 }
end Go.Proofs
