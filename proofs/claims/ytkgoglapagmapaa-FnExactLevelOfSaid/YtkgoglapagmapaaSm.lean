/-
  DERIVED: THE SHELF's CONTRACTS AT THIS DUMP, IN PLAIN WORDS (tools/lay-plain.mjs out of 'YtkgoglapagmapaaSm0.lean', which tools/lay-shelf.mjs wrote): THE SAME DECLARATIONS UNDER THE SAME NAMES: 'import', 'namespace', 'open', 'def', 'theorem' AND NOTHING ELSE: no command of the shelf's: FOR A HAND-IN. Each laying: the table of numbers ('.._ren') and one theorem, a field a fact of the dump's own or the kernel's comparison; each contract: ONE APPLICATION.
-/
import Derived.Shelf.Sort.Plain
import Derived.Shelf.Slices.In.SortNone
import Derived.Ground.NamesProg
import Derived.Test.YtkgoglapagmapaaProg
namespace Go.Proofs
open Go.Shelf
def Try.sortS_ren : Go.Shelf.Ren := ⟨fun | 190 => 123 | 125 => 131 | 258 => 143 | 128 => 152 | 129 => 153 | 302 => 163 | 303 => 164 | 304 => 165 | 305 => 166 | 306 => 167 | 307 => 168 | 308 => 169 | 309 => 170 | 310 => 171 | 333 => 183 | 329 => 173 | 330 => 174 | 334 => 184 | 335 => 185 | 336 => 132 | 344 => 188 | n => n, fun | 31 => 22 | 9 => 9 | 3 => 3 | 46 => 176 | 0 => 0 | 51 => 196 | 53 => 198 | 4 => 4 | 183 => 190 | 182 => 189 | 131 => 165 | 5 => 5 | 218 => 212 | 222 => 216 | 228 => 225 | 229 => 226 | n => n, fun | n => n⟩
theorem Try.sortS : Go.Proofs.Lays.n190 Try.prog Try.sortS_ren := {
  mixed := by kernel_rfl
  f125 := Try.func131.trans (congrArg some (by kernel_rfl))
  f128 := Try.func152.trans (congrArg some (by kernel_rfl))
  f129 := Try.func153.trans (congrArg some (by kernel_rfl))
  f190 := Try.func123.trans (congrArg some (by kernel_rfl))
  f258 := Try.func143.trans (congrArg some (by kernel_rfl))
  f302 := Try.func163.trans (congrArg some (by kernel_rfl))
  f303 := Try.func164.trans (congrArg some (by kernel_rfl))
  f304 := Try.func165.trans (congrArg some (by kernel_rfl))
  f305 := Try.func166.trans (congrArg some (by kernel_rfl))
  f306 := Try.func167.trans (congrArg some (by kernel_rfl))
  f307 := Try.func168.trans (congrArg some (by kernel_rfl))
  f308 := Try.func169.trans (congrArg some (by kernel_rfl))
  f309 := Try.func170.trans (congrArg some (by kernel_rfl))
  f310 := Try.func171.trans (congrArg some (by kernel_rfl))
  f329 := Try.func173.trans (congrArg some (by kernel_rfl))
  f330 := Try.func174.trans (congrArg some (by kernel_rfl))
  f333 := Try.func183.trans (congrArg some (by kernel_rfl))
  f334 := Try.func184.trans (congrArg some (by kernel_rfl))
  f335 := Try.func185.trans (congrArg some (by kernel_rfl))
  f336 := Try.func132.trans (congrArg some (by kernel_rfl))
  f344 := Try.func188.trans (congrArg some (by kernel_rfl))
  t0 := Try.underlying0
  a0 := Try.isAgg0
  z0 := Try.sizeOf0
  v0 := Try.zeroValue0
  t3 := Try.underlying3
  a3 := Try.isAgg3
  z3 := Try.sizeOf3
  v3 := Try.zeroValue3
  t4 := Try.underlying4
  a4 := Try.isAgg4
  z4 := Try.sizeOf4
  v4 := Try.zeroValue4
  t5 := Try.underlying5
  a5 := Try.isAgg5
  z5 := Try.sizeOf5
  v5 := Try.zeroValue5
  t9 := Try.underlying9
  a9 := Try.isAgg9
  z9 := Try.sizeOf9
  v9 := Try.zeroValue9
  t31 := Try.underlying22
  a31 := Try.isAgg22
  z31 := Try.sizeOf22
  v31 := Try.zeroValue22
  t46 := Try.underlying176
  a46 := Try.isAgg176
  z46 := Try.sizeOf176
  v46 := Try.zeroValue176
  t51 := Try.underlying196
  a51 := Try.isAgg196
  z51 := Try.sizeOf196
  v51 := Try.zeroValue196
  t53 := Try.underlying198
  a53 := Try.isAgg198
  z53 := Try.sizeOf198
  v53 := Try.zeroValue198
  t131 := Try.underlying165
  a131 := Try.isAgg165
  z131 := Try.sizeOf165
  v131 := Try.zeroValue165
  t182 := Try.underlying189
  a182 := Try.isAgg189
  z182 := Try.sizeOf189
  v182 := Try.zeroValue189
  t183 := Try.underlying190
  a183 := Try.isAgg190
  z183 := Try.sizeOf190
  v183 := Try.zeroValue190
  t218 := Try.underlying212
  a218 := Try.isAgg212
  z218 := Try.sizeOf212
  v218 := Try.zeroValue212
  t222 := Try.underlying216
  a222 := Try.isAgg216
  z222 := Try.sizeOf216
  v222 := Try.zeroValue216
  t228 := Try.underlying225
  a228 := Try.isAgg225
  z228 := Try.sizeOf225
  v228 := Try.zeroValue225
  t229 := Try.underlying226
  a229 := Try.isAgg226
  z229 := Try.sizeOf226
  v229 := Try.zeroValue226 }
end Go.Proofs
