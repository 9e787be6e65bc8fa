/-
  DERIVED: THE SHELF's CONTRACTS AT THIS DUMP, IN PLAIN WORDS (tools/lay-plain.mjs out of 'YtmgdkkhnjkepiaaGreatSm0.lean', which tools/lay-shelf.mjs wrote): THE SAME DECLARATIONS UNDER THE SAME NAMES: 'import', 'namespace', 'open', 'def', 'theorem' AND NOTHING ELSE: no command of the shelf's: FOR A HAND-IN. Each laying: the table of numbers ('.._ren') and one theorem, a field a fact of the dump's own or the kernel's comparison; each contract: ONE APPLICATION.
-/
import Derived.Shelf.Sort.Plain
import Derived.Shelf.Slices.In.SortNone
import Derived.Ground.NamesProg
import Derived.Test.YtmgdkkhnjkepiaaGreatProg
namespace Go.Proofs
open Go.Shelf
def Tryz.sortS_ren : Go.Shelf.Ren := ⟨fun | 190 => 174 | 125 => 181 | 258 => 214 | 128 => 224 | 129 => 225 | 302 => 242 | 303 => 243 | 304 => 244 | 305 => 245 | 306 => 246 | 307 => 247 | 308 => 248 | 309 => 249 | 310 => 250 | 333 => 277 | 329 => 252 | 330 => 253 | 334 => 278 | 335 => 279 | 336 => 182 | 344 => 287 | n => n, fun | 31 => 26 | 9 => 9 | 3 => 3 | 46 => 218 | 0 => 0 | 51 => 261 | 53 => 263 | 4 => 4 | 183 => 255 | 182 => 254 | 131 => 164 | 5 => 5 | 218 => 284 | 222 => 288 | 228 => 306 | 229 => 307 | n => n, fun | n => n⟩
theorem Tryz.sortS : Go.Proofs.Lays.n190 Tryz.prog Tryz.sortS_ren := {
  mixed := by kernel_rfl
  f125 := Tryz.func181.trans (congrArg some (by kernel_rfl))
  f128 := Tryz.func224.trans (congrArg some (by kernel_rfl))
  f129 := Tryz.func225.trans (congrArg some (by kernel_rfl))
  f190 := Tryz.func174.trans (congrArg some (by kernel_rfl))
  f258 := Tryz.func214.trans (congrArg some (by kernel_rfl))
  f302 := Tryz.func242.trans (congrArg some (by kernel_rfl))
  f303 := Tryz.func243.trans (congrArg some (by kernel_rfl))
  f304 := Tryz.func244.trans (congrArg some (by kernel_rfl))
  f305 := Tryz.func245.trans (congrArg some (by kernel_rfl))
  f306 := Tryz.func246.trans (congrArg some (by kernel_rfl))
  f307 := Tryz.func247.trans (congrArg some (by kernel_rfl))
  f308 := Tryz.func248.trans (congrArg some (by kernel_rfl))
  f309 := Tryz.func249.trans (congrArg some (by kernel_rfl))
  f310 := Tryz.func250.trans (congrArg some (by kernel_rfl))
  f329 := Tryz.func252.trans (congrArg some (by kernel_rfl))
  f330 := Tryz.func253.trans (congrArg some (by kernel_rfl))
  f333 := Tryz.func277.trans (congrArg some (by kernel_rfl))
  f334 := Tryz.func278.trans (congrArg some (by kernel_rfl))
  f335 := Tryz.func279.trans (congrArg some (by kernel_rfl))
  f336 := Tryz.func182.trans (congrArg some (by kernel_rfl))
  f344 := Tryz.func287.trans (congrArg some (by kernel_rfl))
  t0 := Tryz.underlying0
  a0 := Tryz.isAgg0
  z0 := Tryz.sizeOf0
  v0 := Tryz.zeroValue0
  t3 := Tryz.underlying3
  a3 := Tryz.isAgg3
  z3 := Tryz.sizeOf3
  v3 := Tryz.zeroValue3
  t4 := Tryz.underlying4
  a4 := Tryz.isAgg4
  z4 := Tryz.sizeOf4
  v4 := Tryz.zeroValue4
  t5 := Tryz.underlying5
  a5 := Tryz.isAgg5
  z5 := Tryz.sizeOf5
  v5 := Tryz.zeroValue5
  t9 := Tryz.underlying9
  a9 := Tryz.isAgg9
  z9 := Tryz.sizeOf9
  v9 := Tryz.zeroValue9
  t31 := Tryz.underlying26
  a31 := Tryz.isAgg26
  z31 := Tryz.sizeOf26
  v31 := Tryz.zeroValue26
  t46 := Tryz.underlying218
  a46 := Tryz.isAgg218
  z46 := Tryz.sizeOf218
  v46 := Tryz.zeroValue218
  t51 := Tryz.underlying261
  a51 := Tryz.isAgg261
  z51 := Tryz.sizeOf261
  v51 := Tryz.zeroValue261
  t53 := Tryz.underlying263
  a53 := Tryz.isAgg263
  z53 := Tryz.sizeOf263
  v53 := Tryz.zeroValue263
  t131 := Tryz.underlying164
  a131 := Tryz.isAgg164
  z131 := Tryz.sizeOf164
  v131 := Tryz.zeroValue164
  t182 := Tryz.underlying254
  a182 := Tryz.isAgg254
  z182 := Tryz.sizeOf254
  v182 := Tryz.zeroValue254
  t183 := Tryz.underlying255
  a183 := Tryz.isAgg255
  z183 := Tryz.sizeOf255
  v183 := Tryz.zeroValue255
  t218 := Tryz.underlying284
  a218 := Tryz.isAgg284
  z218 := Tryz.sizeOf284
  v218 := Tryz.zeroValue284
  t222 := Tryz.underlying288
  a222 := Tryz.isAgg288
  z222 := Tryz.sizeOf288
  v222 := Tryz.zeroValue288
  t228 := Tryz.underlying306
  a228 := Tryz.isAgg306
  z228 := Tryz.sizeOf306
  v228 := Tryz.zeroValue306
  t229 := Tryz.underlying307
  a229 := Tryz.isAgg307
  z229 := Tryz.sizeOf307
  v229 := Tryz.zeroValue307 }
end Go.Proofs
