/-
  DERIVED: THE SHELF's CONTRACTS AT THIS DUMP, IN PLAIN WORDS (tools/lay-plain.mjs out of 'YthhgcklidfilfaaSm0.lean', which tools/lay-shelf.mjs wrote): THE SAME DECLARATIONS UNDER THE SAME NAMES: 'import', 'namespace', 'open', 'def', 'theorem' AND NOTHING ELSE: no command of the shelf's: FOR A HAND-IN. Each laying: the table of numbers ('.._ren') and one theorem, a field a fact of the dump's own or the kernel's comparison; each contract: ONE APPLICATION.
-/
import Derived.Shelf.Sort.Plain
import Derived.Shelf.Slices.In.SortNone
import Derived.Ground.NamesProg
import Derived.Test.YthhgcklidfilfaaProg
namespace Go.Proofs
open Go.Shelf
def Try.sortS_ren : Go.Shelf.Ren := ⟨fun | 190 => 174 | 125 => 169 | 258 => 202 | 128 => 191 | 129 => 192 | 302 => 213 | 303 => 214 | 304 => 215 | 305 => 216 | 306 => 217 | 307 => 218 | 308 => 219 | 309 => 220 | 310 => 221 | 333 => 225 | 329 => 206 | 330 => 207 | 334 => 226 | 335 => 227 | 336 => 170 | 344 => 228 | n => n, fun | 31 => 78 | 9 => 9 | 3 => 3 | 46 => 220 | 0 => 0 | 51 => 248 | 53 => 250 | 4 => 4 | 183 => 242 | 182 => 241 | 131 => 226 | 5 => 5 | 218 => 258 | 222 => 262 | 228 => 272 | 229 => 273 | n => n, fun | n => n⟩
theorem Try.sortS : Go.Proofs.Lays.n190 Try.prog Try.sortS_ren := {
  mixed := by kernel_rfl
  f125 := Try.func169.trans (congrArg some (by kernel_rfl))
  f128 := Try.func191.trans (congrArg some (by kernel_rfl))
  f129 := Try.func192.trans (congrArg some (by kernel_rfl))
  f190 := Try.func174.trans (congrArg some (by kernel_rfl))
  f258 := Try.func202.trans (congrArg some (by kernel_rfl))
  f302 := Try.func213.trans (congrArg some (by kernel_rfl))
  f303 := Try.func214.trans (congrArg some (by kernel_rfl))
  f304 := Try.func215.trans (congrArg some (by kernel_rfl))
  f305 := Try.func216.trans (congrArg some (by kernel_rfl))
  f306 := Try.func217.trans (congrArg some (by kernel_rfl))
  f307 := Try.func218.trans (congrArg some (by kernel_rfl))
  f308 := Try.func219.trans (congrArg some (by kernel_rfl))
  f309 := Try.func220.trans (congrArg some (by kernel_rfl))
  f310 := Try.func221.trans (congrArg some (by kernel_rfl))
  f329 := Try.func206.trans (congrArg some (by kernel_rfl))
  f330 := Try.func207.trans (congrArg some (by kernel_rfl))
  f333 := Try.func225.trans (congrArg some (by kernel_rfl))
  f334 := Try.func226.trans (congrArg some (by kernel_rfl))
  f335 := Try.func227.trans (congrArg some (by kernel_rfl))
  f336 := Try.func170.trans (congrArg some (by kernel_rfl))
  f344 := Try.func228.trans (congrArg some (by kernel_rfl))
  t0 := Try.underlying0
  a0 := Try.isAgg0
  z0 := Try.sizeOf0
  v0 := Try.zeroValue0
  t3 := Try.underlying3
  a3 := Try.isAgg3
  z3 := Try.sizeOf3
  v3 := Try.zeroValue3
  t4 := Try.underlying4
  a4 := Try.isAgg4
  z4 := Try.sizeOf4
  v4 := Try.zeroValue4
  t5 := Try.underlying5
  a5 := Try.isAgg5
  z5 := Try.sizeOf5
  v5 := Try.zeroValue5
  t9 := Try.underlying9
  a9 := Try.isAgg9
  z9 := Try.sizeOf9
  v9 := Try.zeroValue9
  t31 := Try.underlying78
  a31 := Try.isAgg78
  z31 := Try.sizeOf78
  v31 := Try.zeroValue78
  t46 := Try.underlying220
  a46 := Try.isAgg220
  z46 := Try.sizeOf220
  v46 := Try.zeroValue220
  t51 := Try.underlying248
  a51 := Try.isAgg248
  z51 := Try.sizeOf248
  v51 := Try.zeroValue248
  t53 := Try.underlying250
  a53 := Try.isAgg250
  z53 := Try.sizeOf250
  v53 := Try.zeroValue250
  t131 := Try.underlying226
  a131 := Try.isAgg226
  z131 := Try.sizeOf226
  v131 := Try.zeroValue226
  t182 := Try.underlying241
  a182 := Try.isAgg241
  z182 := Try.sizeOf241
  v182 := Try.zeroValue241
  t183 := Try.underlying242
  a183 := Try.isAgg242
  z183 := Try.sizeOf242
  v183 := Try.zeroValue242
  t218 := Try.underlying258
  a218 := Try.isAgg258
  z218 := Try.sizeOf258
  v218 := Try.zeroValue258
  t222 := Try.underlying262
  a222 := Try.isAgg262
  z222 := Try.sizeOf262
  v222 := Try.zeroValue262
  t228 := Try.underlying272
  a228 := Try.isAgg272
  z228 := Try.sizeOf272
  v228 := Try.zeroValue272
  t229 := Try.underlying273
  a229 := Try.isAgg273
  z229 := Try.sizeOf273
  v229 := Try.zeroValue273 }
end Go.Proofs
