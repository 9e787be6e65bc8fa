/-
  DERIVED: THE SHELF's CONTRACTS AT THIS DUMP, IN PLAIN WORDS (tools/lay-plain.mjs out of 'YthhgcklidfilfaaSl0.lean', which tools/lay-shelf.mjs wrote): THE SAME DECLARATIONS UNDER THE SAME NAMES: 'import', 'namespace', 'open', 'def', 'theorem' AND NOTHING ELSE: no command of the shelf's: FOR A HAND-IN. Each laying: the table of numbers ('.._ren') and one theorem, a field a fact of the dump's own or the kernel's comparison; each contract: ONE APPLICATION.
-/
import Derived.Shelf.SlSortCmp.NoneTotal
import Derived.Ground.SlsfProg
import Derived.Test.YthhgcklidfilfaaProg
namespace Go.Proofs
open Go.Shelf
def Try.sortL_ren : Go.Shelf.Ren := ⟨fun | 6 => 130 | 15 => 169 | 14 => 172 | 28 => 191 | 29 => 192 | 20 => 193 | 21 => 194 | 22 => 195 | 23 => 196 | 24 => 197 | 25 => 198 | 26 => 199 | 27 => 200 | 46 => 210 | 47 => 206 | 48 => 207 | 49 => 211 | 50 => 212 | 57 => 224 | n => n, fun | 22 => 23 | 24 => 32 | 25 => 179 | 3 => 3 | 39 => 220 | 0 => 0 | 53 => 248 | 55 => 250 | 4 => 4 | 46 => 242 | 45 => 241 | 50 => 226 | 5 => 5 | 9 => 9 | 66 => 258 | 70 => 262 | 76 => 272 | 77 => 273 | n => n, fun | n => n⟩
theorem Try.sortL : Go.Proofs.SlLaysF0.n6 Try.prog Try.sortL_ren := {
  mixed := by kernel_rfl
  f6 := ⟨Try.f130.name, by decide, Try.func130.trans (congrArg some (by kernel_rfl))⟩
  f14 := ⟨Try.f172.name, by decide, Try.func172.trans (congrArg some (by kernel_rfl))⟩
  f15 := Try.func169.trans (congrArg some (by kernel_rfl))
  f20 := ⟨Try.f193.name, by decide, Try.func193.trans (congrArg some (by kernel_rfl))⟩
  f21 := ⟨Try.f194.name, by decide, Try.func194.trans (congrArg some (by kernel_rfl))⟩
  f22 := ⟨Try.f195.name, by decide, Try.func195.trans (congrArg some (by kernel_rfl))⟩
  f23 := ⟨Try.f196.name, by decide, Try.func196.trans (congrArg some (by kernel_rfl))⟩
  f24 := ⟨Try.f197.name, by decide, Try.func197.trans (congrArg some (by kernel_rfl))⟩
  f25 := ⟨Try.f198.name, by decide, Try.func198.trans (congrArg some (by kernel_rfl))⟩
  f26 := ⟨Try.f199.name, by decide, Try.func199.trans (congrArg some (by kernel_rfl))⟩
  f27 := ⟨Try.f200.name, by decide, Try.func200.trans (congrArg some (by kernel_rfl))⟩
  f28 := Try.func191.trans (congrArg some (by kernel_rfl))
  f29 := Try.func192.trans (congrArg some (by kernel_rfl))
  f46 := ⟨Try.f210.name, by decide, Try.func210.trans (congrArg some (by kernel_rfl))⟩
  f47 := Try.func206.trans (congrArg some (by kernel_rfl))
  f48 := Try.func207.trans (congrArg some (by kernel_rfl))
  f49 := ⟨Try.f211.name, by decide, Try.func211.trans (congrArg some (by kernel_rfl))⟩
  f50 := ⟨Try.f212.name, by decide, Try.func212.trans (congrArg some (by kernel_rfl))⟩
  f57 := ⟨Try.f224.name, by decide, Try.func224.trans (congrArg some (by kernel_rfl))⟩
  t0 := Try.underlying0
  a0 := Try.isAgg0
  z0 := Try.sizeOf0
  v0 := Try.zeroValue0
  t3 := Try.underlying3
  a3 := Try.isAgg3
  z3 := Try.sizeOf3
  v3 := Try.zeroValue3
  t4 := Try.underlying4
  a4 := Try.isAgg4
  z4 := Try.sizeOf4
  v4 := Try.zeroValue4
  t5 := Try.underlying5
  a5 := Try.isAgg5
  z5 := Try.sizeOf5
  v5 := Try.zeroValue5
  t9 := Try.underlying9
  a9 := Try.isAgg9
  z9 := Try.sizeOf9
  v9 := Try.zeroValue9
  t22 := Try.underlying23
  a22 := Try.isAgg23
  z22 := Try.sizeOf23
  v22 := Try.zeroValue23
  t25 := Try.underlying179
  a25 := Try.isAgg179
  z25 := Try.sizeOf179
  v25 := Try.zeroValue179
  t39 := Try.underlying220
  a39 := Try.isAgg220
  z39 := Try.sizeOf220
  v39 := Try.zeroValue220
  t45 := Try.underlying241
  a45 := Try.isAgg241
  z45 := Try.sizeOf241
  v45 := Try.zeroValue241
  t46 := Try.underlying242
  a46 := Try.isAgg242
  z46 := Try.sizeOf242
  v46 := Try.zeroValue242
  t50 := Try.underlying226
  a50 := Try.isAgg226
  z50 := Try.sizeOf226
  v50 := Try.zeroValue226
  t53 := Try.underlying248
  a53 := Try.isAgg248
  z53 := Try.sizeOf248
  v53 := Try.zeroValue248
  t55 := Try.underlying250
  a55 := Try.isAgg250
  z55 := Try.sizeOf250
  v55 := Try.zeroValue250
  t66 := Try.underlying258
  a66 := Try.isAgg258
  z66 := Try.sizeOf258
  v66 := Try.zeroValue258
  t70 := Try.underlying262
  a70 := Try.isAgg262
  z70 := Try.sizeOf262
  v70 := Try.zeroValue262
  t76 := Try.underlying272
  a76 := Try.isAgg272
  z76 := Try.sizeOf272
  v76 := Try.zeroValue272
  t77 := Try.underlying273
  a77 := Try.isAgg273
  z77 := Try.sizeOf273
  v77 := Try.zeroValue273 }
end Go.Proofs
