/-
  DERIVED: THE SHELF's CONTRACTS AT THIS DUMP, IN PLAIN WORDS (tools/lay-plain.mjs out of 'YthhgcklidfilfaaSj0.lean', which tools/lay-shelf.mjs wrote): THE SAME DECLARATIONS UNDER THE SAME NAMES: 'import', 'namespace', 'open', 'def', 'theorem' AND NOTHING ELSE: no command of the shelf's: FOR A HAND-IN. Each laying: the table of numbers ('.._ren') and one theorem, a field a fact of the dump's own or the kernel's comparison; each contract: ONE APPLICATION.
-/
import Derived.Shelf.SlSortCmp.NoneTotal
import Derived.Ground.SlsfProg
import Derived.Test.YthhgcklidfilfaaProg
namespace Go.Proofs
open Go.Shelf
def Try.sortJ_ren : Go.Shelf.Ren := ⟨fun | 6 => 121 | 15 => 169 | 14 => 168 | 28 => 191 | 29 => 192 | 20 => 183 | 21 => 184 | 22 => 185 | 23 => 186 | 24 => 187 | 25 => 188 | 26 => 189 | 27 => 190 | 46 => 205 | 47 => 206 | 48 => 207 | 49 => 208 | 50 => 209 | 57 => 223 | n => n, fun | 22 => 83 | 24 => 164 | 25 => 170 | 3 => 3 | 39 => 220 | 0 => 0 | 53 => 248 | 55 => 250 | 4 => 4 | 46 => 242 | 45 => 241 | 50 => 226 | 5 => 5 | 9 => 9 | 66 => 258 | 70 => 262 | 76 => 272 | 77 => 273 | n => n, fun | n => n⟩
theorem Try.sortJ : Go.Proofs.SlLaysF0.n6 Try.prog Try.sortJ_ren := {
  mixed := by kernel_rfl
  f6 := ⟨Try.f121.name, by decide, Try.func121.trans (congrArg some (by kernel_rfl))⟩
  f14 := ⟨Try.f168.name, by decide, Try.func168.trans (congrArg some (by kernel_rfl))⟩
  f15 := Try.func169.trans (congrArg some (by kernel_rfl))
  f20 := ⟨Try.f183.name, by decide, Try.func183.trans (congrArg some (by kernel_rfl))⟩
  f21 := ⟨Try.f184.name, by decide, Try.func184.trans (congrArg some (by kernel_rfl))⟩
  f22 := ⟨Try.f185.name, by decide, Try.func185.trans (congrArg some (by kernel_rfl))⟩
  f23 := ⟨Try.f186.name, by decide, Try.func186.trans (congrArg some (by kernel_rfl))⟩
  f24 := ⟨Try.f187.name, by decide, Try.func187.trans (congrArg some (by kernel_rfl))⟩
  f25 := ⟨Try.f188.name, by decide, Try.func188.trans (congrArg some (by kernel_rfl))⟩
  f26 := ⟨Try.f189.name, by decide, Try.func189.trans (congrArg some (by kernel_rfl))⟩
  f27 := ⟨Try.f190.name, by decide, Try.func190.trans (congrArg some (by kernel_rfl))⟩
  f28 := Try.func191.trans (congrArg some (by kernel_rfl))
  f29 := Try.func192.trans (congrArg some (by kernel_rfl))
  f46 := ⟨Try.f205.name, by decide, Try.func205.trans (congrArg some (by kernel_rfl))⟩
  f47 := Try.func206.trans (congrArg some (by kernel_rfl))
  f48 := Try.func207.trans (congrArg some (by kernel_rfl))
  f49 := ⟨Try.f208.name, by decide, Try.func208.trans (congrArg some (by kernel_rfl))⟩
  f50 := ⟨Try.f209.name, by decide, Try.func209.trans (congrArg some (by kernel_rfl))⟩
  f57 := ⟨Try.f223.name, by decide, Try.func223.trans (congrArg some (by kernel_rfl))⟩
  t0 := Try.underlying0
  a0 := Try.isAgg0
  z0 := Try.sizeOf0
  v0 := Try.zeroValue0
  t3 := Try.underlying3
  a3 := Try.isAgg3
  z3 := Try.sizeOf3
  v3 := Try.zeroValue3
  t4 := Try.underlying4
  a4 := Try.isAgg4
  z4 := Try.sizeOf4
  v4 := Try.zeroValue4
  t5 := Try.underlying5
  a5 := Try.isAgg5
  z5 := Try.sizeOf5
  v5 := Try.zeroValue5
  t9 := Try.underlying9
  a9 := Try.isAgg9
  z9 := Try.sizeOf9
  v9 := Try.zeroValue9
  t22 := Try.underlying83
  a22 := Try.isAgg83
  z22 := Try.sizeOf83
  v22 := Try.zeroValue83
  t25 := Try.underlying170
  a25 := Try.isAgg170
  z25 := Try.sizeOf170
  v25 := Try.zeroValue170
  t39 := Try.underlying220
  a39 := Try.isAgg220
  z39 := Try.sizeOf220
  v39 := Try.zeroValue220
  t45 := Try.underlying241
  a45 := Try.isAgg241
  z45 := Try.sizeOf241
  v45 := Try.zeroValue241
  t46 := Try.underlying242
  a46 := Try.isAgg242
  z46 := Try.sizeOf242
  v46 := Try.zeroValue242
  t50 := Try.underlying226
  a50 := Try.isAgg226
  z50 := Try.sizeOf226
  v50 := Try.zeroValue226
  t53 := Try.underlying248
  a53 := Try.isAgg248
  z53 := Try.sizeOf248
  v53 := Try.zeroValue248
  t55 := Try.underlying250
  a55 := Try.isAgg250
  z55 := Try.sizeOf250
  v55 := Try.zeroValue250
  t66 := Try.underlying258
  a66 := Try.isAgg258
  z66 := Try.sizeOf258
  v66 := Try.zeroValue258
  t70 := Try.underlying262
  a70 := Try.isAgg262
  z70 := Try.sizeOf262
  v70 := Try.zeroValue262
  t76 := Try.underlying272
  a76 := Try.isAgg272
  z76 := Try.sizeOf272
  v76 := Try.zeroValue272
  t77 := Try.underlying273
  a77 := Try.isAgg273
  z77 := Try.sizeOf273
  v77 := Try.zeroValue273 }
end Go.Proofs
