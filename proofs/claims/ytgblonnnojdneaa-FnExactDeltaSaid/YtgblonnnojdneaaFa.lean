/-
  Facts of the loaded program: how its types lie. Written by a program (ey.py) out of Lean's own print.
-/
import Derived.Test.YtgblonnnojdneaaBxS
import Derived.Test.YtgblonnnojdneaaProg
import Derived.KernelRfl
namespace Go.Proofs.Ytgblonnnojdneaa.BX
set_option linter.unusedSectionVars false
set_option linter.unusedSimpArgs false
set_option linter.unusedVariables false
open Go Go.RowKit

noncomputable abbrev P0 : Program := Try.prog
theorem mixed : P0.follows .mixedOrders = true := by kernel_rfl
@[push_cast] theorem lay_3 : lay P0 3 = .int .i64 := by kernel_rfl
@[push_cast] theorem und_3 : P0.underlying 3 = some (.int .i64) := by kernel_rfl
@[push_cast] theorem zero_3 : zeroOf P0 3 = some (.int .i64 0) := by kernel_rfl
@[push_cast] theorem cells_3 : P0.cellsOf 3 = 1 := by kernel_rfl
@[push_cast] theorem bytes_3 : P0.bytesOf 3 = 8 := by kernel_rfl
@[push_cast] theorem sh_3 : shOf P0 40 3 = .leaf := by kernel_rfl
@[push_cast] theorem lay_4 : lay P0 4 = .bool := by kernel_rfl
@[push_cast] theorem zero_4 : zeroOf P0 4 = some (.bool false) := by kernel_rfl
@[push_cast] theorem cells_4 : P0.cellsOf 4 = 1 := by kernel_rfl
@[push_cast] theorem bytes_4 : P0.bytesOf 4 = 1 := by kernel_rfl
@[push_cast] theorem sh_4 : shOf P0 40 4 = .leaf := by kernel_rfl
@[push_cast] theorem lay_5 : lay P0 5 = .int .u8 := by kernel_rfl
@[push_cast] theorem und_5 : P0.underlying 5 = some (.int .u8) := by kernel_rfl
@[push_cast] theorem zero_5 : zeroOf P0 5 = some (.int .u8 0) := by kernel_rfl
@[push_cast] theorem cells_5 : P0.cellsOf 5 = 1 := by kernel_rfl
@[push_cast] theorem bytes_5 : P0.bytesOf 5 = 1 := by kernel_rfl
@[push_cast] theorem sh_5 : shOf P0 40 5 = .leaf := by kernel_rfl
@[push_cast] theorem lay_9 : lay P0 9 = .str := by kernel_rfl
@[push_cast] theorem zero_9 : zeroOf P0 9 = some (.string ⟨#[]⟩) := by kernel_rfl
@[push_cast] theorem cells_9 : P0.cellsOf 9 = 1 := by kernel_rfl
@[push_cast] theorem bytes_9 : P0.bytesOf 9 = 16 := by kernel_rfl
@[push_cast] theorem sh_9 : shOf P0 40 9 = .leaf := by kernel_rfl
@[push_cast] theorem lay_22 : lay P0 22 = .sli 88 2 := by kernel_rfl
@[push_cast] theorem zero_22 : zeroOf P0 22 = some (.slice none 0 0) := by kernel_rfl
@[push_cast] theorem cells_22 : P0.cellsOf 22 = 1 := by kernel_rfl
@[push_cast] theorem bytes_22 : P0.bytesOf 22 = 24 := by kernel_rfl
@[push_cast] theorem sh_22 : shOf P0 40 22 = .sl 88 2 (.ag [.leaf, .sl 36 3 (.ag [.leaf, .leaf, .leaf])]) := by kernel_rfl
@[push_cast] theorem lay_24 : lay P0 24 = .st [(0, 1)] 1 := by kernel_rfl
@[push_cast] theorem zero_24 : zeroOf P0 24 = some (.agg #[.slice none 0 0]) := by kernel_rfl
@[push_cast] theorem cells_24 : P0.cellsOf 24 = 1 := by kernel_rfl
@[push_cast] theorem bytes_24 : P0.bytesOf 24 = 24 := by kernel_rfl
@[push_cast] theorem sh_24 : shOf P0 40 24 = .ag [.sl 88 2 (.ag [.leaf, .sl 36 3 (.ag [.leaf, .leaf, .leaf])])] := by kernel_rfl
@[push_cast] theorem lay_28 : lay P0 28 = .sli 60 2 := by kernel_rfl
@[push_cast] theorem zero_28 : zeroOf P0 28 = some (.slice none 0 0) := by kernel_rfl
@[push_cast] theorem cells_28 : P0.cellsOf 28 = 1 := by kernel_rfl
@[push_cast] theorem bytes_28 : P0.bytesOf 28 = 24 := by kernel_rfl
@[push_cast] theorem sh_28 : shOf P0 40 28 = .sl 60 2 (.ag [.leaf, .sl 43 3 (.ag [.leaf, .leaf, .leaf])]) := by kernel_rfl
@[push_cast] theorem lay_30 : lay P0 30 = .st [(0, 1)] 1 := by kernel_rfl
@[push_cast] theorem zero_30 : zeroOf P0 30 = some (.agg #[.slice none 0 0]) := by kernel_rfl
@[push_cast] theorem cells_30 : P0.cellsOf 30 = 1 := by kernel_rfl
@[push_cast] theorem bytes_30 : P0.bytesOf 30 = 24 := by kernel_rfl
@[push_cast] theorem sh_30 : shOf P0 40 30 = .ag [.sl 60 2 (.ag [.leaf, .sl 43 3 (.ag [.leaf, .leaf, .leaf])])] := by kernel_rfl
@[push_cast] theorem lay_34 : lay P0 34 = .sli 36 3 := by kernel_rfl
@[push_cast] theorem zero_34 : zeroOf P0 34 = some (.slice none 0 0) := by kernel_rfl
@[push_cast] theorem cells_34 : P0.cellsOf 34 = 1 := by kernel_rfl
@[push_cast] theorem bytes_34 : P0.bytesOf 34 = 24 := by kernel_rfl
@[push_cast] theorem sh_34 : shOf P0 40 34 = .sl 36 3 (.ag [.leaf, .leaf, .leaf]) := by kernel_rfl
@[push_cast] theorem lay_36 : lay P0 36 = .st [(0, 1), (1, 1), (2, 1)] 3 := by kernel_rfl
@[push_cast] theorem zero_36 : zeroOf P0 36 = some (.agg #[.string ⟨#[]⟩, .string ⟨#[]⟩, .string ⟨#[]⟩]) := by kernel_rfl
@[push_cast] theorem cells_36 : P0.cellsOf 36 = 3 := by kernel_rfl
@[push_cast] theorem bytes_36 : P0.bytesOf 36 = 48 := by kernel_rfl
@[push_cast] theorem sh_36 : shOf P0 40 36 = .ag [.leaf, .leaf, .leaf] := by kernel_rfl
@[push_cast] theorem lay_39 : lay P0 39 = .sli 43 3 := by kernel_rfl
@[push_cast] theorem zero_39 : zeroOf P0 39 = some (.slice none 0 0) := by kernel_rfl
@[push_cast] theorem cells_39 : P0.cellsOf 39 = 1 := by kernel_rfl
@[push_cast] theorem bytes_39 : P0.bytesOf 39 = 24 := by kernel_rfl
@[push_cast] theorem sh_39 : shOf P0 40 39 = .sl 43 3 (.ag [.leaf, .leaf, .leaf]) := by kernel_rfl
@[push_cast] theorem lay_43 : lay P0 43 = .st [(0, 1), (1, 1), (2, 1)] 3 := by kernel_rfl
@[push_cast] theorem zero_43 : zeroOf P0 43 = some (.agg #[.string ⟨#[]⟩, .string ⟨#[]⟩, .string ⟨#[]⟩]) := by kernel_rfl
@[push_cast] theorem cells_43 : P0.cellsOf 43 = 3 := by kernel_rfl
@[push_cast] theorem bytes_43 : P0.bytesOf 43 = 48 := by kernel_rfl
@[push_cast] theorem sh_43 : shOf P0 40 43 = .ag [.leaf, .leaf, .leaf] := by kernel_rfl
@[push_cast] theorem lay_60 : lay P0 60 = .st [(0, 1), (1, 1)] 2 := by kernel_rfl
@[push_cast] theorem zero_60 : zeroOf P0 60 = some (.agg #[.int .i64 0, .slice none 0 0]) := by kernel_rfl
@[push_cast] theorem cells_60 : P0.cellsOf 60 = 2 := by kernel_rfl
@[push_cast] theorem bytes_60 : P0.bytesOf 60 = 32 := by kernel_rfl
@[push_cast] theorem sh_60 : shOf P0 40 60 = .ag [.leaf, .sl 43 3 (.ag [.leaf, .leaf, .leaf])] := by kernel_rfl
@[push_cast] theorem lay_62 : lay P0 62 = .sli 65 1 := by kernel_rfl
@[push_cast] theorem zero_62 : zeroOf P0 62 = some (.slice none 0 0) := by kernel_rfl
@[push_cast] theorem cells_62 : P0.cellsOf 62 = 1 := by kernel_rfl
@[push_cast] theorem bytes_62 : P0.bytesOf 62 = 24 := by kernel_rfl
@[push_cast] theorem sh_62 : shOf P0 40 62 = .sl 65 1 .leaf := by kernel_rfl
@[push_cast] theorem lay_65 : lay P0 65 = .ptr := by kernel_rfl
@[push_cast] theorem zero_65 : zeroOf P0 65 = some (.pointer none) := by kernel_rfl
@[push_cast] theorem cells_65 : P0.cellsOf 65 = 1 := by kernel_rfl
@[push_cast] theorem bytes_65 : P0.bytesOf 65 = 8 := by kernel_rfl
@[push_cast] theorem sh_65 : shOf P0 40 65 = .leaf := by kernel_rfl
@[push_cast] theorem lay_67 : lay P0 67 = .map 73 9 := by kernel_rfl
@[push_cast] theorem zero_67 : zeroOf P0 67 = some (.map none) := by kernel_rfl
@[push_cast] theorem cells_67 : P0.cellsOf 67 = 1 := by kernel_rfl
@[push_cast] theorem bytes_67 : P0.bytesOf 67 = 8 := by kernel_rfl
@[push_cast] theorem lay_69 : lay P0 69 = .st [(0, 1), (1, 1), (2, 1), (3, 1)] 4 := by kernel_rfl
@[push_cast] theorem zero_69 : zeroOf P0 69 = some (.agg #[.pointer none, .slice none 0 0, .int .i64 0, .map none]) := by kernel_rfl
@[push_cast] theorem cells_69 : P0.cellsOf 69 = 4 := by kernel_rfl
@[push_cast] theorem bytes_69 : P0.bytesOf 69 = 48 := by kernel_rfl
@[push_cast] theorem sh_69 : shOf P0 40 69 = .ag [.leaf, .sl 43 3 (.ag [.leaf, .leaf, .leaf]), .leaf, .leaf] := by kernel_rfl
@[push_cast] theorem lay_73 : lay P0 73 = .st [(0, 1), (1, 1)] 2 := by kernel_rfl
@[push_cast] theorem zero_73 : zeroOf P0 73 = some (.agg #[.string ⟨#[]⟩, .string ⟨#[]⟩]) := by kernel_rfl
@[push_cast] theorem cells_73 : P0.cellsOf 73 = 2 := by kernel_rfl
@[push_cast] theorem bytes_73 : P0.bytesOf 73 = 32 := by kernel_rfl
@[push_cast] theorem sh_73 : shOf P0 40 73 = .ag [.leaf, .leaf] := by kernel_rfl
@[push_cast] theorem lay_88 : lay P0 88 = .st [(0, 1), (1, 1)] 2 := by kernel_rfl
@[push_cast] theorem zero_88 : zeroOf P0 88 = some (.agg #[.int .i64 0, .slice none 0 0]) := by kernel_rfl
@[push_cast] theorem cells_88 : P0.cellsOf 88 = 2 := by kernel_rfl
@[push_cast] theorem bytes_88 : P0.bytesOf 88 = 32 := by kernel_rfl
@[push_cast] theorem sh_88 : shOf P0 40 88 = .ag [.leaf, .sl 36 3 (.ag [.leaf, .leaf, .leaf])] := by kernel_rfl
@[push_cast] theorem lay_92 : lay P0 92 = .sli 5 1 := by kernel_rfl
@[push_cast] theorem zero_92 : zeroOf P0 92 = some (.slice none 0 0) := by kernel_rfl
@[push_cast] theorem cells_92 : P0.cellsOf 92 = 1 := by kernel_rfl
@[push_cast] theorem bytes_92 : P0.bytesOf 92 = 24 := by kernel_rfl
@[push_cast] theorem sh_92 : shOf P0 40 92 = .sl 5 1 .leaf := by kernel_rfl
@[push_cast] theorem lay_102 : lay P0 102 = .int .u64 := by kernel_rfl
@[push_cast] theorem und_102 : P0.underlying 102 = some (.int .u64) := by kernel_rfl
@[push_cast] theorem zero_102 : zeroOf P0 102 = some (.int .u64 0) := by kernel_rfl
@[push_cast] theorem cells_102 : P0.cellsOf 102 = 1 := by kernel_rfl
@[push_cast] theorem bytes_102 : P0.bytesOf 102 = 8 := by kernel_rfl
@[push_cast] theorem sh_102 : shOf P0 40 102 = .leaf := by kernel_rfl
@[push_cast] theorem lay_106 : lay P0 106 = .int .i64 := by kernel_rfl
@[push_cast] theorem und_106 : P0.underlying 106 = some (.int .i64) := by kernel_rfl
@[push_cast] theorem zero_106 : zeroOf P0 106 = some (.int .i64 0) := by kernel_rfl
@[push_cast] theorem cells_106 : P0.cellsOf 106 = 1 := by kernel_rfl
@[push_cast] theorem bytes_106 : P0.bytesOf 106 = 8 := by kernel_rfl
@[push_cast] theorem sh_106 : shOf P0 40 106 = .leaf := by kernel_rfl
@[push_cast] theorem lay_114 : lay P0 114 = .int .u32 := by kernel_rfl
@[push_cast] theorem und_114 : P0.underlying 114 = some (.int .u32) := by kernel_rfl
@[push_cast] theorem zero_114 : zeroOf P0 114 = some (.int .u32 0) := by kernel_rfl
@[push_cast] theorem cells_114 : P0.cellsOf 114 = 1 := by kernel_rfl
@[push_cast] theorem bytes_114 : P0.bytesOf 114 = 4 := by kernel_rfl
@[push_cast] theorem sh_114 : shOf P0 40 114 = .leaf := by kernel_rfl
@[push_cast] theorem lay_116 : lay P0 116 = .int .u64 := by kernel_rfl
@[push_cast] theorem und_116 : P0.underlying 116 = some (.int .u64) := by kernel_rfl
@[push_cast] theorem zero_116 : zeroOf P0 116 = some (.int .u64 0) := by kernel_rfl
@[push_cast] theorem cells_116 : P0.cellsOf 116 = 1 := by kernel_rfl
@[push_cast] theorem bytes_116 : P0.bytesOf 116 = 8 := by kernel_rfl
@[push_cast] theorem sh_116 : shOf P0 40 116 = .leaf := by kernel_rfl
@[push_cast] theorem lay_117 : lay P0 117 = .sli 3 1 := by kernel_rfl
@[push_cast] theorem zero_117 : zeroOf P0 117 = some (.slice none 0 0) := by kernel_rfl
@[push_cast] theorem cells_117 : P0.cellsOf 117 = 1 := by kernel_rfl
@[push_cast] theorem bytes_117 : P0.bytesOf 117 = 24 := by kernel_rfl
@[push_cast] theorem sh_117 : shOf P0 40 117 = .sl 3 1 .leaf := by kernel_rfl
@[push_cast] theorem lay_119 : lay P0 119 = .int .u64 := by kernel_rfl
@[push_cast] theorem und_119 : P0.underlying 119 = some (.int .u64) := by kernel_rfl
@[push_cast] theorem zero_119 : zeroOf P0 119 = some (.int .u64 0) := by kernel_rfl
@[push_cast] theorem cells_119 : P0.cellsOf 119 = 1 := by kernel_rfl
@[push_cast] theorem bytes_119 : P0.bytesOf 119 = 8 := by kernel_rfl
@[push_cast] theorem sh_119 : shOf P0 40 119 = .leaf := by kernel_rfl
@[push_cast] theorem key_73 : keyLay P0 73 = some (true, [.str, .str]) := by kernel_rfl
@[push_cast] theorem nt_2 : Try.f2.ntmps = 1 := rfl
@[push_cast] theorem nt_3 : Try.f3.ntmps = 67 := rfl
@[push_cast] theorem nt_4 : Try.f4.ntmps = 109 := rfl
@[push_cast] theorem nt_5 : Try.f5.ntmps = 119 := rfl
@[push_cast] theorem nt_6 : Try.f6.ntmps = 119 := rfl
@[push_cast] theorem nt_7 : Try.f7.ntmps = 101 := rfl
@[push_cast] theorem nt_8 : Try.f8.ntmps = 124 := rfl
@[push_cast] theorem nt_9 : Try.f9.ntmps = 12 := rfl
@[push_cast] theorem nt_10 : Try.f10.ntmps = 65 := rfl
@[push_cast] theorem nt_11 : Try.f11.ntmps = 9 := rfl
@[push_cast] theorem nt_12 : Try.f12.ntmps = 64 := rfl
@[push_cast] theorem nt_13 : Try.f13.ntmps = 11 := rfl
@[push_cast] theorem nt_14 : Try.f14.ntmps = 27 := rfl
@[push_cast] theorem nt_15 : Try.f15.ntmps = 27 := rfl
@[push_cast] theorem nt_16 : Try.f16.ntmps = 24 := rfl
@[push_cast] theorem nt_17 : Try.f17.ntmps = 23 := rfl
@[push_cast] theorem nt_18 : Try.f18.ntmps = 14 := rfl
@[push_cast] theorem nt_19 : Try.f19.ntmps = 15 := rfl
@[push_cast] theorem nt_20 : Try.f20.ntmps = 27 := rfl
@[push_cast] theorem nt_21 : Try.f21.ntmps = 37 := rfl
@[push_cast] theorem nt_22 : Try.f22.ntmps = 43 := rfl
@[push_cast] theorem nt_23 : Try.f23.ntmps = 24 := rfl
@[push_cast] theorem nt_24 : Try.f24.ntmps = 25 := rfl
@[push_cast] theorem nt_25 : Try.f25.ntmps = 18 := rfl
@[push_cast] theorem nt_26 : Try.f26.ntmps = 17 := rfl
@[push_cast] theorem nt_27 : Try.f27.ntmps = 24 := rfl
@[push_cast] theorem nt_28 : Try.f28.ntmps = 33 := rfl
@[push_cast] theorem nt_29 : Try.f29.ntmps = 10 := rfl
@[push_cast] theorem nt_30 : Try.f30.ntmps = 104 := rfl
@[push_cast] theorem nt_31 : Try.f31.ntmps = 114 := rfl
@[push_cast] theorem nt_32 : Try.f32.ntmps = 12 := rfl
@[push_cast] theorem nt_33 : Try.f33.ntmps = 27 := rfl
@[push_cast] theorem nt_34 : Try.f34.ntmps = 58 := rfl
@[push_cast] theorem nt_35 : Try.f35.ntmps = 19 := rfl
@[push_cast] theorem nt_36 : Try.f36.ntmps = 23 := rfl
@[push_cast] theorem nt_37 : Try.f37.ntmps = 104 := rfl
@[push_cast] theorem nt_38 : Try.f38.ntmps = 23 := rfl
@[push_cast] theorem nt_39 : Try.f39.ntmps = 27 := rfl
@[push_cast] theorem nt_40 : Try.f40.ntmps = 23 := rfl
@[push_cast] theorem nt_41 : Try.f41.ntmps = 62 := rfl
@[push_cast] theorem nt_42 : Try.f42.ntmps = 20 := rfl
@[push_cast] theorem nt_43 : Try.f43.ntmps = 20 := rfl
@[push_cast] theorem nt_44 : Try.f44.ntmps = 10 := rfl
@[push_cast] theorem nt_45 : Try.f45.ntmps = 22 := rfl
@[push_cast] theorem nt_46 : Try.f46.ntmps = 15 := rfl
@[push_cast] theorem nt_47 : Try.f47.ntmps = 10 := rfl
@[push_cast] theorem nt_48 : Try.f48.ntmps = 28 := rfl
@[push_cast] theorem nt_49 : Try.f49.ntmps = 26 := rfl
@[push_cast] theorem nt_50 : Try.f50.ntmps = 69 := rfl
@[push_cast] theorem nt_51 : Try.f51.ntmps = 61 := rfl
@[push_cast] theorem nt_52 : Try.f52.ntmps = 24 := rfl
@[push_cast] theorem nt_53 : Try.f53.ntmps = 27 := rfl
@[push_cast] theorem nt_54 : Try.f54.ntmps = 8 := rfl
@[push_cast] theorem nt_55 : Try.f55.ntmps = 26 := rfl
@[push_cast] theorem nt_56 : Try.f56.ntmps = 21 := rfl
@[push_cast] theorem nt_57 : Try.f57.ntmps = 8 := rfl
@[push_cast] theorem nt_58 : Try.f58.ntmps = 34 := rfl
@[push_cast] theorem nt_59 : Try.f59.ntmps = 31 := rfl
@[push_cast] theorem nt_60 : Try.f60.ntmps = 12 := rfl
@[push_cast] theorem nt_61 : Try.f61.ntmps = 17 := rfl
@[push_cast] theorem nt_62 : Try.f62.ntmps = 12 := rfl
@[push_cast] theorem nt_63 : Try.f63.ntmps = 9 := rfl
@[push_cast] theorem nt_64 : Try.f64.ntmps = 16 := rfl
@[push_cast] theorem nt_65 : Try.f65.ntmps = 21 := rfl
@[push_cast] theorem nt_66 : Try.f66.ntmps = 20 := rfl
@[push_cast] theorem nt_67 : Try.f67.ntmps = 21 := rfl
@[push_cast] theorem nt_68 : Try.f68.ntmps = 9 := rfl
@[push_cast] theorem nt_69 : Try.f69.ntmps = 6 := rfl
@[push_cast] theorem nt_70 : Try.f70.ntmps = 14 := rfl
@[push_cast] theorem nt_71 : Try.f71.ntmps = 17 := rfl
@[push_cast] theorem nt_72 : Try.f72.ntmps = 20 := rfl
@[push_cast] theorem nt_74 : Try.f74.ntmps = 19 := rfl
@[push_cast] theorem nt_75 : Try.f75.ntmps = 148 := rfl
@[push_cast] theorem nt_76 : Try.f76.ntmps = 8 := rfl
@[push_cast] theorem nt_77 : Try.f77.ntmps = 18 := rfl
@[push_cast] theorem nt_78 : Try.f78.ntmps = 20 := rfl
@[push_cast] theorem nt_79 : Try.f79.ntmps = 53 := rfl
@[push_cast] theorem nt_80 : Try.f80.ntmps = 60 := rfl
@[push_cast] theorem nt_81 : Try.f81.ntmps = 67 := rfl
@[push_cast] theorem nt_82 : Try.f82.ntmps = 63 := rfl
@[push_cast] theorem nt_83 : Try.f83.ntmps = 34 := rfl
@[push_cast] theorem nt_84 : Try.f84.ntmps = 141 := rfl
@[push_cast] theorem nt_85 : Try.f85.ntmps = 90 := rfl
@[push_cast] theorem nt_86 : Try.f86.ntmps = 178 := rfl
@[push_cast] theorem nt_87 : Try.f87.ntmps = 19 := rfl
@[push_cast] theorem nt_88 : Try.f88.ntmps = 25 := rfl
@[push_cast] theorem nt_89 : Try.f89.ntmps = 6 := rfl
@[push_cast] theorem nt_90 : Try.f90.ntmps = 82 := rfl
@[push_cast] theorem nt_91 : Try.f91.ntmps = 7 := rfl
@[push_cast] theorem nt_92 : Try.f92.ntmps = 33 := rfl
@[push_cast] theorem nt_93 : Try.f93.ntmps = 18 := rfl
@[push_cast] theorem nt_94 : Try.f94.ntmps = 41 := rfl
@[push_cast] theorem nt_95 : Try.f95.ntmps = 32 := rfl

end Go.Proofs.Ytgblonnnojdneaa.BX
