/-
  Facts of the loaded program: how its types lie. Written by a program (ey.py) out of Lean's own print.
-/
import Derived.Test.YtdlpmicjmclfnaaBxS
import Derived.Test.YtdlpmicjmclfnaaProg
import Derived.KernelRfl
namespace Go.Proofs.Ytdlpmicjmclfnaa.BX
set_option linter.unusedSectionVars false
set_option linter.unusedSimpArgs false
set_option linter.unusedVariables false
open Go Go.RowKit

noncomputable abbrev P0 : Program := Try.prog
theorem mixed : P0.follows .mixedOrders = true := by kernel_rfl
@[push_cast] theorem lay_3 : lay P0 3 = .int .i64 := by kernel_rfl
@[push_cast] theorem zero_3 : zeroOf P0 3 = some (.int .i64 0) := by kernel_rfl
@[push_cast] theorem cells_3 : P0.cellsOf 3 = 1 := by kernel_rfl
@[push_cast] theorem bytes_3 : P0.bytesOf 3 = 8 := by kernel_rfl
@[push_cast] theorem sh_3 : shOf P0 40 3 = .leaf := by kernel_rfl
@[push_cast] theorem lay_4 : lay P0 4 = .bool := by kernel_rfl
@[push_cast] theorem zero_4 : zeroOf P0 4 = some (.bool false) := by kernel_rfl
@[push_cast] theorem cells_4 : P0.cellsOf 4 = 1 := by kernel_rfl
@[push_cast] theorem bytes_4 : P0.bytesOf 4 = 1 := by kernel_rfl
@[push_cast] theorem sh_4 : shOf P0 40 4 = .leaf := by kernel_rfl
@[push_cast] theorem lay_9 : lay P0 9 = .str := by kernel_rfl
@[push_cast] theorem zero_9 : zeroOf P0 9 = some (.string ⟨#[]⟩) := by kernel_rfl
@[push_cast] theorem cells_9 : P0.cellsOf 9 = 1 := by kernel_rfl
@[push_cast] theorem bytes_9 : P0.bytesOf 9 = 16 := by kernel_rfl
@[push_cast] theorem sh_9 : shOf P0 40 9 = .leaf := by kernel_rfl
@[push_cast] theorem lay_23 : lay P0 23 = .sli 98 2 := by kernel_rfl
@[push_cast] theorem zero_23 : zeroOf P0 23 = some (.slice none 0 0) := by kernel_rfl
@[push_cast] theorem cells_23 : P0.cellsOf 23 = 1 := by kernel_rfl
@[push_cast] theorem bytes_23 : P0.bytesOf 23 = 24 := by kernel_rfl
@[push_cast] theorem sh_23 : shOf P0 40 23 = .sl 98 2 (.ag [.leaf, .leaf]) := by kernel_rfl
@[push_cast] theorem lay_24 : lay P0 24 = .sli 46 1 := by kernel_rfl
@[push_cast] theorem zero_24 : zeroOf P0 24 = some (.slice none 0 0) := by kernel_rfl
@[push_cast] theorem cells_24 : P0.cellsOf 24 = 1 := by kernel_rfl
@[push_cast] theorem bytes_24 : P0.bytesOf 24 = 24 := by kernel_rfl
@[push_cast] theorem sh_24 : shOf P0 40 24 = .sl 46 1 (.sl 3 1 .leaf) := by kernel_rfl
@[push_cast] theorem lay_26 : lay P0 26 = .st [(0, 1), (1, 1)] 2 := by kernel_rfl
@[push_cast] theorem zero_26 : zeroOf P0 26 = some (.agg #[.slice none 0 0, .slice none 0 0]) := by kernel_rfl
@[push_cast] theorem cells_26 : P0.cellsOf 26 = 2 := by kernel_rfl
@[push_cast] theorem bytes_26 : P0.bytesOf 26 = 48 := by kernel_rfl
@[push_cast] theorem sh_26 : shOf P0 40 26 = .ag [.sl 98 2 (.ag [.leaf, .leaf]), .sl 46 1 (.sl 3 1 .leaf)] := by kernel_rfl
@[push_cast] theorem lay_29 : lay P0 29 = .sli 67 2 := by kernel_rfl
@[push_cast] theorem zero_29 : zeroOf P0 29 = some (.slice none 0 0) := by kernel_rfl
@[push_cast] theorem cells_29 : P0.cellsOf 29 = 1 := by kernel_rfl
@[push_cast] theorem bytes_29 : P0.bytesOf 29 = 24 := by kernel_rfl
@[push_cast] theorem sh_29 : shOf P0 40 29 = .sl 67 2 (.ag [.leaf, .leaf]) := by kernel_rfl
@[push_cast] theorem lay_31 : lay P0 31 = .st [(0, 1), (1, 1)] 2 := by kernel_rfl
@[push_cast] theorem zero_31 : zeroOf P0 31 = some (.agg #[.slice none 0 0, .slice none 0 0]) := by kernel_rfl
@[push_cast] theorem cells_31 : P0.cellsOf 31 = 2 := by kernel_rfl
@[push_cast] theorem bytes_31 : P0.bytesOf 31 = 48 := by kernel_rfl
@[push_cast] theorem sh_31 : shOf P0 40 31 = .ag [.sl 67 2 (.ag [.leaf, .leaf]), .sl 46 1 (.sl 3 1 .leaf)] := by kernel_rfl
@[push_cast] theorem lay_35 : lay P0 35 = .sli 72 3 := by kernel_rfl
@[push_cast] theorem zero_35 : zeroOf P0 35 = some (.slice none 0 0) := by kernel_rfl
@[push_cast] theorem cells_35 : P0.cellsOf 35 = 1 := by kernel_rfl
@[push_cast] theorem bytes_35 : P0.bytesOf 35 = 24 := by kernel_rfl
@[push_cast] theorem sh_35 : shOf P0 40 35 = .sl 72 3 (.ag [.leaf, .leaf, .leaf]) := by kernel_rfl
@[push_cast] theorem lay_38 : lay P0 38 = .sli 73 3 := by kernel_rfl
@[push_cast] theorem zero_38 : zeroOf P0 38 = some (.slice none 0 0) := by kernel_rfl
@[push_cast] theorem cells_38 : P0.cellsOf 38 = 1 := by kernel_rfl
@[push_cast] theorem bytes_38 : P0.bytesOf 38 = 24 := by kernel_rfl
@[push_cast] theorem sh_38 : shOf P0 40 38 = .sl 73 3 (.ag [.leaf, .leaf, .leaf]) := by kernel_rfl
@[push_cast] theorem lay_46 : lay P0 46 = .sli 3 1 := by kernel_rfl
@[push_cast] theorem zero_46 : zeroOf P0 46 = some (.slice none 0 0) := by kernel_rfl
@[push_cast] theorem cells_46 : P0.cellsOf 46 = 1 := by kernel_rfl
@[push_cast] theorem bytes_46 : P0.bytesOf 46 = 24 := by kernel_rfl
@[push_cast] theorem sh_46 : shOf P0 40 46 = .sl 3 1 .leaf := by kernel_rfl
@[push_cast] theorem lay_54 : lay P0 54 = .sli 105 2 := by kernel_rfl
@[push_cast] theorem zero_54 : zeroOf P0 54 = some (.slice none 0 0) := by kernel_rfl
@[push_cast] theorem cells_54 : P0.cellsOf 54 = 1 := by kernel_rfl
@[push_cast] theorem bytes_54 : P0.bytesOf 54 = 24 := by kernel_rfl
@[push_cast] theorem sh_54 : shOf P0 40 54 = .sl 105 2 (.ag [.leaf, .sl 72 3 (.ag [.leaf, .leaf, .leaf])]) := by kernel_rfl
@[push_cast] theorem lay_56 : lay P0 56 = .st [(0, 1)] 1 := by kernel_rfl
@[push_cast] theorem zero_56 : zeroOf P0 56 = some (.agg #[.slice none 0 0]) := by kernel_rfl
@[push_cast] theorem cells_56 : P0.cellsOf 56 = 1 := by kernel_rfl
@[push_cast] theorem bytes_56 : P0.bytesOf 56 = 24 := by kernel_rfl
@[push_cast] theorem sh_56 : shOf P0 40 56 = .ag [.sl 105 2 (.ag [.leaf, .sl 72 3 (.ag [.leaf, .leaf, .leaf])])] := by kernel_rfl
@[push_cast] theorem lay_59 : lay P0 59 = .sli 89 2 := by kernel_rfl
@[push_cast] theorem zero_59 : zeroOf P0 59 = some (.slice none 0 0) := by kernel_rfl
@[push_cast] theorem cells_59 : P0.cellsOf 59 = 1 := by kernel_rfl
@[push_cast] theorem bytes_59 : P0.bytesOf 59 = 24 := by kernel_rfl
@[push_cast] theorem sh_59 : shOf P0 40 59 = .sl 89 2 (.ag [.leaf, .sl 73 3 (.ag [.leaf, .leaf, .leaf])]) := by kernel_rfl
@[push_cast] theorem lay_61 : lay P0 61 = .st [(0, 1)] 1 := by kernel_rfl
@[push_cast] theorem zero_61 : zeroOf P0 61 = some (.agg #[.slice none 0 0]) := by kernel_rfl
@[push_cast] theorem cells_61 : P0.cellsOf 61 = 1 := by kernel_rfl
@[push_cast] theorem bytes_61 : P0.bytesOf 61 = 24 := by kernel_rfl
@[push_cast] theorem sh_61 : shOf P0 40 61 = .ag [.sl 89 2 (.ag [.leaf, .sl 73 3 (.ag [.leaf, .leaf, .leaf])])] := by kernel_rfl
@[push_cast] theorem lay_67 : lay P0 67 = .st [(0, 1), (1, 1)] 2 := by kernel_rfl
@[push_cast] theorem zero_67 : zeroOf P0 67 = some (.agg #[.int .i64 0, .int .i64 0]) := by kernel_rfl
@[push_cast] theorem cells_67 : P0.cellsOf 67 = 2 := by kernel_rfl
@[push_cast] theorem bytes_67 : P0.bytesOf 67 = 16 := by kernel_rfl
@[push_cast] theorem sh_67 : shOf P0 40 67 = .ag [.leaf, .leaf] := by kernel_rfl
@[push_cast] theorem lay_72 : lay P0 72 = .st [(0, 1), (1, 1), (2, 1)] 3 := by kernel_rfl
@[push_cast] theorem zero_72 : zeroOf P0 72 = some (.agg #[.string ⟨#[]⟩, .string ⟨#[]⟩, .string ⟨#[]⟩]) := by kernel_rfl
@[push_cast] theorem cells_72 : P0.cellsOf 72 = 3 := by kernel_rfl
@[push_cast] theorem bytes_72 : P0.bytesOf 72 = 48 := by kernel_rfl
@[push_cast] theorem sh_72 : shOf P0 40 72 = .ag [.leaf, .leaf, .leaf] := by kernel_rfl
@[push_cast] theorem lay_73 : lay P0 73 = .st [(0, 1), (1, 1), (2, 1)] 3 := by kernel_rfl
@[push_cast] theorem zero_73 : zeroOf P0 73 = some (.agg #[.string ⟨#[]⟩, .string ⟨#[]⟩, .string ⟨#[]⟩]) := by kernel_rfl
@[push_cast] theorem cells_73 : P0.cellsOf 73 = 3 := by kernel_rfl
@[push_cast] theorem bytes_73 : P0.bytesOf 73 = 48 := by kernel_rfl
@[push_cast] theorem sh_73 : shOf P0 40 73 = .ag [.leaf, .leaf, .leaf] := by kernel_rfl
@[push_cast] theorem lay_80 : lay P0 80 = .map 83 9 := by kernel_rfl
@[push_cast] theorem zero_80 : zeroOf P0 80 = some (.map none) := by kernel_rfl
@[push_cast] theorem cells_80 : P0.cellsOf 80 = 1 := by kernel_rfl
@[push_cast] theorem bytes_80 : P0.bytesOf 80 = 8 := by kernel_rfl
@[push_cast] theorem lay_83 : lay P0 83 = .st [(0, 1), (1, 1)] 2 := by kernel_rfl
@[push_cast] theorem zero_83 : zeroOf P0 83 = some (.agg #[.string ⟨#[]⟩, .string ⟨#[]⟩]) := by kernel_rfl
@[push_cast] theorem cells_83 : P0.cellsOf 83 = 2 := by kernel_rfl
@[push_cast] theorem bytes_83 : P0.bytesOf 83 = 32 := by kernel_rfl
@[push_cast] theorem sh_83 : shOf P0 40 83 = .ag [.leaf, .leaf] := by kernel_rfl
@[push_cast] theorem lay_89 : lay P0 89 = .st [(0, 1), (1, 1)] 2 := by kernel_rfl
@[push_cast] theorem zero_89 : zeroOf P0 89 = some (.agg #[.int .i64 0, .slice none 0 0]) := by kernel_rfl
@[push_cast] theorem cells_89 : P0.cellsOf 89 = 2 := by kernel_rfl
@[push_cast] theorem bytes_89 : P0.bytesOf 89 = 32 := by kernel_rfl
@[push_cast] theorem sh_89 : shOf P0 40 89 = .ag [.leaf, .sl 73 3 (.ag [.leaf, .leaf, .leaf])] := by kernel_rfl
@[push_cast] theorem lay_93 : lay P0 93 = .sli 109 1 := by kernel_rfl
@[push_cast] theorem zero_93 : zeroOf P0 93 = some (.slice none 0 0) := by kernel_rfl
@[push_cast] theorem cells_93 : P0.cellsOf 93 = 1 := by kernel_rfl
@[push_cast] theorem bytes_93 : P0.bytesOf 93 = 24 := by kernel_rfl
@[push_cast] theorem sh_93 : shOf P0 40 93 = .sl 109 1 .leaf := by kernel_rfl
@[push_cast] theorem lay_98 : lay P0 98 = .st [(0, 1), (1, 1)] 2 := by kernel_rfl
@[push_cast] theorem zero_98 : zeroOf P0 98 = some (.agg #[.int .i64 0, .int .i64 0]) := by kernel_rfl
@[push_cast] theorem cells_98 : P0.cellsOf 98 = 2 := by kernel_rfl
@[push_cast] theorem bytes_98 : P0.bytesOf 98 = 16 := by kernel_rfl
@[push_cast] theorem sh_98 : shOf P0 40 98 = .ag [.leaf, .leaf] := by kernel_rfl
@[push_cast] theorem lay_105 : lay P0 105 = .st [(0, 1), (1, 1)] 2 := by kernel_rfl
@[push_cast] theorem zero_105 : zeroOf P0 105 = some (.agg #[.int .i64 0, .slice none 0 0]) := by kernel_rfl
@[push_cast] theorem cells_105 : P0.cellsOf 105 = 2 := by kernel_rfl
@[push_cast] theorem bytes_105 : P0.bytesOf 105 = 32 := by kernel_rfl
@[push_cast] theorem sh_105 : shOf P0 40 105 = .ag [.leaf, .sl 72 3 (.ag [.leaf, .leaf, .leaf])] := by kernel_rfl
@[push_cast] theorem lay_109 : lay P0 109 = .ptr := by kernel_rfl
@[push_cast] theorem zero_109 : zeroOf P0 109 = some (.pointer none) := by kernel_rfl
@[push_cast] theorem cells_109 : P0.cellsOf 109 = 1 := by kernel_rfl
@[push_cast] theorem bytes_109 : P0.bytesOf 109 = 8 := by kernel_rfl
@[push_cast] theorem sh_109 : shOf P0 40 109 = .leaf := by kernel_rfl
@[push_cast] theorem lay_111 : lay P0 111 = .st [(0, 1), (1, 1), (2, 1), (3, 1)] 4 := by kernel_rfl
@[push_cast] theorem zero_111 : zeroOf P0 111 = some (.agg #[.pointer none, .slice none 0 0, .int .i64 0, .map none]) := by kernel_rfl
@[push_cast] theorem cells_111 : P0.cellsOf 111 = 4 := by kernel_rfl
@[push_cast] theorem bytes_111 : P0.bytesOf 111 = 48 := by kernel_rfl
@[push_cast] theorem sh_111 : shOf P0 40 111 = .ag [.leaf, .sl 73 3 (.ag [.leaf, .leaf, .leaf]), .leaf, .leaf] := by kernel_rfl
@[push_cast] theorem key_83 : keyLay P0 83 = some (true, [.str, .str]) := by kernel_rfl
@[push_cast] theorem nt_2 : Try.f2.ntmps = 1 := rfl
@[push_cast] theorem nt_3 : Try.f3.ntmps = 1 := rfl
@[push_cast] theorem nt_4 : Try.f4.ntmps = 35 := rfl
@[push_cast] theorem nt_5 : Try.f5.ntmps = 27 := rfl
@[push_cast] theorem nt_6 : Try.f6.ntmps = 54 := rfl
@[push_cast] theorem nt_7 : Try.f7.ntmps = 92 := rfl
@[push_cast] theorem nt_8 : Try.f8.ntmps = 27 := rfl
@[push_cast] theorem nt_9 : Try.f9.ntmps = 18 := rfl
@[push_cast] theorem nt_10 : Try.f10.ntmps = 66 := rfl
@[push_cast] theorem nt_11 : Try.f11.ntmps = 13 := rfl
@[push_cast] theorem nt_12 : Try.f12.ntmps = 66 := rfl
@[push_cast] theorem nt_13 : Try.f13.ntmps = 17 := rfl
@[push_cast] theorem nt_14 : Try.f14.ntmps = 27 := rfl
@[push_cast] theorem nt_15 : Try.f15.ntmps = 23 := rfl
@[push_cast] theorem nt_16 : Try.f16.ntmps = 23 := rfl
@[push_cast] theorem nt_17 : Try.f17.ntmps = 15 := rfl
@[push_cast] theorem nt_18 : Try.f18.ntmps = 27 := rfl
@[push_cast] theorem nt_19 : Try.f19.ntmps = 19 := rfl
@[push_cast] theorem nt_20 : Try.f20.ntmps = 24 := rfl
@[push_cast] theorem nt_21 : Try.f21.ntmps = 27 := rfl
@[push_cast] theorem nt_22 : Try.f22.ntmps = 45 := rfl
@[push_cast] theorem nt_23 : Try.f23.ntmps = 23 := rfl
@[push_cast] theorem nt_24 : Try.f24.ntmps = 53 := rfl
@[push_cast] theorem nt_25 : Try.f25.ntmps = 26 := rfl
@[push_cast] theorem nt_26 : Try.f26.ntmps = 27 := rfl
@[push_cast] theorem nt_27 : Try.f27.ntmps = 14 := rfl
@[push_cast] theorem nt_28 : Try.f28.ntmps = 19 := rfl
@[push_cast] theorem nt_29 : Try.f29.ntmps = 19 := rfl
@[push_cast] theorem nt_30 : Try.f30.ntmps = 21 := rfl
@[push_cast] theorem nt_31 : Try.f31.ntmps = 12 := rfl
@[push_cast] theorem nt_32 : Try.f32.ntmps = 58 := rfl
@[push_cast] theorem nt_33 : Try.f33.ntmps = 9 := rfl
@[push_cast] theorem nt_34 : Try.f34.ntmps = 11 := rfl
@[push_cast] theorem nt_35 : Try.f35.ntmps = 11 := rfl
@[push_cast] theorem nt_36 : Try.f36.ntmps = 12 := rfl
@[push_cast] theorem nt_37 : Try.f37.ntmps = 23 := rfl
@[push_cast] theorem nt_38 : Try.f38.ntmps = 27 := rfl
@[push_cast] theorem nt_39 : Try.f39.ntmps = 27 := rfl
@[push_cast] theorem nt_40 : Try.f40.ntmps = 21 := rfl
@[push_cast] theorem nt_41 : Try.f41.ntmps = 14 := rfl
@[push_cast] theorem nt_42 : Try.f42.ntmps = 21 := rfl
@[push_cast] theorem nt_43 : Try.f43.ntmps = 9 := rfl
@[push_cast] theorem nt_44 : Try.f44.ntmps = 6 := rfl
@[push_cast] theorem nt_45 : Try.f45.ntmps = 20 := rfl
@[push_cast] theorem nt_46 : Try.f46.ntmps = 20 := rfl
@[push_cast] theorem nt_47 : Try.f47.ntmps = 23 := rfl
@[push_cast] theorem nt_48 : Try.f48.ntmps = 12 := rfl
@[push_cast] theorem nt_49 : Try.f49.ntmps = 21 := rfl
@[push_cast] theorem nt_50 : Try.f50.ntmps = 22 := rfl
@[push_cast] theorem nt_51 : Try.f51.ntmps = 27 := rfl
@[push_cast] theorem nt_52 : Try.f52.ntmps = 27 := rfl
@[push_cast] theorem nt_53 : Try.f53.ntmps = 10 := rfl
@[push_cast] theorem nt_54 : Try.f54.ntmps = 21 := rfl
@[push_cast] theorem nt_55 : Try.f55.ntmps = 24 := rfl
@[push_cast] theorem nt_56 : Try.f56.ntmps = 23 := rfl
@[push_cast] theorem nt_57 : Try.f57.ntmps = 104 := rfl
@[push_cast] theorem nt_58 : Try.f58.ntmps = 27 := rfl
@[push_cast] theorem nt_59 : Try.f59.ntmps = 11 := rfl
@[push_cast] theorem nt_60 : Try.f60.ntmps = 15 := rfl
@[push_cast] theorem nt_61 : Try.f61.ntmps = 20 := rfl
@[push_cast] theorem nt_62 : Try.f62.ntmps = 17 := rfl
@[push_cast] theorem nt_63 : Try.f63.ntmps = 19 := rfl
@[push_cast] theorem nt_64 : Try.f64.ntmps = 19 := rfl
@[push_cast] theorem nt_65 : Try.f65.ntmps = 12 := rfl
@[push_cast] theorem nt_66 : Try.f66.ntmps = 8 := rfl
@[push_cast] theorem nt_67 : Try.f67.ntmps = 22 := rfl
@[push_cast] theorem nt_68 : Try.f68.ntmps = 12 := rfl
@[push_cast] theorem nt_69 : Try.f69.ntmps = 10 := rfl
@[push_cast] theorem nt_70 : Try.f70.ntmps = 9 := rfl
@[push_cast] theorem nt_71 : Try.f71.ntmps = 28 := rfl
@[push_cast] theorem nt_72 : Try.f72.ntmps = 16 := rfl
@[push_cast] theorem nt_73 : Try.f73.ntmps = 18 := rfl
@[push_cast] theorem nt_74 : Try.f74.ntmps = 20 := rfl
@[push_cast] theorem nt_75 : Try.f75.ntmps = 17 := rfl
@[push_cast] theorem nt_76 : Try.f76.ntmps = 62 := rfl
@[push_cast] theorem nt_78 : Try.f78.ntmps = 6 := rfl

end Go.Proofs.Ytdlpmicjmclfnaa.BX
