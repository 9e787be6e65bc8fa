/-
  Facts of the loaded program: how its types lie. Written by a program (ey.py) out of Lean's own print.
-/
import Derived.Test.YtkgoglapagmapaaBxS
import Derived.Test.YtkgoglapagmapaaProg
import Derived.KernelRfl
namespace Go.Proofs.Ytkgoglapagmapaa.BX
set_option linter.unusedSectionVars false
set_option linter.unusedSimpArgs false
set_option linter.unusedVariables false
open Go Go.RowKit

noncomputable abbrev P0 : Program := Try.prog
theorem mixed : P0.follows .mixedOrders = true := by kernel_rfl
@[push_cast] theorem lay_3 : lay P0 3 = .int .i64 := by kernel_rfl
@[push_cast] theorem und_3 : P0.underlying 3 = some (.int .i64) := by kernel_rfl
@[push_cast] theorem zero_3 : zeroOf P0 3 = some (.int .i64 0) := by kernel_rfl
@[push_cast] theorem cells_3 : P0.cellsOf 3 = 1 := by kernel_rfl
@[push_cast] theorem bytes_3 : P0.bytesOf 3 = 8 := by kernel_rfl
@[push_cast] theorem sh_3 : shOf P0 40 3 = .leaf := by kernel_rfl
@[push_cast] theorem lay_4 : lay P0 4 = .bool := by kernel_rfl
@[push_cast] theorem zero_4 : zeroOf P0 4 = some (.bool false) := by kernel_rfl
@[push_cast] theorem cells_4 : P0.cellsOf 4 = 1 := by kernel_rfl
@[push_cast] theorem bytes_4 : P0.bytesOf 4 = 1 := by kernel_rfl
@[push_cast] theorem sh_4 : shOf P0 40 4 = .leaf := by kernel_rfl
@[push_cast] theorem lay_5 : lay P0 5 = .int .u8 := by kernel_rfl
@[push_cast] theorem und_5 : P0.underlying 5 = some (.int .u8) := by kernel_rfl
@[push_cast] theorem zero_5 : zeroOf P0 5 = some (.int .u8 0) := by kernel_rfl
@[push_cast] theorem cells_5 : P0.cellsOf 5 = 1 := by kernel_rfl
@[push_cast] theorem bytes_5 : P0.bytesOf 5 = 1 := by kernel_rfl
@[push_cast] theorem sh_5 : shOf P0 40 5 = .leaf := by kernel_rfl
@[push_cast] theorem lay_9 : lay P0 9 = .str := by kernel_rfl
@[push_cast] theorem zero_9 : zeroOf P0 9 = some (.string ⟨#[]⟩) := by kernel_rfl
@[push_cast] theorem cells_9 : P0.cellsOf 9 = 1 := by kernel_rfl
@[push_cast] theorem bytes_9 : P0.bytesOf 9 = 16 := by kernel_rfl
@[push_cast] theorem sh_9 : shOf P0 40 9 = .leaf := by kernel_rfl
@[push_cast] theorem lay_22 : lay P0 22 = .sli 9 1 := by kernel_rfl
@[push_cast] theorem zero_22 : zeroOf P0 22 = some (.slice none 0 0) := by kernel_rfl
@[push_cast] theorem cells_22 : P0.cellsOf 22 = 1 := by kernel_rfl
@[push_cast] theorem bytes_22 : P0.bytesOf 22 = 24 := by kernel_rfl
@[push_cast] theorem sh_22 : shOf P0 40 22 = .sl 9 1 .leaf := by kernel_rfl
@[push_cast] theorem lay_23 : lay P0 23 = .sli 149 2 := by kernel_rfl
@[push_cast] theorem zero_23 : zeroOf P0 23 = some (.slice none 0 0) := by kernel_rfl
@[push_cast] theorem cells_23 : P0.cellsOf 23 = 1 := by kernel_rfl
@[push_cast] theorem bytes_23 : P0.bytesOf 23 = 24 := by kernel_rfl
@[push_cast] theorem sh_23 : shOf P0 40 23 = .sl 149 2 (.ag [.leaf, .leaf]) := by kernel_rfl
@[push_cast] theorem lay_25 : lay P0 25 = .st [(0, 1), (1, 1), (2, 1), (3, 1), (4, 1), (5, 1), (6, 1), (7, 1), (8, 1), (9, 1)] 10 := by kernel_rfl
@[push_cast] theorem zero_25 : zeroOf P0 25 = some (.agg #[.string ⟨#[]⟩, .string ⟨#[]⟩, .string ⟨#[]⟩, .bool false, .string ⟨#[]⟩, .int .i64 0, .slice none 0 0, .slice none 0 0, .string ⟨#[]⟩, .slice none 0 0]) := by kernel_rfl
@[push_cast] theorem cells_25 : P0.cellsOf 25 = 10 := by kernel_rfl
@[push_cast] theorem bytes_25 : P0.bytesOf 25 = 168 := by kernel_rfl
@[push_cast] theorem sh_25 : shOf P0 40 25 = .ag [.leaf, .leaf, .leaf, .leaf, .leaf, .leaf, .sl 9 1 .leaf, .sl 9 1 .leaf, .leaf, .sl 149 2 (.ag [.leaf, .leaf])] := by kernel_rfl
@[push_cast] theorem lay_28 : lay P0 28 = .sli 152 2 := by kernel_rfl
@[push_cast] theorem zero_28 : zeroOf P0 28 = some (.slice none 0 0) := by kernel_rfl
@[push_cast] theorem cells_28 : P0.cellsOf 28 = 1 := by kernel_rfl
@[push_cast] theorem bytes_28 : P0.bytesOf 28 = 24 := by kernel_rfl
@[push_cast] theorem sh_28 : shOf P0 40 28 = .sl 152 2 (.ag [.leaf, .leaf]) := by kernel_rfl
@[push_cast] theorem lay_30 : lay P0 30 = .st [(0, 1), (1, 1), (2, 1), (3, 1), (4, 1), (5, 1), (6, 1), (7, 1), (8, 1), (9, 1)] 10 := by kernel_rfl
@[push_cast] theorem zero_30 : zeroOf P0 30 = some (.agg #[.string ⟨#[]⟩, .string ⟨#[]⟩, .string ⟨#[]⟩, .bool false, .string ⟨#[]⟩, .int .i64 0, .slice none 0 0, .slice none 0 0, .string ⟨#[]⟩, .slice none 0 0]) := by kernel_rfl
@[push_cast] theorem cells_30 : P0.cellsOf 30 = 10 := by kernel_rfl
@[push_cast] theorem bytes_30 : P0.bytesOf 30 = 168 := by kernel_rfl
@[push_cast] theorem sh_30 : shOf P0 40 30 = .ag [.leaf, .leaf, .leaf, .leaf, .leaf, .leaf, .sl 9 1 .leaf, .sl 9 1 .leaf, .leaf, .sl 152 2 (.ag [.leaf, .leaf])] := by kernel_rfl
@[push_cast] theorem lay_34 : lay P0 34 = .sli 25 10 := by kernel_rfl
@[push_cast] theorem zero_34 : zeroOf P0 34 = some (.slice none 0 0) := by kernel_rfl
@[push_cast] theorem cells_34 : P0.cellsOf 34 = 1 := by kernel_rfl
@[push_cast] theorem bytes_34 : P0.bytesOf 34 = 24 := by kernel_rfl
@[push_cast] theorem sh_34 : shOf P0 40 34 = .sl 25 10 (.ag [.leaf, .leaf, .leaf, .leaf, .leaf, .leaf, .sl 9 1 .leaf, .sl 9 1 .leaf, .leaf, .sl 149 2 (.ag [.leaf, .leaf])]) := by kernel_rfl
@[push_cast] theorem lay_36 : lay P0 36 = .st [(0, 1)] 1 := by kernel_rfl
@[push_cast] theorem zero_36 : zeroOf P0 36 = some (.agg #[.slice none 0 0]) := by kernel_rfl
@[push_cast] theorem cells_36 : P0.cellsOf 36 = 1 := by kernel_rfl
@[push_cast] theorem bytes_36 : P0.bytesOf 36 = 24 := by kernel_rfl
@[push_cast] theorem sh_36 : shOf P0 40 36 = .ag [.sl 25 10 (.ag [.leaf, .leaf, .leaf, .leaf, .leaf, .leaf, .sl 9 1 .leaf, .sl 9 1 .leaf, .leaf, .sl 149 2 (.ag [.leaf, .leaf])])] := by kernel_rfl
@[push_cast] theorem lay_39 : lay P0 39 = .sli 30 10 := by kernel_rfl
@[push_cast] theorem zero_39 : zeroOf P0 39 = some (.slice none 0 0) := by kernel_rfl
@[push_cast] theorem cells_39 : P0.cellsOf 39 = 1 := by kernel_rfl
@[push_cast] theorem bytes_39 : P0.bytesOf 39 = 24 := by kernel_rfl
@[push_cast] theorem sh_39 : shOf P0 40 39 = .sl 30 10 (.ag [.leaf, .leaf, .leaf, .leaf, .leaf, .leaf, .sl 9 1 .leaf, .sl 9 1 .leaf, .leaf, .sl 152 2 (.ag [.leaf, .leaf])]) := by kernel_rfl
@[push_cast] theorem lay_41 : lay P0 41 = .st [(0, 1)] 1 := by kernel_rfl
@[push_cast] theorem zero_41 : zeroOf P0 41 = some (.agg #[.slice none 0 0]) := by kernel_rfl
@[push_cast] theorem cells_41 : P0.cellsOf 41 = 1 := by kernel_rfl
@[push_cast] theorem bytes_41 : P0.bytesOf 41 = 24 := by kernel_rfl
@[push_cast] theorem sh_41 : shOf P0 40 41 = .ag [.sl 30 10 (.ag [.leaf, .leaf, .leaf, .leaf, .leaf, .leaf, .sl 9 1 .leaf, .sl 9 1 .leaf, .leaf, .sl 152 2 (.ag [.leaf, .leaf])])] := by kernel_rfl
@[push_cast] theorem lay_57 : lay P0 57 = .sli 113 2 := by kernel_rfl
@[push_cast] theorem zero_57 : zeroOf P0 57 = some (.slice none 0 0) := by kernel_rfl
@[push_cast] theorem cells_57 : P0.cellsOf 57 = 1 := by kernel_rfl
@[push_cast] theorem bytes_57 : P0.bytesOf 57 = 24 := by kernel_rfl
@[push_cast] theorem sh_57 : shOf P0 40 57 = .sl 113 2 (.ag [.leaf, .leaf]) := by kernel_rfl
@[push_cast] theorem lay_58 : lay P0 58 = .sli 116 1 := by kernel_rfl
@[push_cast] theorem zero_58 : zeroOf P0 58 = some (.slice none 0 0) := by kernel_rfl
@[push_cast] theorem cells_58 : P0.cellsOf 58 = 1 := by kernel_rfl
@[push_cast] theorem bytes_58 : P0.bytesOf 58 = 24 := by kernel_rfl
@[push_cast] theorem sh_58 : shOf P0 40 58 = .sl 116 1 (.sl 3 1 .leaf) := by kernel_rfl
@[push_cast] theorem lay_60 : lay P0 60 = .st [(0, 1), (1, 1)] 2 := by kernel_rfl
@[push_cast] theorem zero_60 : zeroOf P0 60 = some (.agg #[.slice none 0 0, .slice none 0 0]) := by kernel_rfl
@[push_cast] theorem cells_60 : P0.cellsOf 60 = 2 := by kernel_rfl
@[push_cast] theorem bytes_60 : P0.bytesOf 60 = 48 := by kernel_rfl
@[push_cast] theorem sh_60 : shOf P0 40 60 = .ag [.sl 113 2 (.ag [.leaf, .leaf]), .sl 116 1 (.sl 3 1 .leaf)] := by kernel_rfl
@[push_cast] theorem lay_65 : lay P0 65 = .sli 123 2 := by kernel_rfl
@[push_cast] theorem zero_65 : zeroOf P0 65 = some (.slice none 0 0) := by kernel_rfl
@[push_cast] theorem cells_65 : P0.cellsOf 65 = 1 := by kernel_rfl
@[push_cast] theorem bytes_65 : P0.bytesOf 65 = 24 := by kernel_rfl
@[push_cast] theorem sh_65 : shOf P0 40 65 = .sl 123 2 (.ag [.leaf, .leaf]) := by kernel_rfl
@[push_cast] theorem lay_69 : lay P0 69 = .sli 132 3 := by kernel_rfl
@[push_cast] theorem zero_69 : zeroOf P0 69 = some (.slice none 0 0) := by kernel_rfl
@[push_cast] theorem cells_69 : P0.cellsOf 69 = 1 := by kernel_rfl
@[push_cast] theorem bytes_69 : P0.bytesOf 69 = 24 := by kernel_rfl
@[push_cast] theorem sh_69 : shOf P0 40 69 = .sl 132 3 (.ag [.leaf, .leaf, .leaf]) := by kernel_rfl
@[push_cast] theorem lay_72 : lay P0 72 = .sli 134 3 := by kernel_rfl
@[push_cast] theorem zero_72 : zeroOf P0 72 = some (.slice none 0 0) := by kernel_rfl
@[push_cast] theorem cells_72 : P0.cellsOf 72 = 1 := by kernel_rfl
@[push_cast] theorem bytes_72 : P0.bytesOf 72 = 24 := by kernel_rfl
@[push_cast] theorem sh_72 : shOf P0 40 72 = .sl 134 3 (.ag [.leaf, .leaf, .leaf]) := by kernel_rfl
@[push_cast] theorem lay_92 : lay P0 92 = .ptr := by kernel_rfl
@[push_cast] theorem zero_92 : zeroOf P0 92 = some (.pointer none) := by kernel_rfl
@[push_cast] theorem cells_92 : P0.cellsOf 92 = 1 := by kernel_rfl
@[push_cast] theorem bytes_92 : P0.bytesOf 92 = 8 := by kernel_rfl
@[push_cast] theorem sh_92 : shOf P0 40 92 = .leaf := by kernel_rfl
@[push_cast] theorem lay_101 : lay P0 101 = .sli 4 1 := by kernel_rfl
@[push_cast] theorem zero_101 : zeroOf P0 101 = some (.slice none 0 0) := by kernel_rfl
@[push_cast] theorem cells_101 : P0.cellsOf 101 = 1 := by kernel_rfl
@[push_cast] theorem bytes_101 : P0.bytesOf 101 = 24 := by kernel_rfl
@[push_cast] theorem sh_101 : shOf P0 40 101 = .sl 4 1 .leaf := by kernel_rfl
@[push_cast] theorem lay_102 : lay P0 102 = .map 9 3 := by kernel_rfl
@[push_cast] theorem zero_102 : zeroOf P0 102 = some (.map none) := by kernel_rfl
@[push_cast] theorem cells_102 : P0.cellsOf 102 = 1 := by kernel_rfl
@[push_cast] theorem bytes_102 : P0.bytesOf 102 = 8 := by kernel_rfl
@[push_cast] theorem lay_104 : lay P0 104 = .st [(0, 1), (1, 1)] 2 := by kernel_rfl
@[push_cast] theorem zero_104 : zeroOf P0 104 = some (.agg #[.slice none 0 0, .map none]) := by kernel_rfl
@[push_cast] theorem cells_104 : P0.cellsOf 104 = 2 := by kernel_rfl
@[push_cast] theorem bytes_104 : P0.bytesOf 104 = 32 := by kernel_rfl
@[push_cast] theorem sh_104 : shOf P0 40 104 = .ag [.sl 30 10 (.ag [.leaf, .leaf, .leaf, .leaf, .leaf, .leaf, .sl 9 1 .leaf, .sl 9 1 .leaf, .leaf, .sl 152 2 (.ag [.leaf, .leaf])]), .leaf] := by kernel_rfl
@[push_cast] theorem lay_113 : lay P0 113 = .st [(0, 1), (1, 1)] 2 := by kernel_rfl
@[push_cast] theorem zero_113 : zeroOf P0 113 = some (.agg #[.int .i64 0, .int .i64 0]) := by kernel_rfl
@[push_cast] theorem cells_113 : P0.cellsOf 113 = 2 := by kernel_rfl
@[push_cast] theorem bytes_113 : P0.bytesOf 113 = 16 := by kernel_rfl
@[push_cast] theorem sh_113 : shOf P0 40 113 = .ag [.leaf, .leaf] := by kernel_rfl
@[push_cast] theorem lay_116 : lay P0 116 = .sli 3 1 := by kernel_rfl
@[push_cast] theorem zero_116 : zeroOf P0 116 = some (.slice none 0 0) := by kernel_rfl
@[push_cast] theorem cells_116 : P0.cellsOf 116 = 1 := by kernel_rfl
@[push_cast] theorem bytes_116 : P0.bytesOf 116 = 24 := by kernel_rfl
@[push_cast] theorem sh_116 : shOf P0 40 116 = .sl 3 1 .leaf := by kernel_rfl
@[push_cast] theorem lay_123 : lay P0 123 = .st [(0, 1), (1, 1)] 2 := by kernel_rfl
@[push_cast] theorem zero_123 : zeroOf P0 123 = some (.agg #[.string ⟨#[]⟩, .string ⟨#[]⟩]) := by kernel_rfl
@[push_cast] theorem cells_123 : P0.cellsOf 123 = 2 := by kernel_rfl
@[push_cast] theorem bytes_123 : P0.bytesOf 123 = 32 := by kernel_rfl
@[push_cast] theorem sh_123 : shOf P0 40 123 = .ag [.leaf, .leaf] := by kernel_rfl
@[push_cast] theorem lay_132 : lay P0 132 = .st [(0, 1), (1, 1), (2, 1)] 3 := by kernel_rfl
@[push_cast] theorem zero_132 : zeroOf P0 132 = some (.agg #[.string ⟨#[]⟩, .string ⟨#[]⟩, .string ⟨#[]⟩]) := by kernel_rfl
@[push_cast] theorem cells_132 : P0.cellsOf 132 = 3 := by kernel_rfl
@[push_cast] theorem bytes_132 : P0.bytesOf 132 = 48 := by kernel_rfl
@[push_cast] theorem sh_132 : shOf P0 40 132 = .ag [.leaf, .leaf, .leaf] := by kernel_rfl
@[push_cast] theorem lay_134 : lay P0 134 = .st [(0, 1), (1, 1), (2, 1)] 3 := by kernel_rfl
@[push_cast] theorem zero_134 : zeroOf P0 134 = some (.agg #[.string ⟨#[]⟩, .string ⟨#[]⟩, .string ⟨#[]⟩]) := by kernel_rfl
@[push_cast] theorem cells_134 : P0.cellsOf 134 = 3 := by kernel_rfl
@[push_cast] theorem bytes_134 : P0.bytesOf 134 = 48 := by kernel_rfl
@[push_cast] theorem sh_134 : shOf P0 40 134 = .ag [.leaf, .leaf, .leaf] := by kernel_rfl
@[push_cast] theorem lay_138 : lay P0 138 = .map 181 9 := by kernel_rfl
@[push_cast] theorem zero_138 : zeroOf P0 138 = some (.map none) := by kernel_rfl
@[push_cast] theorem cells_138 : P0.cellsOf 138 = 1 := by kernel_rfl
@[push_cast] theorem bytes_138 : P0.bytesOf 138 = 8 := by kernel_rfl
@[push_cast] theorem lay_141 : lay P0 141 = .st [(0, 1), (1, 1), (2, 10)] 12 := by kernel_rfl
@[push_cast] theorem zero_141 : zeroOf P0 141 = some (.agg #[.pointer none, .map none, .string ⟨#[]⟩, .string ⟨#[]⟩, .string ⟨#[]⟩, .bool false, .string ⟨#[]⟩, .int .i64 0, .slice none 0 0, .slice none 0 0, .string ⟨#[]⟩, .slice none 0 0]) := by kernel_rfl
@[push_cast] theorem cells_141 : P0.cellsOf 141 = 12 := by kernel_rfl
@[push_cast] theorem bytes_141 : P0.bytesOf 141 = 184 := by kernel_rfl
@[push_cast] theorem sh_141 : shOf P0 40 141 = .ag [.leaf, .leaf, .leaf, .leaf, .leaf, .leaf, .leaf, .leaf, .sl 9 1 .leaf, .sl 9 1 .leaf, .leaf, .sl 152 2 (.ag [.leaf, .leaf])] := by kernel_rfl
@[push_cast] theorem lay_149 : lay P0 149 = .st [(0, 1), (1, 1)] 2 := by kernel_rfl
@[push_cast] theorem zero_149 : zeroOf P0 149 = some (.agg #[.string ⟨#[]⟩, .int .i64 0]) := by kernel_rfl
@[push_cast] theorem cells_149 : P0.cellsOf 149 = 2 := by kernel_rfl
@[push_cast] theorem bytes_149 : P0.bytesOf 149 = 24 := by kernel_rfl
@[push_cast] theorem sh_149 : shOf P0 40 149 = .ag [.leaf, .leaf] := by kernel_rfl
@[push_cast] theorem lay_152 : lay P0 152 = .st [(0, 1), (1, 1)] 2 := by kernel_rfl
@[push_cast] theorem zero_152 : zeroOf P0 152 = some (.agg #[.string ⟨#[]⟩, .int .i64 0]) := by kernel_rfl
@[push_cast] theorem cells_152 : P0.cellsOf 152 = 2 := by kernel_rfl
@[push_cast] theorem bytes_152 : P0.bytesOf 152 = 24 := by kernel_rfl
@[push_cast] theorem sh_152 : shOf P0 40 152 = .ag [.leaf, .leaf] := by kernel_rfl
@[push_cast] theorem lay_156 : lay P0 156 = .st [(0, 1), (1, 1), (2, 1), (3, 1)] 4 := by kernel_rfl
@[push_cast] theorem zero_156 : zeroOf P0 156 = some (.agg #[.bool false, .string ⟨#[]⟩, .slice none 0 0, .bool false]) := by kernel_rfl
@[push_cast] theorem cells_156 : P0.cellsOf 156 = 4 := by kernel_rfl
@[push_cast] theorem bytes_156 : P0.bytesOf 156 = 56 := by kernel_rfl
@[push_cast] theorem sh_156 : shOf P0 40 156 = .ag [.leaf, .leaf, .sl 152 2 (.ag [.leaf, .leaf]), .leaf] := by kernel_rfl
@[push_cast] theorem lay_158 : lay P0 158 = .st [(0, 4)] 4 := by kernel_rfl
@[push_cast] theorem zero_158 : zeroOf P0 158 = some (.agg #[.bool false, .string ⟨#[]⟩, .slice none 0 0, .bool false]) := by kernel_rfl
@[push_cast] theorem cells_158 : P0.cellsOf 158 = 4 := by kernel_rfl
@[push_cast] theorem bytes_158 : P0.bytesOf 158 = 56 := by kernel_rfl
@[push_cast] theorem sh_158 : shOf P0 40 158 = .ag [.leaf, .leaf, .sl 152 2 (.ag [.leaf, .leaf]), .leaf] := by kernel_rfl
@[push_cast] theorem lay_160 : lay P0 160 = .st [(0, 4), (4, 1), (5, 1)] 6 := by kernel_rfl
@[push_cast] theorem zero_160 : zeroOf P0 160 = some (.agg #[.bool false, .string ⟨#[]⟩, .slice none 0 0, .bool false, .bool false, .string ⟨#[]⟩]) := by kernel_rfl
@[push_cast] theorem cells_160 : P0.cellsOf 160 = 6 := by kernel_rfl
@[push_cast] theorem bytes_160 : P0.bytesOf 160 = 80 := by kernel_rfl
@[push_cast] theorem sh_160 : shOf P0 40 160 = .ag [.leaf, .leaf, .sl 152 2 (.ag [.leaf, .leaf]), .leaf, .leaf, .leaf] := by kernel_rfl
@[push_cast] theorem lay_161 : lay P0 161 = .st [(0, 4)] 4 := by kernel_rfl
@[push_cast] theorem zero_161 : zeroOf P0 161 = some (.agg #[.bool false, .string ⟨#[]⟩, .slice none 0 0, .bool false]) := by kernel_rfl
@[push_cast] theorem cells_161 : P0.cellsOf 161 = 4 := by kernel_rfl
@[push_cast] theorem bytes_161 : P0.bytesOf 161 = 56 := by kernel_rfl
@[push_cast] theorem sh_161 : shOf P0 40 161 = .ag [.leaf, .leaf, .sl 152 2 (.ag [.leaf, .leaf]), .leaf] := by kernel_rfl
@[push_cast] theorem lay_162 : lay P0 162 = .st [(0, 4)] 4 := by kernel_rfl
@[push_cast] theorem zero_162 : zeroOf P0 162 = some (.agg #[.bool false, .string ⟨#[]⟩, .slice none 0 0, .bool false]) := by kernel_rfl
@[push_cast] theorem cells_162 : P0.cellsOf 162 = 4 := by kernel_rfl
@[push_cast] theorem bytes_162 : P0.bytesOf 162 = 56 := by kernel_rfl
@[push_cast] theorem sh_162 : shOf P0 40 162 = .ag [.leaf, .leaf, .sl 152 2 (.ag [.leaf, .leaf]), .leaf] := by kernel_rfl
@[push_cast] theorem lay_163 : lay P0 163 = .st [(0, 4)] 4 := by kernel_rfl
@[push_cast] theorem zero_163 : zeroOf P0 163 = some (.agg #[.bool false, .string ⟨#[]⟩, .slice none 0 0, .bool false]) := by kernel_rfl
@[push_cast] theorem cells_163 : P0.cellsOf 163 = 4 := by kernel_rfl
@[push_cast] theorem bytes_163 : P0.bytesOf 163 = 56 := by kernel_rfl
@[push_cast] theorem sh_163 : shOf P0 40 163 = .ag [.leaf, .leaf, .sl 152 2 (.ag [.leaf, .leaf]), .leaf] := by kernel_rfl
@[push_cast] theorem lay_168 : lay P0 168 = .sli 5 1 := by kernel_rfl
@[push_cast] theorem zero_168 : zeroOf P0 168 = some (.slice none 0 0) := by kernel_rfl
@[push_cast] theorem cells_168 : P0.cellsOf 168 = 1 := by kernel_rfl
@[push_cast] theorem bytes_168 : P0.bytesOf 168 = 24 := by kernel_rfl
@[push_cast] theorem sh_168 : shOf P0 40 168 = .sl 5 1 .leaf := by kernel_rfl
@[push_cast] theorem lay_176 : lay P0 176 = .int .u64 := by kernel_rfl
@[push_cast] theorem und_176 : P0.underlying 176 = some (.int .u64) := by kernel_rfl
@[push_cast] theorem zero_176 : zeroOf P0 176 = some (.int .u64 0) := by kernel_rfl
@[push_cast] theorem cells_176 : P0.cellsOf 176 = 1 := by kernel_rfl
@[push_cast] theorem bytes_176 : P0.bytesOf 176 = 8 := by kernel_rfl
@[push_cast] theorem sh_176 : shOf P0 40 176 = .leaf := by kernel_rfl
@[push_cast] theorem lay_181 : lay P0 181 = .st [(0, 1), (1, 1)] 2 := by kernel_rfl
@[push_cast] theorem zero_181 : zeroOf P0 181 = some (.agg #[.string ⟨#[]⟩, .string ⟨#[]⟩]) := by kernel_rfl
@[push_cast] theorem cells_181 : P0.cellsOf 181 = 2 := by kernel_rfl
@[push_cast] theorem bytes_181 : P0.bytesOf 181 = 32 := by kernel_rfl
@[push_cast] theorem sh_181 : shOf P0 40 181 = .ag [.leaf, .leaf] := by kernel_rfl
@[push_cast] theorem lay_182 : lay P0 182 = .ptr := by kernel_rfl
@[push_cast] theorem zero_182 : zeroOf P0 182 = some (.pointer none) := by kernel_rfl
@[push_cast] theorem cells_182 : P0.cellsOf 182 = 1 := by kernel_rfl
@[push_cast] theorem bytes_182 : P0.bytesOf 182 = 8 := by kernel_rfl
@[push_cast] theorem sh_182 : shOf P0 40 182 = .leaf := by kernel_rfl
@[push_cast] theorem lay_189 : lay P0 189 = .int .i64 := by kernel_rfl
@[push_cast] theorem und_189 : P0.underlying 189 = some (.int .i64) := by kernel_rfl
@[push_cast] theorem zero_189 : zeroOf P0 189 = some (.int .i64 0) := by kernel_rfl
@[push_cast] theorem cells_189 : P0.cellsOf 189 = 1 := by kernel_rfl
@[push_cast] theorem bytes_189 : P0.bytesOf 189 = 8 := by kernel_rfl
@[push_cast] theorem sh_189 : shOf P0 40 189 = .leaf := by kernel_rfl
@[push_cast] theorem lay_196 : lay P0 196 = .int .u32 := by kernel_rfl
@[push_cast] theorem und_196 : P0.underlying 196 = some (.int .u32) := by kernel_rfl
@[push_cast] theorem zero_196 : zeroOf P0 196 = some (.int .u32 0) := by kernel_rfl
@[push_cast] theorem cells_196 : P0.cellsOf 196 = 1 := by kernel_rfl
@[push_cast] theorem bytes_196 : P0.bytesOf 196 = 4 := by kernel_rfl
@[push_cast] theorem sh_196 : shOf P0 40 196 = .leaf := by kernel_rfl
@[push_cast] theorem lay_198 : lay P0 198 = .int .u64 := by kernel_rfl
@[push_cast] theorem und_198 : P0.underlying 198 = some (.int .u64) := by kernel_rfl
@[push_cast] theorem zero_198 : zeroOf P0 198 = some (.int .u64 0) := by kernel_rfl
@[push_cast] theorem cells_198 : P0.cellsOf 198 = 1 := by kernel_rfl
@[push_cast] theorem bytes_198 : P0.bytesOf 198 = 8 := by kernel_rfl
@[push_cast] theorem sh_198 : shOf P0 40 198 = .leaf := by kernel_rfl
@[push_cast] theorem lay_212 : lay P0 212 = .int .u64 := by kernel_rfl
@[push_cast] theorem und_212 : P0.underlying 212 = some (.int .u64) := by kernel_rfl
@[push_cast] theorem zero_212 : zeroOf P0 212 = some (.int .u64 0) := by kernel_rfl
@[push_cast] theorem cells_212 : P0.cellsOf 212 = 1 := by kernel_rfl
@[push_cast] theorem bytes_212 : P0.bytesOf 212 = 8 := by kernel_rfl
@[push_cast] theorem sh_212 : shOf P0 40 212 = .leaf := by kernel_rfl
@[push_cast] theorem key_9 : keyLay P0 9 = some (false, [.str]) := by kernel_rfl
@[push_cast] theorem key_181 : keyLay P0 181 = some (true, [.str, .str]) := by kernel_rfl
@[push_cast] theorem nt_2 : Try.f2.ntmps = 1 := rfl
@[push_cast] theorem nt_3 : Try.f3.ntmps = 27 := rfl
@[push_cast] theorem nt_4 : Try.f4.ntmps = 27 := rfl
@[push_cast] theorem nt_5 : Try.f5.ntmps = 119 := rfl
@[push_cast] theorem nt_6 : Try.f6.ntmps = 96 := rfl
@[push_cast] theorem nt_7 : Try.f7.ntmps = 119 := rfl
@[push_cast] theorem nt_8 : Try.f8.ntmps = 96 := rfl
@[push_cast] theorem nt_9 : Try.f9.ntmps = 69 := rfl
@[push_cast] theorem nt_10 : Try.f10.ntmps = 52 := rfl
@[push_cast] theorem nt_11 : Try.f11.ntmps = 104 := rfl
@[push_cast] theorem nt_12 : Try.f12.ntmps = 59 := rfl
@[push_cast] theorem nt_13 : Try.f13.ntmps = 58 := rfl
@[push_cast] theorem nt_14 : Try.f14.ntmps = 38 := rfl
@[push_cast] theorem nt_15 : Try.f15.ntmps = 64 := rfl
@[push_cast] theorem nt_16 : Try.f16.ntmps = 58 := rfl
@[push_cast] theorem nt_17 : Try.f17.ntmps = 12 := rfl
@[push_cast] theorem nt_18 : Try.f18.ntmps = 23 := rfl
@[push_cast] theorem nt_19 : Try.f19.ntmps = 9 := rfl
@[push_cast] theorem nt_20 : Try.f20.ntmps = 6 := rfl
@[push_cast] theorem nt_21 : Try.f21.ntmps = 11 := rfl
@[push_cast] theorem nt_22 : Try.f22.ntmps = 24 := rfl
@[push_cast] theorem nt_23 : Try.f23.ntmps = 45 := rfl
@[push_cast] theorem nt_24 : Try.f24.ntmps = 10 := rfl
@[push_cast] theorem nt_25 : Try.f25.ntmps = 18 := rfl
@[push_cast] theorem nt_26 : Try.f26.ntmps = 12 := rfl
@[push_cast] theorem nt_27 : Try.f27.ntmps = 56 := rfl
@[push_cast] theorem nt_28 : Try.f28.ntmps = 49 := rfl
@[push_cast] theorem nt_29 : Try.f29.ntmps = 26 := rfl
@[push_cast] theorem nt_30 : Try.f30.ntmps = 20 := rfl
@[push_cast] theorem nt_31 : Try.f31.ntmps = 22 := rfl
@[push_cast] theorem nt_32 : Try.f32.ntmps = 28 := rfl
@[push_cast] theorem nt_33 : Try.f33.ntmps = 18 := rfl
@[push_cast] theorem nt_34 : Try.f34.ntmps = 22 := rfl
@[push_cast] theorem nt_35 : Try.f35.ntmps = 27 := rfl
@[push_cast] theorem nt_36 : Try.f36.ntmps = 93 := rfl
@[push_cast] theorem nt_37 : Try.f37.ntmps = 12 := rfl
@[push_cast] theorem nt_38 : Try.f38.ntmps = 17 := rfl
@[push_cast] theorem nt_39 : Try.f39.ntmps = 14 := rfl
@[push_cast] theorem nt_40 : Try.f40.ntmps = 18 := rfl
@[push_cast] theorem nt_41 : Try.f41.ntmps = 62 := rfl
@[push_cast] theorem nt_42 : Try.f42.ntmps = 40 := rfl
@[push_cast] theorem nt_43 : Try.f43.ntmps = 27 := rfl
@[push_cast] theorem nt_44 : Try.f44.ntmps = 29 := rfl
@[push_cast] theorem nt_45 : Try.f45.ntmps = 33 := rfl
@[push_cast] theorem nt_46 : Try.f46.ntmps = 27 := rfl
@[push_cast] theorem nt_47 : Try.f47.ntmps = 20 := rfl
@[push_cast] theorem nt_48 : Try.f48.ntmps = 23 := rfl
@[push_cast] theorem nt_49 : Try.f49.ntmps = 20 := rfl
@[push_cast] theorem nt_50 : Try.f50.ntmps = 27 := rfl
@[push_cast] theorem nt_51 : Try.f51.ntmps = 29 := rfl
@[push_cast] theorem nt_52 : Try.f52.ntmps = 12 := rfl
@[push_cast] theorem nt_53 : Try.f53.ntmps = 27 := rfl
@[push_cast] theorem nt_54 : Try.f54.ntmps = 23 := rfl
@[push_cast] theorem nt_55 : Try.f55.ntmps = 39 := rfl
@[push_cast] theorem nt_56 : Try.f56.ntmps = 97 := rfl
@[push_cast] theorem nt_57 : Try.f57.ntmps = 23 := rfl
@[push_cast] theorem nt_58 : Try.f58.ntmps = 44 := rfl
@[push_cast] theorem nt_59 : Try.f59.ntmps = 40 := rfl
@[push_cast] theorem nt_60 : Try.f60.ntmps = 53 := rfl
@[push_cast] theorem nt_61 : Try.f61.ntmps = 27 := rfl
@[push_cast] theorem nt_62 : Try.f62.ntmps = 27 := rfl
@[push_cast] theorem nt_63 : Try.f63.ntmps = 62 := rfl
@[push_cast] theorem nt_64 : Try.f64.ntmps = 23 := rfl
@[push_cast] theorem nt_65 : Try.f65.ntmps = 23 := rfl
@[push_cast] theorem nt_66 : Try.f66.ntmps = 27 := rfl
@[push_cast] theorem nt_67 : Try.f67.ntmps = 26 := rfl
@[push_cast] theorem nt_68 : Try.f68.ntmps = 25 := rfl
@[push_cast] theorem nt_69 : Try.f69.ntmps = 4 := rfl
@[push_cast] theorem nt_70 : Try.f70.ntmps = 39 := rfl
@[push_cast] theorem nt_71 : Try.f71.ntmps = 16 := rfl
@[push_cast] theorem nt_72 : Try.f72.ntmps = 70 := rfl
@[push_cast] theorem nt_73 : Try.f73.ntmps = 90 := rfl
@[push_cast] theorem nt_74 : Try.f74.ntmps = 28 := rfl
@[push_cast] theorem nt_75 : Try.f75.ntmps = 110 := rfl
@[push_cast] theorem nt_76 : Try.f76.ntmps = 18 := rfl
@[push_cast] theorem nt_77 : Try.f77.ntmps = 64 := rfl
@[push_cast] theorem nt_78 : Try.f78.ntmps = 31 := rfl
@[push_cast] theorem nt_79 : Try.f79.ntmps = 9 := rfl
@[push_cast] theorem nt_80 : Try.f80.ntmps = 20 := rfl
@[push_cast] theorem nt_81 : Try.f81.ntmps = 22 := rfl
@[push_cast] theorem nt_82 : Try.f82.ntmps = 89 := rfl
@[push_cast] theorem nt_83 : Try.f83.ntmps = 27 := rfl
@[push_cast] theorem nt_84 : Try.f84.ntmps = 102 := rfl
@[push_cast] theorem nt_85 : Try.f85.ntmps = 8 := rfl
@[push_cast] theorem nt_86 : Try.f86.ntmps = 47 := rfl
@[push_cast] theorem nt_87 : Try.f87.ntmps = 16 := rfl
@[push_cast] theorem nt_88 : Try.f88.ntmps = 22 := rfl
@[push_cast] theorem nt_89 : Try.f89.ntmps = 35 := rfl
@[push_cast] theorem nt_90 : Try.f90.ntmps = 138 := rfl
@[push_cast] theorem nt_91 : Try.f91.ntmps = 27 := rfl
@[push_cast] theorem nt_92 : Try.f92.ntmps = 27 := rfl
@[push_cast] theorem nt_93 : Try.f93.ntmps = 27 := rfl
@[push_cast] theorem nt_94 : Try.f94.ntmps = 19 := rfl
@[push_cast] theorem nt_95 : Try.f95.ntmps = 31 := rfl
@[push_cast] theorem nt_96 : Try.f96.ntmps = 21 := rfl
@[push_cast] theorem nt_97 : Try.f97.ntmps = 14 := rfl
@[push_cast] theorem nt_98 : Try.f98.ntmps = 17 := rfl
@[push_cast] theorem nt_99 : Try.f99.ntmps = 18 := rfl
@[push_cast] theorem nt_100 : Try.f100.ntmps = 20 := rfl
@[push_cast] theorem nt_101 : Try.f101.ntmps = 61 := rfl
@[push_cast] theorem nt_102 : Try.f102.ntmps = 15 := rfl
@[push_cast] theorem nt_103 : Try.f103.ntmps = 27 := rfl
@[push_cast] theorem nt_104 : Try.f104.ntmps = 61 := rfl
@[push_cast] theorem nt_105 : Try.f105.ntmps = 35 := rfl
@[push_cast] theorem nt_106 : Try.f106.ntmps = 14 := rfl
@[push_cast] theorem nt_107 : Try.f107.ntmps = 72 := rfl
@[push_cast] theorem nt_108 : Try.f108.ntmps = 23 := rfl
@[push_cast] theorem nt_109 : Try.f109.ntmps = 26 := rfl
@[push_cast] theorem nt_110 : Try.f110.ntmps = 20 := rfl
@[push_cast] theorem nt_111 : Try.f111.ntmps = 12 := rfl
@[push_cast] theorem nt_112 : Try.f112.ntmps = 19 := rfl
@[push_cast] theorem nt_113 : Try.f113.ntmps = 53 := rfl
@[push_cast] theorem nt_114 : Try.f114.ntmps = 13 := rfl
@[push_cast] theorem nt_115 : Try.f115.ntmps = 47 := rfl
@[push_cast] theorem nt_116 : Try.f116.ntmps = 52 := rfl
@[push_cast] theorem nt_117 : Try.f117.ntmps = 11 := rfl
@[push_cast] theorem nt_118 : Try.f118.ntmps = 8 := rfl
@[push_cast] theorem nt_119 : Try.f119.ntmps = 15 := rfl
@[push_cast] theorem nt_120 : Try.f120.ntmps = 8 := rfl
@[push_cast] theorem nt_121 : Try.f121.ntmps = 8 := rfl
@[push_cast] theorem nt_122 : Try.f122.ntmps = 32 := rfl
@[push_cast] theorem nt_123 : Try.f123.ntmps = 11 := rfl
@[push_cast] theorem nt_124 : Try.f124.ntmps = 16 := rfl
@[push_cast] theorem nt_125 : Try.f125.ntmps = 36 := rfl
@[push_cast] theorem nt_126 : Try.f126.ntmps = 15 := rfl
@[push_cast] theorem nt_127 : Try.f127.ntmps = 26 := rfl
@[push_cast] theorem nt_128 : Try.f128.ntmps = 19 := rfl
@[push_cast] theorem nt_129 : Try.f129.ntmps = 21 := rfl
@[push_cast] theorem nt_130 : Try.f130.ntmps = 148 := rfl
@[push_cast] theorem nt_131 : Try.f131.ntmps = 8 := rfl
@[push_cast] theorem nt_132 : Try.f132.ntmps = 6 := rfl
@[push_cast] theorem nt_133 : Try.f133.ntmps = 23 := rfl
@[push_cast] theorem nt_134 : Try.f134.ntmps = 25 := rfl
@[push_cast] theorem nt_135 : Try.f135.ntmps = 21 := rfl
@[push_cast] theorem nt_136 : Try.f136.ntmps = 15 := rfl
@[push_cast] theorem nt_137 : Try.f137.ntmps = 33 := rfl
@[push_cast] theorem nt_138 : Try.f138.ntmps = 23 := rfl
@[push_cast] theorem nt_139 : Try.f139.ntmps = 8 := rfl
@[push_cast] theorem nt_140 : Try.f140.ntmps = 38 := rfl
@[push_cast] theorem nt_141 : Try.f141.ntmps = 21 := rfl
@[push_cast] theorem nt_142 : Try.f142.ntmps = 8 := rfl
@[push_cast] theorem nt_143 : Try.f143.ntmps = 134 := rfl
@[push_cast] theorem nt_144 : Try.f144.ntmps = 53 := rfl
@[push_cast] theorem nt_145 : Try.f145.ntmps = 60 := rfl
@[push_cast] theorem nt_146 : Try.f146.ntmps = 67 := rfl
@[push_cast] theorem nt_147 : Try.f147.ntmps = 63 := rfl
@[push_cast] theorem nt_148 : Try.f148.ntmps = 34 := rfl
@[push_cast] theorem nt_149 : Try.f149.ntmps = 141 := rfl
@[push_cast] theorem nt_150 : Try.f150.ntmps = 90 := rfl
@[push_cast] theorem nt_151 : Try.f151.ntmps = 178 := rfl
@[push_cast] theorem nt_152 : Try.f152.ntmps = 19 := rfl
@[push_cast] theorem nt_153 : Try.f153.ntmps = 25 := rfl
@[push_cast] theorem nt_154 : Try.f154.ntmps = 21 := rfl
@[push_cast] theorem nt_155 : Try.f155.ntmps = 20 := rfl
@[push_cast] theorem nt_156 : Try.f156.ntmps = 25 := rfl
@[push_cast] theorem nt_157 : Try.f157.ntmps = 21 := rfl
@[push_cast] theorem nt_158 : Try.f158.ntmps = 9 := rfl
@[push_cast] theorem nt_159 : Try.f159.ntmps = 6 := rfl
@[push_cast] theorem nt_160 : Try.f160.ntmps = 27 := rfl
@[push_cast] theorem nt_161 : Try.f161.ntmps = 41 := rfl
@[push_cast] theorem nt_163 : Try.f163.ntmps = 49 := rfl
@[push_cast] theorem nt_164 : Try.f164.ntmps = 56 := rfl
@[push_cast] theorem nt_165 : Try.f165.ntmps = 65 := rfl
@[push_cast] theorem nt_166 : Try.f166.ntmps = 57 := rfl
@[push_cast] theorem nt_167 : Try.f167.ntmps = 32 := rfl
@[push_cast] theorem nt_168 : Try.f168.ntmps = 133 := rfl
@[push_cast] theorem nt_169 : Try.f169.ntmps = 17 := rfl
@[push_cast] theorem nt_170 : Try.f170.ntmps = 84 := rfl
@[push_cast] theorem nt_171 : Try.f171.ntmps = 168 := rfl
@[push_cast] theorem nt_172 : Try.f172.ntmps = 82 := rfl
@[push_cast] theorem nt_173 : Try.f173.ntmps = 7 := rfl
@[push_cast] theorem nt_174 : Try.f174.ntmps = 33 := rfl
@[push_cast] theorem nt_175 : Try.f175.ntmps = 18 := rfl
@[push_cast] theorem nt_176 : Try.f176.ntmps = 41 := rfl
@[push_cast] theorem nt_177 : Try.f177.ntmps = 20 := rfl
@[push_cast] theorem nt_178 : Try.f178.ntmps = 19 := rfl
@[push_cast] theorem nt_179 : Try.f179.ntmps = 17 := rfl
@[push_cast] theorem nt_180 : Try.f180.ntmps = 19 := rfl
@[push_cast] theorem nt_181 : Try.f181.ntmps = 49 := rfl
@[push_cast] theorem nt_182 : Try.f182.ntmps = 9 := rfl
@[push_cast] theorem nt_183 : Try.f183.ntmps = 76 := rfl
@[push_cast] theorem nt_184 : Try.f184.ntmps = 15 := rfl
@[push_cast] theorem nt_185 : Try.f185.ntmps = 36 := rfl
@[push_cast] theorem nt_186 : Try.f186.ntmps = 32 := rfl
@[push_cast] theorem nt_187 : Try.f187.ntmps = 17 := rfl
@[push_cast] theorem nt_188 : Try.f188.ntmps = 28 := rfl
@[push_cast] theorem nt_207 : Try.f207.ntmps = 11 := rfl
@[push_cast] theorem nt_208 : Try.f208.ntmps = 18 := rfl
@[push_cast] theorem nt_209 : Try.f209.ntmps = 43 := rfl
@[push_cast] theorem nt_210 : Try.f210.ntmps = 18 := rfl
@[push_cast] theorem nt_211 : Try.f211.ntmps = 18 := rfl
@[push_cast] theorem nt_212 : Try.f212.ntmps = 61 := rfl
@[push_cast] theorem nt_213 : Try.f213.ntmps = 20 := rfl

end Go.Proofs.Ytkgoglapagmapaa.BX
