/-
  Facts of the loaded program: how its types lie. Written by a program (ey.py) out of Lean's own print.
-/
import Derived.Test.YthhgcklidfilfaaBxS
import Derived.Test.YthhgcklidfilfaaProg
import Derived.KernelRfl
namespace Go.Proofs.Ythhgcklidfilfaa.BX
set_option linter.unusedSectionVars false
set_option linter.unusedSimpArgs false
set_option linter.unusedVariables false
open Go Go.RowKit

noncomputable abbrev P0 : Program := Try.prog
theorem mixed : P0.follows .mixedOrders = true := by kernel_rfl
@[push_cast] theorem lay_3 : lay P0 3 = .int .i64 := by kernel_rfl
@[push_cast] theorem und_3 : P0.underlying 3 = some (.int .i64) := by kernel_rfl
@[push_cast] theorem zero_3 : zeroOf P0 3 = some (.int .i64 0) := by kernel_rfl
@[push_cast] theorem cells_3 : P0.cellsOf 3 = 1 := by kernel_rfl
@[push_cast] theorem bytes_3 : P0.bytesOf 3 = 8 := by kernel_rfl
@[push_cast] theorem sh_3 : shOf P0 40 3 = .leaf := by kernel_rfl
@[push_cast] theorem lay_4 : lay P0 4 = .bool := by kernel_rfl
@[push_cast] theorem zero_4 : zeroOf P0 4 = some (.bool false) := by kernel_rfl
@[push_cast] theorem cells_4 : P0.cellsOf 4 = 1 := by kernel_rfl
@[push_cast] theorem bytes_4 : P0.bytesOf 4 = 1 := by kernel_rfl
@[push_cast] theorem sh_4 : shOf P0 40 4 = .leaf := by kernel_rfl
@[push_cast] theorem lay_5 : lay P0 5 = .int .u8 := by kernel_rfl
@[push_cast] theorem und_5 : P0.underlying 5 = some (.int .u8) := by kernel_rfl
@[push_cast] theorem zero_5 : zeroOf P0 5 = some (.int .u8 0) := by kernel_rfl
@[push_cast] theorem cells_5 : P0.cellsOf 5 = 1 := by kernel_rfl
@[push_cast] theorem bytes_5 : P0.bytesOf 5 = 1 := by kernel_rfl
@[push_cast] theorem sh_5 : shOf P0 40 5 = .leaf := by kernel_rfl
@[push_cast] theorem lay_9 : lay P0 9 = .str := by kernel_rfl
@[push_cast] theorem zero_9 : zeroOf P0 9 = some (.string ⟨#[]⟩) := by kernel_rfl
@[push_cast] theorem cells_9 : P0.cellsOf 9 = 1 := by kernel_rfl
@[push_cast] theorem bytes_9 : P0.bytesOf 9 = 16 := by kernel_rfl
@[push_cast] theorem sh_9 : shOf P0 40 9 = .leaf := by kernel_rfl
@[push_cast] theorem lay_22 : lay P0 22 = .sli 5 1 := by kernel_rfl
@[push_cast] theorem zero_22 : zeroOf P0 22 = some (.slice none 0 0) := by kernel_rfl
@[push_cast] theorem cells_22 : P0.cellsOf 22 = 1 := by kernel_rfl
@[push_cast] theorem bytes_22 : P0.bytesOf 22 = 24 := by kernel_rfl
@[push_cast] theorem sh_22 : shOf P0 40 22 = .sl 5 1 .leaf := by kernel_rfl
@[push_cast] theorem lay_23 : lay P0 23 = .sli 32 3 := by kernel_rfl
@[push_cast] theorem zero_23 : zeroOf P0 23 = some (.slice none 0 0) := by kernel_rfl
@[push_cast] theorem cells_23 : P0.cellsOf 23 = 1 := by kernel_rfl
@[push_cast] theorem bytes_23 : P0.bytesOf 23 = 24 := by kernel_rfl
@[push_cast] theorem sh_23 : shOf P0 40 23 = .sl 32 3 (.ag [.leaf, .leaf, .leaf]) := by kernel_rfl
@[push_cast] theorem lay_32 : lay P0 32 = .st [(0, 1), (1, 1), (2, 1)] 3 := by kernel_rfl
@[push_cast] theorem zero_32 : zeroOf P0 32 = some (.agg #[.string ⟨#[]⟩, .string ⟨#[]⟩, .string ⟨#[]⟩]) := by kernel_rfl
@[push_cast] theorem cells_32 : P0.cellsOf 32 = 3 := by kernel_rfl
@[push_cast] theorem bytes_32 : P0.bytesOf 32 = 48 := by kernel_rfl
@[push_cast] theorem sh_32 : shOf P0 40 32 = .ag [.leaf, .leaf, .leaf] := by kernel_rfl
@[push_cast] theorem lay_36 : lay P0 36 = .sli 123 2 := by kernel_rfl
@[push_cast] theorem zero_36 : zeroOf P0 36 = some (.slice none 0 0) := by kernel_rfl
@[push_cast] theorem cells_36 : P0.cellsOf 36 = 1 := by kernel_rfl
@[push_cast] theorem bytes_36 : P0.bytesOf 36 = 24 := by kernel_rfl
@[push_cast] theorem sh_36 : shOf P0 40 36 = .sl 123 2 (.ag [.leaf, .sl 32 3 (.ag [.leaf, .leaf, .leaf])]) := by kernel_rfl
@[push_cast] theorem lay_38 : lay P0 38 = .st [(0, 1)] 1 := by kernel_rfl
@[push_cast] theorem zero_38 : zeroOf P0 38 = some (.agg #[.slice none 0 0]) := by kernel_rfl
@[push_cast] theorem cells_38 : P0.cellsOf 38 = 1 := by kernel_rfl
@[push_cast] theorem bytes_38 : P0.bytesOf 38 = 24 := by kernel_rfl
@[push_cast] theorem sh_38 : shOf P0 40 38 = .ag [.sl 123 2 (.ag [.leaf, .sl 32 3 (.ag [.leaf, .leaf, .leaf])])] := by kernel_rfl
@[push_cast] theorem lay_47 : lay P0 47 = .sli 194 2 := by kernel_rfl
@[push_cast] theorem zero_47 : zeroOf P0 47 = some (.slice none 0 0) := by kernel_rfl
@[push_cast] theorem cells_47 : P0.cellsOf 47 = 1 := by kernel_rfl
@[push_cast] theorem bytes_47 : P0.bytesOf 47 = 24 := by kernel_rfl
@[push_cast] theorem sh_47 : shOf P0 40 47 = .sl 194 2 (.ag [.leaf, .sl 137 3 (.ag [.leaf, .leaf, .leaf])]) := by kernel_rfl
@[push_cast] theorem lay_49 : lay P0 49 = .st [(0, 1)] 1 := by kernel_rfl
@[push_cast] theorem zero_49 : zeroOf P0 49 = some (.agg #[.slice none 0 0]) := by kernel_rfl
@[push_cast] theorem cells_49 : P0.cellsOf 49 = 1 := by kernel_rfl
@[push_cast] theorem bytes_49 : P0.bytesOf 49 = 24 := by kernel_rfl
@[push_cast] theorem sh_49 : shOf P0 40 49 = .ag [.sl 194 2 (.ag [.leaf, .sl 137 3 (.ag [.leaf, .leaf, .leaf])])] := by kernel_rfl
@[push_cast] theorem lay_50 : lay P0 50 = .sli 137 3 := by kernel_rfl
@[push_cast] theorem zero_50 : zeroOf P0 50 = some (.slice none 0 0) := by kernel_rfl
@[push_cast] theorem cells_50 : P0.cellsOf 50 = 1 := by kernel_rfl
@[push_cast] theorem bytes_50 : P0.bytesOf 50 = 24 := by kernel_rfl
@[push_cast] theorem sh_50 : shOf P0 40 50 = .sl 137 3 (.ag [.leaf, .leaf, .leaf]) := by kernel_rfl
@[push_cast] theorem lay_59 : lay P0 59 = .sli 81 10 := by kernel_rfl
@[push_cast] theorem zero_59 : zeroOf P0 59 = some (.slice none 0 0) := by kernel_rfl
@[push_cast] theorem cells_59 : P0.cellsOf 59 = 1 := by kernel_rfl
@[push_cast] theorem bytes_59 : P0.bytesOf 59 = 24 := by kernel_rfl
@[push_cast] theorem sh_59 : shOf P0 40 59 = .sl 81 10 (.ag [.leaf, .leaf, .leaf, .leaf, .leaf, .leaf, .sl 9 1 .leaf, .sl 9 1 .leaf, .leaf, .sl 208 2 (.ag [.leaf, .leaf])]) := by kernel_rfl
@[push_cast] theorem lay_61 : lay P0 61 = .st [(0, 1)] 1 := by kernel_rfl
@[push_cast] theorem zero_61 : zeroOf P0 61 = some (.agg #[.slice none 0 0]) := by kernel_rfl
@[push_cast] theorem cells_61 : P0.cellsOf 61 = 1 := by kernel_rfl
@[push_cast] theorem bytes_61 : P0.bytesOf 61 = 24 := by kernel_rfl
@[push_cast] theorem sh_61 : shOf P0 40 61 = .ag [.sl 81 10 (.ag [.leaf, .leaf, .leaf, .leaf, .leaf, .leaf, .sl 9 1 .leaf, .sl 9 1 .leaf, .leaf, .sl 208 2 (.ag [.leaf, .leaf])])] := by kernel_rfl
@[push_cast] theorem lay_63 : lay P0 63 = .sli 146 2 := by kernel_rfl
@[push_cast] theorem zero_63 : zeroOf P0 63 = some (.slice none 0 0) := by kernel_rfl
@[push_cast] theorem cells_63 : P0.cellsOf 63 = 1 := by kernel_rfl
@[push_cast] theorem bytes_63 : P0.bytesOf 63 = 24 := by kernel_rfl
@[push_cast] theorem sh_63 : shOf P0 40 63 = .sl 146 2 (.ag [.leaf, .leaf]) := by kernel_rfl
@[push_cast] theorem lay_64 : lay P0 64 = .sli 150 1 := by kernel_rfl
@[push_cast] theorem zero_64 : zeroOf P0 64 = some (.slice none 0 0) := by kernel_rfl
@[push_cast] theorem cells_64 : P0.cellsOf 64 = 1 := by kernel_rfl
@[push_cast] theorem bytes_64 : P0.bytesOf 64 = 24 := by kernel_rfl
@[push_cast] theorem sh_64 : shOf P0 40 64 = .sl 150 1 (.sl 3 1 .leaf) := by kernel_rfl
@[push_cast] theorem lay_66 : lay P0 66 = .st [(0, 1), (1, 1)] 2 := by kernel_rfl
@[push_cast] theorem zero_66 : zeroOf P0 66 = some (.agg #[.slice none 0 0, .slice none 0 0]) := by kernel_rfl
@[push_cast] theorem cells_66 : P0.cellsOf 66 = 2 := by kernel_rfl
@[push_cast] theorem bytes_66 : P0.bytesOf 66 = 48 := by kernel_rfl
@[push_cast] theorem sh_66 : shOf P0 40 66 = .ag [.sl 146 2 (.ag [.leaf, .leaf]), .sl 150 1 (.sl 3 1 .leaf)] := by kernel_rfl
@[push_cast] theorem lay_69 : lay P0 69 = .sli 87 10 := by kernel_rfl
@[push_cast] theorem zero_69 : zeroOf P0 69 = some (.slice none 0 0) := by kernel_rfl
@[push_cast] theorem cells_69 : P0.cellsOf 69 = 1 := by kernel_rfl
@[push_cast] theorem bytes_69 : P0.bytesOf 69 = 24 := by kernel_rfl
@[push_cast] theorem sh_69 : shOf P0 40 69 = .sl 87 10 (.ag [.leaf, .leaf, .leaf, .leaf, .leaf, .leaf, .sl 9 1 .leaf, .sl 9 1 .leaf, .leaf, .sl 212 2 (.ag [.leaf, .leaf])]) := by kernel_rfl
@[push_cast] theorem lay_71 : lay P0 71 = .st [(0, 1)] 1 := by kernel_rfl
@[push_cast] theorem zero_71 : zeroOf P0 71 = some (.agg #[.slice none 0 0]) := by kernel_rfl
@[push_cast] theorem cells_71 : P0.cellsOf 71 = 1 := by kernel_rfl
@[push_cast] theorem bytes_71 : P0.bytesOf 71 = 24 := by kernel_rfl
@[push_cast] theorem sh_71 : shOf P0 40 71 = .ag [.sl 87 10 (.ag [.leaf, .leaf, .leaf, .leaf, .leaf, .leaf, .sl 9 1 .leaf, .sl 9 1 .leaf, .leaf, .sl 212 2 (.ag [.leaf, .leaf])])] := by kernel_rfl
@[push_cast] theorem lay_78 : lay P0 78 = .sli 9 1 := by kernel_rfl
@[push_cast] theorem zero_78 : zeroOf P0 78 = some (.slice none 0 0) := by kernel_rfl
@[push_cast] theorem cells_78 : P0.cellsOf 78 = 1 := by kernel_rfl
@[push_cast] theorem bytes_78 : P0.bytesOf 78 = 24 := by kernel_rfl
@[push_cast] theorem sh_78 : shOf P0 40 78 = .sl 9 1 .leaf := by kernel_rfl
@[push_cast] theorem lay_79 : lay P0 79 = .sli 208 2 := by kernel_rfl
@[push_cast] theorem zero_79 : zeroOf P0 79 = some (.slice none 0 0) := by kernel_rfl
@[push_cast] theorem cells_79 : P0.cellsOf 79 = 1 := by kernel_rfl
@[push_cast] theorem bytes_79 : P0.bytesOf 79 = 24 := by kernel_rfl
@[push_cast] theorem sh_79 : shOf P0 40 79 = .sl 208 2 (.ag [.leaf, .leaf]) := by kernel_rfl
@[push_cast] theorem lay_81 : lay P0 81 = .st [(0, 1), (1, 1), (2, 1), (3, 1), (4, 1), (5, 1), (6, 1), (7, 1), (8, 1), (9, 1)] 10 := by kernel_rfl
@[push_cast] theorem zero_81 : zeroOf P0 81 = some (.agg #[.string ⟨#[]⟩, .string ⟨#[]⟩, .string ⟨#[]⟩, .bool false, .string ⟨#[]⟩, .int .i64 0, .slice none 0 0, .slice none 0 0, .string ⟨#[]⟩, .slice none 0 0]) := by kernel_rfl
@[push_cast] theorem cells_81 : P0.cellsOf 81 = 10 := by kernel_rfl
@[push_cast] theorem bytes_81 : P0.bytesOf 81 = 168 := by kernel_rfl
@[push_cast] theorem sh_81 : shOf P0 40 81 = .ag [.leaf, .leaf, .leaf, .leaf, .leaf, .leaf, .sl 9 1 .leaf, .sl 9 1 .leaf, .leaf, .sl 208 2 (.ag [.leaf, .leaf])] := by kernel_rfl
@[push_cast] theorem lay_83 : lay P0 83 = .sli 164 2 := by kernel_rfl
@[push_cast] theorem zero_83 : zeroOf P0 83 = some (.slice none 0 0) := by kernel_rfl
@[push_cast] theorem cells_83 : P0.cellsOf 83 = 1 := by kernel_rfl
@[push_cast] theorem bytes_83 : P0.bytesOf 83 = 24 := by kernel_rfl
@[push_cast] theorem sh_83 : shOf P0 40 83 = .sl 164 2 (.ag [.leaf, .leaf]) := by kernel_rfl
@[push_cast] theorem lay_85 : lay P0 85 = .sli 212 2 := by kernel_rfl
@[push_cast] theorem zero_85 : zeroOf P0 85 = some (.slice none 0 0) := by kernel_rfl
@[push_cast] theorem cells_85 : P0.cellsOf 85 = 1 := by kernel_rfl
@[push_cast] theorem bytes_85 : P0.bytesOf 85 = 24 := by kernel_rfl
@[push_cast] theorem sh_85 : shOf P0 40 85 = .sl 212 2 (.ag [.leaf, .leaf]) := by kernel_rfl
@[push_cast] theorem lay_87 : lay P0 87 = .st [(0, 1), (1, 1), (2, 1), (3, 1), (4, 1), (5, 1), (6, 1), (7, 1), (8, 1), (9, 1)] 10 := by kernel_rfl
@[push_cast] theorem zero_87 : zeroOf P0 87 = some (.agg #[.string ⟨#[]⟩, .string ⟨#[]⟩, .string ⟨#[]⟩, .bool false, .string ⟨#[]⟩, .int .i64 0, .slice none 0 0, .slice none 0 0, .string ⟨#[]⟩, .slice none 0 0]) := by kernel_rfl
@[push_cast] theorem cells_87 : P0.cellsOf 87 = 10 := by kernel_rfl
@[push_cast] theorem bytes_87 : P0.bytesOf 87 = 168 := by kernel_rfl
@[push_cast] theorem sh_87 : shOf P0 40 87 = .ag [.leaf, .leaf, .leaf, .leaf, .leaf, .leaf, .sl 9 1 .leaf, .sl 9 1 .leaf, .leaf, .sl 212 2 (.ag [.leaf, .leaf])] := by kernel_rfl
@[push_cast] theorem lay_94 : lay P0 94 = .sli 50 1 := by kernel_rfl
@[push_cast] theorem zero_94 : zeroOf P0 94 = some (.slice none 0 0) := by kernel_rfl
@[push_cast] theorem cells_94 : P0.cellsOf 94 = 1 := by kernel_rfl
@[push_cast] theorem bytes_94 : P0.bytesOf 94 = 24 := by kernel_rfl
@[push_cast] theorem sh_94 : shOf P0 40 94 = .sl 50 1 (.sl 137 3 (.ag [.leaf, .leaf, .leaf])) := by kernel_rfl
@[push_cast] theorem lay_98 : lay P0 98 = .sli 23 1 := by kernel_rfl
@[push_cast] theorem zero_98 : zeroOf P0 98 = some (.slice none 0 0) := by kernel_rfl
@[push_cast] theorem cells_98 : P0.cellsOf 98 = 1 := by kernel_rfl
@[push_cast] theorem bytes_98 : P0.bytesOf 98 = 24 := by kernel_rfl
@[push_cast] theorem sh_98 : shOf P0 40 98 = .sl 23 1 (.sl 32 3 (.ag [.leaf, .leaf, .leaf])) := by kernel_rfl
@[push_cast] theorem lay_112 : lay P0 112 = .map 118 9 := by kernel_rfl
@[push_cast] theorem zero_112 : zeroOf P0 112 = some (.map none) := by kernel_rfl
@[push_cast] theorem cells_112 : P0.cellsOf 112 = 1 := by kernel_rfl
@[push_cast] theorem bytes_112 : P0.bytesOf 112 = 8 := by kernel_rfl
@[push_cast] theorem lay_118 : lay P0 118 = .st [(0, 1), (1, 1)] 2 := by kernel_rfl
@[push_cast] theorem zero_118 : zeroOf P0 118 = some (.agg #[.string ⟨#[]⟩, .string ⟨#[]⟩]) := by kernel_rfl
@[push_cast] theorem cells_118 : P0.cellsOf 118 = 2 := by kernel_rfl
@[push_cast] theorem bytes_118 : P0.bytesOf 118 = 32 := by kernel_rfl
@[push_cast] theorem sh_118 : shOf P0 40 118 = .ag [.leaf, .leaf] := by kernel_rfl
@[push_cast] theorem lay_123 : lay P0 123 = .st [(0, 1), (1, 1)] 2 := by kernel_rfl
@[push_cast] theorem zero_123 : zeroOf P0 123 = some (.agg #[.int .i64 0, .slice none 0 0]) := by kernel_rfl
@[push_cast] theorem cells_123 : P0.cellsOf 123 = 2 := by kernel_rfl
@[push_cast] theorem bytes_123 : P0.bytesOf 123 = 32 := by kernel_rfl
@[push_cast] theorem sh_123 : shOf P0 40 123 = .ag [.leaf, .sl 32 3 (.ag [.leaf, .leaf, .leaf])] := by kernel_rfl
@[push_cast] theorem lay_128 : lay P0 128 = .sli 131 1 := by kernel_rfl
@[push_cast] theorem zero_128 : zeroOf P0 128 = some (.slice none 0 0) := by kernel_rfl
@[push_cast] theorem cells_128 : P0.cellsOf 128 = 1 := by kernel_rfl
@[push_cast] theorem bytes_128 : P0.bytesOf 128 = 24 := by kernel_rfl
@[push_cast] theorem sh_128 : shOf P0 40 128 = .sl 131 1 .leaf := by kernel_rfl
@[push_cast] theorem lay_131 : lay P0 131 = .ptr := by kernel_rfl
@[push_cast] theorem zero_131 : zeroOf P0 131 = some (.pointer none) := by kernel_rfl
@[push_cast] theorem cells_131 : P0.cellsOf 131 = 1 := by kernel_rfl
@[push_cast] theorem bytes_131 : P0.bytesOf 131 = 8 := by kernel_rfl
@[push_cast] theorem sh_131 : shOf P0 40 131 = .leaf := by kernel_rfl
@[push_cast] theorem lay_134 : lay P0 134 = .st [(0, 1), (1, 1), (2, 1), (3, 1)] 4 := by kernel_rfl
@[push_cast] theorem zero_134 : zeroOf P0 134 = some (.agg #[.pointer none, .slice none 0 0, .int .i64 0, .map none]) := by kernel_rfl
@[push_cast] theorem cells_134 : P0.cellsOf 134 = 4 := by kernel_rfl
@[push_cast] theorem bytes_134 : P0.bytesOf 134 = 48 := by kernel_rfl
@[push_cast] theorem sh_134 : shOf P0 40 134 = .ag [.leaf, .sl 32 3 (.ag [.leaf, .leaf, .leaf]), .leaf, .leaf] := by kernel_rfl
@[push_cast] theorem lay_137 : lay P0 137 = .st [(0, 1), (1, 1), (2, 1)] 3 := by kernel_rfl
@[push_cast] theorem zero_137 : zeroOf P0 137 = some (.agg #[.string ⟨#[]⟩, .string ⟨#[]⟩, .string ⟨#[]⟩]) := by kernel_rfl
@[push_cast] theorem cells_137 : P0.cellsOf 137 = 3 := by kernel_rfl
@[push_cast] theorem bytes_137 : P0.bytesOf 137 = 48 := by kernel_rfl
@[push_cast] theorem sh_137 : shOf P0 40 137 = .ag [.leaf, .leaf, .leaf] := by kernel_rfl
@[push_cast] theorem lay_146 : lay P0 146 = .st [(0, 1), (1, 1)] 2 := by kernel_rfl
@[push_cast] theorem zero_146 : zeroOf P0 146 = some (.agg #[.int .i64 0, .int .i64 0]) := by kernel_rfl
@[push_cast] theorem cells_146 : P0.cellsOf 146 = 2 := by kernel_rfl
@[push_cast] theorem bytes_146 : P0.bytesOf 146 = 16 := by kernel_rfl
@[push_cast] theorem sh_146 : shOf P0 40 146 = .ag [.leaf, .leaf] := by kernel_rfl
@[push_cast] theorem lay_150 : lay P0 150 = .sli 3 1 := by kernel_rfl
@[push_cast] theorem zero_150 : zeroOf P0 150 = some (.slice none 0 0) := by kernel_rfl
@[push_cast] theorem cells_150 : P0.cellsOf 150 = 1 := by kernel_rfl
@[push_cast] theorem bytes_150 : P0.bytesOf 150 = 24 := by kernel_rfl
@[push_cast] theorem sh_150 : shOf P0 40 150 = .sl 3 1 .leaf := by kernel_rfl
@[push_cast] theorem lay_153 : lay P0 153 = .ptr := by kernel_rfl
@[push_cast] theorem zero_153 : zeroOf P0 153 = some (.pointer none) := by kernel_rfl
@[push_cast] theorem cells_153 : P0.cellsOf 153 = 1 := by kernel_rfl
@[push_cast] theorem bytes_153 : P0.bytesOf 153 = 8 := by kernel_rfl
@[push_cast] theorem sh_153 : shOf P0 40 153 = .leaf := by kernel_rfl
@[push_cast] theorem lay_164 : lay P0 164 = .st [(0, 1), (1, 1)] 2 := by kernel_rfl
@[push_cast] theorem zero_164 : zeroOf P0 164 = some (.agg #[.string ⟨#[]⟩, .string ⟨#[]⟩]) := by kernel_rfl
@[push_cast] theorem cells_164 : P0.cellsOf 164 = 2 := by kernel_rfl
@[push_cast] theorem bytes_164 : P0.bytesOf 164 = 32 := by kernel_rfl
@[push_cast] theorem sh_164 : shOf P0 40 164 = .ag [.leaf, .leaf] := by kernel_rfl
@[push_cast] theorem lay_176 : lay P0 176 = .map 32 3 := by kernel_rfl
@[push_cast] theorem zero_176 : zeroOf P0 176 = some (.map none) := by kernel_rfl
@[push_cast] theorem cells_176 : P0.cellsOf 176 = 1 := by kernel_rfl
@[push_cast] theorem bytes_176 : P0.bytesOf 176 = 8 := by kernel_rfl
@[push_cast] theorem lay_177 : lay P0 177 = .map 9 3 := by kernel_rfl
@[push_cast] theorem zero_177 : zeroOf P0 177 = some (.map none) := by kernel_rfl
@[push_cast] theorem cells_177 : P0.cellsOf 177 = 1 := by kernel_rfl
@[push_cast] theorem bytes_177 : P0.bytesOf 177 = 8 := by kernel_rfl
@[push_cast] theorem lay_185 : lay P0 185 = .st [(0, 1), (1, 1)] 2 := by kernel_rfl
@[push_cast] theorem zero_185 : zeroOf P0 185 = some (.agg #[.slice none 0 0, .int .i64 0]) := by kernel_rfl
@[push_cast] theorem cells_185 : P0.cellsOf 185 = 2 := by kernel_rfl
@[push_cast] theorem bytes_185 : P0.bytesOf 185 = 32 := by kernel_rfl
@[push_cast] theorem sh_185 : shOf P0 40 185 = .ag [.sl 5 1 .leaf, .leaf] := by kernel_rfl
@[push_cast] theorem lay_194 : lay P0 194 = .st [(0, 1), (1, 1)] 2 := by kernel_rfl
@[push_cast] theorem zero_194 : zeroOf P0 194 = some (.agg #[.int .i64 0, .slice none 0 0]) := by kernel_rfl
@[push_cast] theorem cells_194 : P0.cellsOf 194 = 2 := by kernel_rfl
@[push_cast] theorem bytes_194 : P0.bytesOf 194 = 32 := by kernel_rfl
@[push_cast] theorem sh_194 : shOf P0 40 194 = .ag [.leaf, .sl 137 3 (.ag [.leaf, .leaf, .leaf])] := by kernel_rfl
@[push_cast] theorem lay_202 : lay P0 202 = .st [(0, 1), (1, 1)] 2 := by kernel_rfl
@[push_cast] theorem zero_202 : zeroOf P0 202 = some (.agg #[.slice none 0 0, .map none]) := by kernel_rfl
@[push_cast] theorem cells_202 : P0.cellsOf 202 = 2 := by kernel_rfl
@[push_cast] theorem bytes_202 : P0.bytesOf 202 = 32 := by kernel_rfl
@[push_cast] theorem sh_202 : shOf P0 40 202 = .ag [.sl 87 10 (.ag [.leaf, .leaf, .leaf, .leaf, .leaf, .leaf, .sl 9 1 .leaf, .sl 9 1 .leaf, .leaf, .sl 212 2 (.ag [.leaf, .leaf])]), .leaf] := by kernel_rfl
@[push_cast] theorem lay_208 : lay P0 208 = .st [(0, 1), (1, 1)] 2 := by kernel_rfl
@[push_cast] theorem zero_208 : zeroOf P0 208 = some (.agg #[.string ⟨#[]⟩, .int .i64 0]) := by kernel_rfl
@[push_cast] theorem cells_208 : P0.cellsOf 208 = 2 := by kernel_rfl
@[push_cast] theorem bytes_208 : P0.bytesOf 208 = 24 := by kernel_rfl
@[push_cast] theorem sh_208 : shOf P0 40 208 = .ag [.leaf, .leaf] := by kernel_rfl
@[push_cast] theorem lay_212 : lay P0 212 = .st [(0, 1), (1, 1)] 2 := by kernel_rfl
@[push_cast] theorem zero_212 : zeroOf P0 212 = some (.agg #[.string ⟨#[]⟩, .int .i64 0]) := by kernel_rfl
@[push_cast] theorem cells_212 : P0.cellsOf 212 = 2 := by kernel_rfl
@[push_cast] theorem bytes_212 : P0.bytesOf 212 = 24 := by kernel_rfl
@[push_cast] theorem sh_212 : shOf P0 40 212 = .ag [.leaf, .leaf] := by kernel_rfl
@[push_cast] theorem lay_220 : lay P0 220 = .int .u64 := by kernel_rfl
@[push_cast] theorem und_220 : P0.underlying 220 = some (.int .u64) := by kernel_rfl
@[push_cast] theorem zero_220 : zeroOf P0 220 = some (.int .u64 0) := by kernel_rfl
@[push_cast] theorem cells_220 : P0.cellsOf 220 = 1 := by kernel_rfl
@[push_cast] theorem bytes_220 : P0.bytesOf 220 = 8 := by kernel_rfl
@[push_cast] theorem sh_220 : shOf P0 40 220 = .leaf := by kernel_rfl
@[push_cast] theorem lay_232 : lay P0 232 = .st [(0, 1), (1, 1), (2, 1), (3, 1)] 4 := by kernel_rfl
@[push_cast] theorem zero_232 : zeroOf P0 232 = some (.agg #[.bool false, .string ⟨#[]⟩, .slice none 0 0, .bool false]) := by kernel_rfl
@[push_cast] theorem cells_232 : P0.cellsOf 232 = 4 := by kernel_rfl
@[push_cast] theorem bytes_232 : P0.bytesOf 232 = 56 := by kernel_rfl
@[push_cast] theorem sh_232 : shOf P0 40 232 = .ag [.leaf, .leaf, .sl 212 2 (.ag [.leaf, .leaf]), .leaf] := by kernel_rfl
@[push_cast] theorem lay_234 : lay P0 234 = .st [(0, 4)] 4 := by kernel_rfl
@[push_cast] theorem zero_234 : zeroOf P0 234 = some (.agg #[.bool false, .string ⟨#[]⟩, .slice none 0 0, .bool false]) := by kernel_rfl
@[push_cast] theorem cells_234 : P0.cellsOf 234 = 4 := by kernel_rfl
@[push_cast] theorem bytes_234 : P0.bytesOf 234 = 56 := by kernel_rfl
@[push_cast] theorem sh_234 : shOf P0 40 234 = .ag [.leaf, .leaf, .sl 212 2 (.ag [.leaf, .leaf]), .leaf] := by kernel_rfl
@[push_cast] theorem lay_236 : lay P0 236 = .st [(0, 4), (4, 1), (5, 1)] 6 := by kernel_rfl
@[push_cast] theorem zero_236 : zeroOf P0 236 = some (.agg #[.bool false, .string ⟨#[]⟩, .slice none 0 0, .bool false, .bool false, .string ⟨#[]⟩]) := by kernel_rfl
@[push_cast] theorem cells_236 : P0.cellsOf 236 = 6 := by kernel_rfl
@[push_cast] theorem bytes_236 : P0.bytesOf 236 = 80 := by kernel_rfl
@[push_cast] theorem sh_236 : shOf P0 40 236 = .ag [.leaf, .leaf, .sl 212 2 (.ag [.leaf, .leaf]), .leaf, .leaf, .leaf] := by kernel_rfl
@[push_cast] theorem lay_237 : lay P0 237 = .st [(0, 4)] 4 := by kernel_rfl
@[push_cast] theorem zero_237 : zeroOf P0 237 = some (.agg #[.bool false, .string ⟨#[]⟩, .slice none 0 0, .bool false]) := by kernel_rfl
@[push_cast] theorem cells_237 : P0.cellsOf 237 = 4 := by kernel_rfl
@[push_cast] theorem bytes_237 : P0.bytesOf 237 = 56 := by kernel_rfl
@[push_cast] theorem sh_237 : shOf P0 40 237 = .ag [.leaf, .leaf, .sl 212 2 (.ag [.leaf, .leaf]), .leaf] := by kernel_rfl
@[push_cast] theorem lay_238 : lay P0 238 = .st [(0, 4)] 4 := by kernel_rfl
@[push_cast] theorem zero_238 : zeroOf P0 238 = some (.agg #[.bool false, .string ⟨#[]⟩, .slice none 0 0, .bool false]) := by kernel_rfl
@[push_cast] theorem cells_238 : P0.cellsOf 238 = 4 := by kernel_rfl
@[push_cast] theorem bytes_238 : P0.bytesOf 238 = 56 := by kernel_rfl
@[push_cast] theorem sh_238 : shOf P0 40 238 = .ag [.leaf, .leaf, .sl 212 2 (.ag [.leaf, .leaf]), .leaf] := by kernel_rfl
@[push_cast] theorem lay_239 : lay P0 239 = .st [(0, 4)] 4 := by kernel_rfl
@[push_cast] theorem zero_239 : zeroOf P0 239 = some (.agg #[.bool false, .string ⟨#[]⟩, .slice none 0 0, .bool false]) := by kernel_rfl
@[push_cast] theorem cells_239 : P0.cellsOf 239 = 4 := by kernel_rfl
@[push_cast] theorem bytes_239 : P0.bytesOf 239 = 56 := by kernel_rfl
@[push_cast] theorem sh_239 : shOf P0 40 239 = .ag [.leaf, .leaf, .sl 212 2 (.ag [.leaf, .leaf]), .leaf] := by kernel_rfl
@[push_cast] theorem lay_241 : lay P0 241 = .int .i64 := by kernel_rfl
@[push_cast] theorem und_241 : P0.underlying 241 = some (.int .i64) := by kernel_rfl
@[push_cast] theorem zero_241 : zeroOf P0 241 = some (.int .i64 0) := by kernel_rfl
@[push_cast] theorem cells_241 : P0.cellsOf 241 = 1 := by kernel_rfl
@[push_cast] theorem bytes_241 : P0.bytesOf 241 = 8 := by kernel_rfl
@[push_cast] theorem sh_241 : shOf P0 40 241 = .leaf := by kernel_rfl
@[push_cast] theorem lay_248 : lay P0 248 = .int .u32 := by kernel_rfl
@[push_cast] theorem und_248 : P0.underlying 248 = some (.int .u32) := by kernel_rfl
@[push_cast] theorem zero_248 : zeroOf P0 248 = some (.int .u32 0) := by kernel_rfl
@[push_cast] theorem cells_248 : P0.cellsOf 248 = 1 := by kernel_rfl
@[push_cast] theorem bytes_248 : P0.bytesOf 248 = 4 := by kernel_rfl
@[push_cast] theorem sh_248 : shOf P0 40 248 = .leaf := by kernel_rfl
@[push_cast] theorem lay_250 : lay P0 250 = .int .u64 := by kernel_rfl
@[push_cast] theorem und_250 : P0.underlying 250 = some (.int .u64) := by kernel_rfl
@[push_cast] theorem zero_250 : zeroOf P0 250 = some (.int .u64 0) := by kernel_rfl
@[push_cast] theorem cells_250 : P0.cellsOf 250 = 1 := by kernel_rfl
@[push_cast] theorem bytes_250 : P0.bytesOf 250 = 8 := by kernel_rfl
@[push_cast] theorem sh_250 : shOf P0 40 250 = .leaf := by kernel_rfl
@[push_cast] theorem lay_258 : lay P0 258 = .int .u64 := by kernel_rfl
@[push_cast] theorem und_258 : P0.underlying 258 = some (.int .u64) := by kernel_rfl
@[push_cast] theorem zero_258 : zeroOf P0 258 = some (.int .u64 0) := by kernel_rfl
@[push_cast] theorem cells_258 : P0.cellsOf 258 = 1 := by kernel_rfl
@[push_cast] theorem bytes_258 : P0.bytesOf 258 = 8 := by kernel_rfl
@[push_cast] theorem sh_258 : shOf P0 40 258 = .leaf := by kernel_rfl
@[push_cast] theorem gt_32 : P0.eqGuardType P0.depth 32 = false := by kernel_rfl
@[push_cast] theorem gt_118 : P0.eqGuardType P0.depth 118 = false := by kernel_rfl
@[push_cast] theorem gt_137 : P0.eqGuardType P0.depth 137 = false := by kernel_rfl
@[push_cast] theorem gt_146 : P0.eqGuardType P0.depth 146 = false := by kernel_rfl
@[push_cast] theorem gt_164 : P0.eqGuardType P0.depth 164 = false := by kernel_rfl
@[push_cast] theorem gt_208 : P0.eqGuardType P0.depth 208 = false := by kernel_rfl
@[push_cast] theorem gt_212 : P0.eqGuardType P0.depth 212 = false := by kernel_rfl
@[push_cast] theorem key_9 : keyLay P0 9 = some (false, [.str]) := by kernel_rfl
@[push_cast] theorem key_32 : keyLay P0 32 = some (true, [.str, .str, .str]) := by kernel_rfl
@[push_cast] theorem key_118 : keyLay P0 118 = some (true, [.str, .str]) := by kernel_rfl
@[push_cast] theorem key_137 : keyLay P0 137 = some (true, [.str, .str, .str]) := by kernel_rfl
@[push_cast] theorem key_146 : keyLay P0 146 = some (true, [.int .i64, .int .i64]) := by kernel_rfl
@[push_cast] theorem key_164 : keyLay P0 164 = some (true, [.str, .str]) := by kernel_rfl
@[push_cast] theorem key_208 : keyLay P0 208 = some (true, [.str, .int .i64]) := by kernel_rfl
@[push_cast] theorem key_212 : keyLay P0 212 = some (true, [.str, .int .i64]) := by kernel_rfl
@[push_cast] theorem nt_2 : Try.f2.ntmps = 1 := rfl
@[push_cast] theorem nt_3 : Try.f3.ntmps = 207 := rfl
@[push_cast] theorem nt_4 : Try.f4.ntmps = 170 := rfl
@[push_cast] theorem nt_5 : Try.f5.ntmps = 124 := rfl
@[push_cast] theorem nt_6 : Try.f6.ntmps = 96 := rfl
@[push_cast] theorem nt_7 : Try.f7.ntmps = 69 := rfl
@[push_cast] theorem nt_8 : Try.f8.ntmps = 133 := rfl
@[push_cast] theorem nt_9 : Try.f9.ntmps = 9 := rfl
@[push_cast] theorem nt_10 : Try.f10.ntmps = 23 := rfl
@[push_cast] theorem nt_11 : Try.f11.ntmps = 15 := rfl
@[push_cast] theorem nt_12 : Try.f12.ntmps = 17 := rfl
@[push_cast] theorem nt_13 : Try.f13.ntmps = 25 := rfl
@[push_cast] theorem nt_14 : Try.f14.ntmps = 8 := rfl
@[push_cast] theorem nt_15 : Try.f15.ntmps = 24 := rfl
@[push_cast] theorem nt_16 : Try.f16.ntmps = 15 := rfl
@[push_cast] theorem nt_17 : Try.f17.ntmps = 24 := rfl
@[push_cast] theorem nt_18 : Try.f18.ntmps = 93 := rfl
@[push_cast] theorem nt_19 : Try.f19.ntmps = 104 := rfl
@[push_cast] theorem nt_20 : Try.f20.ntmps = 114 := rfl
@[push_cast] theorem nt_21 : Try.f21.ntmps = 33 := rfl
@[push_cast] theorem nt_22 : Try.f22.ntmps = 11 := rfl
@[push_cast] theorem nt_23 : Try.f23.ntmps = 24 := rfl
@[push_cast] theorem nt_24 : Try.f24.ntmps = 64 := rfl
@[push_cast] theorem nt_25 : Try.f25.ntmps = 12 := rfl
@[push_cast] theorem nt_26 : Try.f26.ntmps = 27 := rfl
@[push_cast] theorem nt_27 : Try.f27.ntmps = 9 := rfl
@[push_cast] theorem nt_28 : Try.f28.ntmps = 23 := rfl
@[push_cast] theorem nt_29 : Try.f29.ntmps = 11 := rfl
@[push_cast] theorem nt_30 : Try.f30.ntmps = 27 := rfl
@[push_cast] theorem nt_31 : Try.f31.ntmps = 10 := rfl
@[push_cast] theorem nt_32 : Try.f32.ntmps = 37 := rfl
@[push_cast] theorem nt_33 : Try.f33.ntmps = 12 := rfl
@[push_cast] theorem nt_34 : Try.f34.ntmps = 12 := rfl
@[push_cast] theorem nt_35 : Try.f35.ntmps = 93 := rfl
@[push_cast] theorem nt_36 : Try.f36.ntmps = 9 := rfl
@[push_cast] theorem nt_37 : Try.f37.ntmps = 12 := rfl
@[push_cast] theorem nt_38 : Try.f38.ntmps = 17 := rfl
@[push_cast] theorem nt_39 : Try.f39.ntmps = 11 := rfl
@[push_cast] theorem nt_40 : Try.f40.ntmps = 10 := rfl
@[push_cast] theorem nt_41 : Try.f41.ntmps = 14 := rfl
@[push_cast] theorem nt_42 : Try.f42.ntmps = 18 := rfl
@[push_cast] theorem nt_43 : Try.f43.ntmps = 59 := rfl
@[push_cast] theorem nt_44 : Try.f44.ntmps = 62 := rfl
@[push_cast] theorem nt_45 : Try.f45.ntmps = 38 := rfl
@[push_cast] theorem nt_46 : Try.f46.ntmps = 40 := rfl
@[push_cast] theorem nt_47 : Try.f47.ntmps = 27 := rfl
@[push_cast] theorem nt_48 : Try.f48.ntmps = 58 := rfl
@[push_cast] theorem nt_49 : Try.f49.ntmps = 18 := rfl
@[push_cast] theorem nt_50 : Try.f50.ntmps = 29 := rfl
@[push_cast] theorem nt_51 : Try.f51.ntmps = 33 := rfl
@[push_cast] theorem nt_52 : Try.f52.ntmps = 27 := rfl
@[push_cast] theorem nt_53 : Try.f53.ntmps = 61 := rfl
@[push_cast] theorem nt_54 : Try.f54.ntmps = 23 := rfl
@[push_cast] theorem nt_55 : Try.f55.ntmps = 69 := rfl
@[push_cast] theorem nt_56 : Try.f56.ntmps = 26 := rfl
@[push_cast] theorem nt_57 : Try.f57.ntmps = 27 := rfl
@[push_cast] theorem nt_58 : Try.f58.ntmps = 19 := rfl
@[push_cast] theorem nt_59 : Try.f59.ntmps = 20 := rfl
@[push_cast] theorem nt_60 : Try.f60.ntmps = 43 := rfl
@[push_cast] theorem nt_61 : Try.f61.ntmps = 22 := rfl
@[push_cast] theorem nt_62 : Try.f62.ntmps = 39 := rfl
@[push_cast] theorem nt_63 : Try.f63.ntmps = 11 := rfl
@[push_cast] theorem nt_64 : Try.f64.ntmps = 21 := rfl
@[push_cast] theorem nt_65 : Try.f65.ntmps = 21 := rfl
@[push_cast] theorem nt_66 : Try.f66.ntmps = 9 := rfl
@[push_cast] theorem nt_67 : Try.f67.ntmps = 6 := rfl
@[push_cast] theorem nt_68 : Try.f68.ntmps = 61 := rfl
@[push_cast] theorem nt_69 : Try.f69.ntmps = 10 := rfl
@[push_cast] theorem nt_70 : Try.f70.ntmps = 23 := rfl
@[push_cast] theorem nt_71 : Try.f71.ntmps = 28 := rfl
@[push_cast] theorem nt_72 : Try.f72.ntmps = 26 := rfl
@[push_cast] theorem nt_73 : Try.f73.ntmps = 26 := rfl
@[push_cast] theorem nt_74 : Try.f74.ntmps = 62 := rfl
@[push_cast] theorem nt_75 : Try.f75.ntmps = 34 := rfl
@[push_cast] theorem nt_76 : Try.f76.ntmps = 16 := rfl
@[push_cast] theorem nt_77 : Try.f77.ntmps = 16 := rfl
@[push_cast] theorem nt_78 : Try.f78.ntmps = 26 := rfl
@[push_cast] theorem nt_79 : Try.f79.ntmps = 58 := rfl
@[push_cast] theorem nt_80 : Try.f80.ntmps = 24 := rfl
@[push_cast] theorem nt_81 : Try.f81.ntmps = 30 := rfl
@[push_cast] theorem nt_82 : Try.f82.ntmps = 8 := rfl
@[push_cast] theorem nt_83 : Try.f83.ntmps = 21 := rfl
@[push_cast] theorem nt_84 : Try.f84.ntmps = 69 := rfl
@[push_cast] theorem nt_85 : Try.f85.ntmps = 104 := rfl
@[push_cast] theorem nt_86 : Try.f86.ntmps = 8 := rfl
@[push_cast] theorem nt_87 : Try.f87.ntmps = 34 := rfl
@[push_cast] theorem nt_88 : Try.f88.ntmps = 27 := rfl
@[push_cast] theorem nt_89 : Try.f89.ntmps = 27 := rfl
@[push_cast] theorem nt_90 : Try.f90.ntmps = 23 := rfl
@[push_cast] theorem nt_91 : Try.f91.ntmps = 14 := rfl
@[push_cast] theorem nt_92 : Try.f92.ntmps = 27 := rfl
@[push_cast] theorem nt_93 : Try.f93.ntmps = 20 := rfl
@[push_cast] theorem nt_94 : Try.f94.ntmps = 27 := rfl
@[push_cast] theorem nt_95 : Try.f95.ntmps = 20 := rfl
@[push_cast] theorem nt_96 : Try.f96.ntmps = 31 := rfl
@[push_cast] theorem nt_97 : Try.f97.ntmps = 27 := rfl
@[push_cast] theorem nt_98 : Try.f98.ntmps = 23 := rfl
@[push_cast] theorem nt_99 : Try.f99.ntmps = 47 := rfl
@[push_cast] theorem nt_100 : Try.f100.ntmps = 16 := rfl
@[push_cast] theorem nt_101 : Try.f101.ntmps = 22 := rfl
@[push_cast] theorem nt_102 : Try.f102.ntmps = 35 := rfl
@[push_cast] theorem nt_103 : Try.f103.ntmps = 23 := rfl
@[push_cast] theorem nt_104 : Try.f104.ntmps = 23 := rfl
@[push_cast] theorem nt_105 : Try.f105.ntmps = 138 := rfl
@[push_cast] theorem nt_106 : Try.f106.ntmps = 27 := rfl
@[push_cast] theorem nt_107 : Try.f107.ntmps = 27 := rfl
@[push_cast] theorem nt_108 : Try.f108.ntmps = 27 := rfl
@[push_cast] theorem nt_109 : Try.f109.ntmps = 90 := rfl
@[push_cast] theorem nt_110 : Try.f110.ntmps = 27 := rfl
@[push_cast] theorem nt_111 : Try.f111.ntmps = 19 := rfl
@[push_cast] theorem nt_112 : Try.f112.ntmps = 31 := rfl
@[push_cast] theorem nt_113 : Try.f113.ntmps = 21 := rfl
@[push_cast] theorem nt_114 : Try.f114.ntmps = 28 := rfl
@[push_cast] theorem nt_115 : Try.f115.ntmps = 27 := rfl
@[push_cast] theorem nt_116 : Try.f116.ntmps = 58 := rfl
@[push_cast] theorem nt_117 : Try.f117.ntmps = 64 := rfl
@[push_cast] theorem nt_118 : Try.f118.ntmps = 22 := rfl
@[push_cast] theorem nt_119 : Try.f119.ntmps = 23 := rfl
@[push_cast] theorem nt_120 : Try.f120.ntmps = 64 := rfl
@[push_cast] theorem nt_121 : Try.f121.ntmps = 14 := rfl
@[push_cast] theorem nt_122 : Try.f122.ntmps = 17 := rfl
@[push_cast] theorem nt_123 : Try.f123.ntmps = 18 := rfl
@[push_cast] theorem nt_124 : Try.f124.ntmps = 20 := rfl
@[push_cast] theorem nt_125 : Try.f125.ntmps = 61 := rfl
@[push_cast] theorem nt_126 : Try.f126.ntmps = 15 := rfl
@[push_cast] theorem nt_127 : Try.f127.ntmps = 27 := rfl
@[push_cast] theorem nt_128 : Try.f128.ntmps = 28 := rfl
@[push_cast] theorem nt_129 : Try.f129.ntmps = 24 := rfl
@[push_cast] theorem nt_130 : Try.f130.ntmps = 14 := rfl
@[push_cast] theorem nt_131 : Try.f131.ntmps = 17 := rfl
@[push_cast] theorem nt_132 : Try.f132.ntmps = 9 := rfl
@[push_cast] theorem nt_133 : Try.f133.ntmps = 4 := rfl
@[push_cast] theorem nt_134 : Try.f134.ntmps = 20 := rfl
@[push_cast] theorem nt_135 : Try.f135.ntmps = 20 := rfl
@[push_cast] theorem nt_136 : Try.f136.ntmps = 19 := rfl
@[push_cast] theorem nt_137 : Try.f137.ntmps = 58 := rfl
@[push_cast] theorem nt_138 : Try.f138.ntmps = 77 := rfl
@[push_cast] theorem nt_139 : Try.f139.ntmps = 43 := rfl
@[push_cast] theorem nt_140 : Try.f140.ntmps = 10 := rfl
@[push_cast] theorem nt_141 : Try.f141.ntmps = 22 := rfl
@[push_cast] theorem nt_142 : Try.f142.ntmps = 10 := rfl
@[push_cast] theorem nt_143 : Try.f143.ntmps = 20 := rfl
@[push_cast] theorem nt_144 : Try.f144.ntmps = 19 := rfl
@[push_cast] theorem nt_145 : Try.f145.ntmps = 9 := rfl
@[push_cast] theorem nt_146 : Try.f146.ntmps = 12 := rfl
@[push_cast] theorem nt_147 : Try.f147.ntmps = 12 := rfl
@[push_cast] theorem nt_148 : Try.f148.ntmps = 16 := rfl
@[push_cast] theorem nt_149 : Try.f149.ntmps = 62 := rfl
@[push_cast] theorem nt_150 : Try.f150.ntmps = 36 := rfl
@[push_cast] theorem nt_151 : Try.f151.ntmps = 89 := rfl
@[push_cast] theorem nt_152 : Try.f152.ntmps = 4 := rfl
@[push_cast] theorem nt_153 : Try.f153.ntmps = 70 := rfl
@[push_cast] theorem nt_154 : Try.f154.ntmps = 39 := rfl
@[push_cast] theorem nt_155 : Try.f155.ntmps = 15 := rfl
@[push_cast] theorem nt_156 : Try.f156.ntmps = 26 := rfl
@[push_cast] theorem nt_157 : Try.f157.ntmps = 19 := rfl
@[push_cast] theorem nt_158 : Try.f158.ntmps = 21 := rfl
@[push_cast] theorem nt_159 : Try.f159.ntmps = 13 := rfl
@[push_cast] theorem nt_160 : Try.f160.ntmps = 23 := rfl
@[push_cast] theorem nt_161 : Try.f161.ntmps = 39 := rfl
@[push_cast] theorem nt_162 : Try.f162.ntmps = 97 := rfl
@[push_cast] theorem nt_163 : Try.f163.ntmps = 18 := rfl
@[push_cast] theorem nt_164 : Try.f164.ntmps = 11 := rfl
@[push_cast] theorem nt_165 : Try.f165.ntmps = 44 := rfl
@[push_cast] theorem nt_166 : Try.f166.ntmps = 40 := rfl
@[push_cast] theorem nt_167 : Try.f167.ntmps = 53 := rfl
@[push_cast] theorem nt_168 : Try.f168.ntmps = 148 := rfl
@[push_cast] theorem nt_169 : Try.f169.ntmps = 8 := rfl
@[push_cast] theorem nt_170 : Try.f170.ntmps = 6 := rfl
@[push_cast] theorem nt_171 : Try.f171.ntmps = 15 := rfl
@[push_cast] theorem nt_172 : Try.f172.ntmps = 148 := rfl
@[push_cast] theorem nt_173 : Try.f173.ntmps = 5 := rfl
@[push_cast] theorem nt_174 : Try.f174.ntmps = 11 := rfl
@[push_cast] theorem nt_175 : Try.f175.ntmps = 14 := rfl
@[push_cast] theorem nt_176 : Try.f176.ntmps = 17 := rfl
@[push_cast] theorem nt_178 : Try.f178.ntmps = 22 := rfl
@[push_cast] theorem nt_179 : Try.f179.ntmps = 27 := rfl
@[push_cast] theorem nt_180 : Try.f180.ntmps = 47 := rfl
@[push_cast] theorem nt_181 : Try.f181.ntmps = 52 := rfl
@[push_cast] theorem nt_182 : Try.f182.ntmps = 8 := rfl
@[push_cast] theorem nt_183 : Try.f183.ntmps = 53 := rfl
@[push_cast] theorem nt_184 : Try.f184.ntmps = 60 := rfl
@[push_cast] theorem nt_185 : Try.f185.ntmps = 67 := rfl
@[push_cast] theorem nt_186 : Try.f186.ntmps = 63 := rfl
@[push_cast] theorem nt_187 : Try.f187.ntmps = 34 := rfl
@[push_cast] theorem nt_188 : Try.f188.ntmps = 141 := rfl
@[push_cast] theorem nt_189 : Try.f189.ntmps = 90 := rfl
@[push_cast] theorem nt_190 : Try.f190.ntmps = 178 := rfl
@[push_cast] theorem nt_191 : Try.f191.ntmps = 19 := rfl
@[push_cast] theorem nt_192 : Try.f192.ntmps = 25 := rfl
@[push_cast] theorem nt_193 : Try.f193.ntmps = 53 := rfl
@[push_cast] theorem nt_194 : Try.f194.ntmps = 60 := rfl
@[push_cast] theorem nt_195 : Try.f195.ntmps = 67 := rfl
@[push_cast] theorem nt_196 : Try.f196.ntmps = 63 := rfl
@[push_cast] theorem nt_197 : Try.f197.ntmps = 34 := rfl
@[push_cast] theorem nt_198 : Try.f198.ntmps = 141 := rfl
@[push_cast] theorem nt_199 : Try.f199.ntmps = 90 := rfl
@[push_cast] theorem nt_200 : Try.f200.ntmps = 178 := rfl
@[push_cast] theorem nt_201 : Try.f201.ntmps = 13 := rfl
@[push_cast] theorem nt_202 : Try.f202.ntmps = 134 := rfl
@[push_cast] theorem nt_203 : Try.f203.ntmps = 21 := rfl
@[push_cast] theorem nt_204 : Try.f204.ntmps = 8 := rfl
@[push_cast] theorem nt_205 : Try.f205.ntmps = 82 := rfl
@[push_cast] theorem nt_206 : Try.f206.ntmps = 7 := rfl
@[push_cast] theorem nt_207 : Try.f207.ntmps = 33 := rfl
@[push_cast] theorem nt_208 : Try.f208.ntmps = 18 := rfl
@[push_cast] theorem nt_209 : Try.f209.ntmps = 41 := rfl
@[push_cast] theorem nt_210 : Try.f210.ntmps = 82 := rfl
@[push_cast] theorem nt_211 : Try.f211.ntmps = 18 := rfl
@[push_cast] theorem nt_212 : Try.f212.ntmps = 41 := rfl
@[push_cast] theorem nt_213 : Try.f213.ntmps = 49 := rfl
@[push_cast] theorem nt_214 : Try.f214.ntmps = 56 := rfl
@[push_cast] theorem nt_215 : Try.f215.ntmps = 65 := rfl
@[push_cast] theorem nt_216 : Try.f216.ntmps = 57 := rfl
@[push_cast] theorem nt_217 : Try.f217.ntmps = 32 := rfl
@[push_cast] theorem nt_218 : Try.f218.ntmps = 133 := rfl
@[push_cast] theorem nt_219 : Try.f219.ntmps = 17 := rfl
@[push_cast] theorem nt_220 : Try.f220.ntmps = 84 := rfl
@[push_cast] theorem nt_221 : Try.f221.ntmps = 168 := rfl
@[push_cast] theorem nt_223 : Try.f223.ntmps = 32 := rfl
@[push_cast] theorem nt_224 : Try.f224.ntmps = 32 := rfl
@[push_cast] theorem nt_225 : Try.f225.ntmps = 76 := rfl
@[push_cast] theorem nt_226 : Try.f226.ntmps = 15 := rfl
@[push_cast] theorem nt_227 : Try.f227.ntmps = 36 := rfl
@[push_cast] theorem nt_228 : Try.f228.ntmps = 28 := rfl
@[push_cast] theorem nt_246 : Try.f246.ntmps = 72 := rfl
@[push_cast] theorem nt_247 : Try.f247.ntmps = 11 := rfl
@[push_cast] theorem nt_248 : Try.f248.ntmps = 18 := rfl
@[push_cast] theorem nt_249 : Try.f249.ntmps = 43 := rfl
@[push_cast] theorem nt_250 : Try.f250.ntmps = 18 := rfl
@[push_cast] theorem nt_251 : Try.f251.ntmps = 18 := rfl
@[push_cast] theorem nt_252 : Try.f252.ntmps = 61 := rfl
@[push_cast] theorem nt_253 : Try.f253.ntmps = 20 := rfl

end Go.Proofs.Ythhgcklidfilfaa.BX
