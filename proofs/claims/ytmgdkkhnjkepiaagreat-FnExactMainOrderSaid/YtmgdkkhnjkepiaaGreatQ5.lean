/-
  Part 5 of what LFnExactMainOrder leans on: its texts, merged by a program (prune.py), with what it needs alone.
-/
import Derived.Test.YtmgdkkhnjkepiaaGreatQ4
import Derived.Test.YtmgdkkhnjkepiaaGreatProg
import Derived.KernelRfl
import Derived.Carry
import Derived.OpenShut
import Derived.WalkKit
import Derived.ProofKit
import Derived.Laws.Externs
import Derived.Laws.Runes
import Derived.Test.YtmgdkkhnjkepiaaGreatSm
import Derived.Shelf.Sort.Plain
import Derived.Shelf.Slices.In.SortNone
namespace Go.Proofs.YtmgdkkhnjkepiaaGreat.BX
set_option linter.unusedSectionVars false
set_option linter.unusedSimpArgs false
set_option linter.unusedVariables false
open Go Go.RowKit
noncomputable abbrev P0 : Program := Tryz.prog
theorem mixed : P0.follows .mixedOrders = true := by kernel_rfl
@[push_cast] theorem lay_3 : lay P0 3 = .int .i64 := by kernel_rfl
@[push_cast] theorem zero_3 : zeroOf P0 3 = some (.int .i64 0) := by kernel_rfl
@[push_cast] theorem cells_3 : P0.cellsOf 3 = 1 := by kernel_rfl
@[push_cast] theorem sh_3 : shOf P0 40 3 = .leaf := by kernel_rfl
@[push_cast] theorem lay_4 : lay P0 4 = .bool := by kernel_rfl
@[push_cast] theorem cells_4 : P0.cellsOf 4 = 1 := by kernel_rfl
@[push_cast] theorem lay_5 : lay P0 5 = .int .u8 := by kernel_rfl
@[push_cast] theorem und_5 : P0.underlying 5 = some (.int .u8) := by kernel_rfl
@[push_cast] theorem zero_5 : zeroOf P0 5 = some (.int .u8 0) := by kernel_rfl
@[push_cast] theorem sh_5 : shOf P0 40 5 = .leaf := by kernel_rfl
@[push_cast] theorem lay_9 : lay P0 9 = .str := by kernel_rfl
@[push_cast] theorem zero_9 : zeroOf P0 9 = some (.string ⟨#[]⟩) := by kernel_rfl
@[push_cast] theorem cells_9 : P0.cellsOf 9 = 1 := by kernel_rfl
@[push_cast] theorem bytes_9 : P0.bytesOf 9 = 16 := by kernel_rfl
@[push_cast] theorem sh_9 : shOf P0 40 9 = .leaf := by kernel_rfl
@[push_cast] theorem lay_22 : lay P0 22 = .sli 29 10 := by kernel_rfl
@[push_cast] theorem lay_24 : lay P0 24 = .st [(0, 1)] 1 := by kernel_rfl
@[push_cast] theorem lay_26 : lay P0 26 = .sli 9 1 := by kernel_rfl
@[push_cast] theorem cells_26 : P0.cellsOf 26 = 1 := by kernel_rfl
@[push_cast] theorem lay_27 : lay P0 27 = .sli 158 2 := by kernel_rfl
@[push_cast] theorem lay_29 : lay P0 29 = .st [(0, 1), (1, 1), (2, 1), (3, 1), (4, 1), (5, 1), (6, 1), (7, 1), (8, 1), (9, 1)] 10 := by kernel_rfl
@[push_cast] theorem lay_34 : lay P0 34 = .sli 42 10 := by kernel_rfl
@[push_cast] theorem cells_34 : P0.cellsOf 34 = 1 := by kernel_rfl
@[push_cast] theorem lay_36 : lay P0 36 = .st [(0, 1)] 1 := by kernel_rfl
@[push_cast] theorem zero_36 : zeroOf P0 36 = some (.agg #[.slice none 0 0]) := by kernel_rfl
@[push_cast] theorem cells_36 : P0.cellsOf 36 = 1 := by kernel_rfl
@[push_cast] theorem lay_40 : lay P0 40 = .sli 138 2 := by kernel_rfl
@[push_cast] theorem cells_40 : P0.cellsOf 40 = 1 := by kernel_rfl
@[push_cast] theorem lay_42 : lay P0 42 = .st [(0, 1), (1, 1), (2, 1), (3, 1), (4, 1), (5, 1), (6, 1), (7, 1), (8, 1), (9, 1)] 10 := by kernel_rfl
@[push_cast] theorem zero_42 : zeroOf P0 42 = some (.agg #[.string ⟨#[]⟩, .string ⟨#[]⟩, .string ⟨#[]⟩, .bool false, .string ⟨#[]⟩, .int .i64 0, .slice none 0 0, .slice none 0 0, .string ⟨#[]⟩, .slice none 0 0]) := by kernel_rfl
@[push_cast] theorem cells_42 : P0.cellsOf 42 = 10 := by kernel_rfl
@[push_cast] theorem bytes_42 : P0.bytesOf 42 = 168 := by kernel_rfl
@[push_cast] theorem sh_42 : shOf P0 40 42 = .ag [.leaf, .leaf, .leaf, .leaf, .leaf, .leaf, .sl 9 1 .leaf, .sl 9 1 .leaf, .leaf, .sl 138 2 (.ag [.leaf, .leaf])] := by kernel_rfl
@[push_cast] theorem lay_55 : lay P0 55 = .sli 5 1 := by kernel_rfl
@[push_cast] theorem lay_66 : lay P0 66 = .sli 3 1 := by kernel_rfl
@[push_cast] theorem lay_103 : lay P0 103 = .ptr := by kernel_rfl
@[push_cast] theorem lay_138 : lay P0 138 = .st [(0, 1), (1, 1)] 2 := by kernel_rfl
@[push_cast] theorem zero_138 : zeroOf P0 138 = some (.agg #[.string ⟨#[]⟩, .int .i64 0]) := by kernel_rfl
@[push_cast] theorem cells_138 : P0.cellsOf 138 = 2 := by kernel_rfl
@[push_cast] theorem bytes_138 : P0.bytesOf 138 = 24 := by kernel_rfl
@[push_cast] theorem sh_138 : shOf P0 40 138 = .ag [.leaf, .leaf] := by kernel_rfl
@[push_cast] theorem lay_158 : lay P0 158 = .st [(0, 1), (1, 1)] 2 := by kernel_rfl
@[push_cast] theorem lay_168 : lay P0 168 = .map 9 3 := by kernel_rfl
@[push_cast] theorem zero_168 : zeroOf P0 168 = some (.map none) := by kernel_rfl
@[push_cast] theorem cells_168 : P0.cellsOf 168 = 1 := by kernel_rfl
@[push_cast] theorem lay_170 : lay P0 170 = .st [(0, 1), (1, 1)] 2 := by kernel_rfl
@[push_cast] theorem zero_170 : zeroOf P0 170 = some (.agg #[.slice none 0 0, .map none]) := by kernel_rfl
@[push_cast] theorem lay_230 : lay P0 230 = .st [(0, 1), (1, 1), (2, 1), (3, 1)] 4 := by kernel_rfl
@[push_cast] theorem zero_230 : zeroOf P0 230 = some (.agg #[.bool false, .string ⟨#[]⟩, .slice none 0 0, .bool false]) := by kernel_rfl
@[push_cast] theorem cells_230 : P0.cellsOf 230 = 4 := by kernel_rfl
@[push_cast] theorem lay_232 : lay P0 232 = .st [(0, 4)] 4 := by kernel_rfl
@[push_cast] theorem zero_232 : zeroOf P0 232 = some (.agg #[.bool false, .string ⟨#[]⟩, .slice none 0 0, .bool false]) := by kernel_rfl
@[push_cast] theorem lay_234 : lay P0 234 = .st [(0, 4), (4, 1), (5, 1)] 6 := by kernel_rfl
@[push_cast] theorem zero_234 : zeroOf P0 234 = some (.agg #[.bool false, .string ⟨#[]⟩, .slice none 0 0, .bool false, .bool false, .string ⟨#[]⟩]) := by kernel_rfl
@[push_cast] theorem lay_235 : lay P0 235 = .st [(0, 4)] 4 := by kernel_rfl
@[push_cast] theorem zero_235 : zeroOf P0 235 = some (.agg #[.bool false, .string ⟨#[]⟩, .slice none 0 0, .bool false]) := by kernel_rfl
@[push_cast] theorem lay_236 : lay P0 236 = .st [(0, 4)] 4 := by kernel_rfl
@[push_cast] theorem zero_236 : zeroOf P0 236 = some (.agg #[.bool false, .string ⟨#[]⟩, .slice none 0 0, .bool false]) := by kernel_rfl
@[push_cast] theorem lay_237 : lay P0 237 = .st [(0, 4)] 4 := by kernel_rfl
@[push_cast] theorem zero_237 : zeroOf P0 237 = some (.agg #[.bool false, .string ⟨#[]⟩, .slice none 0 0, .bool false]) := by kernel_rfl
@[push_cast] theorem key_9 : keyLay P0 9 = some (false, [.str]) := by kernel_rfl
@[push_cast] theorem nt_4 : Tryz.f4.ntmps = 127 := rfl
@[push_cast] theorem nt_12 : Tryz.f12.ntmps = 12 := rfl
@[push_cast] theorem nt_14 : Tryz.f14.ntmps = 59 := rfl
@[push_cast] theorem nt_16 : Tryz.f16.ntmps = 9 := rfl
@[push_cast] theorem nt_18 : Tryz.f18.ntmps = 38 := rfl
@[push_cast] theorem nt_20 : Tryz.f20.ntmps = 11 := rfl
@[push_cast] theorem nt_22 : Tryz.f22.ntmps = 58 := rfl
@[push_cast] theorem nt_23 : Tryz.f23.ntmps = 28 := rfl
@[push_cast] theorem nt_24 : Tryz.f24.ntmps = 29 := rfl
@[push_cast] theorem nt_25 : Tryz.f25.ntmps = 22 := rfl
@[push_cast] theorem nt_26 : Tryz.f26.ntmps = 36 := rfl
@[push_cast] theorem nt_27 : Tryz.f27.ntmps = 26 := rfl
@[push_cast] theorem nt_28 : Tryz.f28.ntmps = 10 := rfl
@[push_cast] theorem nt_29 : Tryz.f29.ntmps = 20 := rfl
@[push_cast] theorem nt_30 : Tryz.f30.ntmps = 22 := rfl
@[push_cast] theorem nt_38 : Tryz.f38.ntmps = 23 := rfl
@[push_cast] theorem nt_58 : Tryz.f58.ntmps = 27 := rfl
@[push_cast] theorem nt_60 : Tryz.f60.ntmps = 27 := rfl
@[push_cast] theorem nt_61 : Tryz.f61.ntmps = 58 := rfl
@[push_cast] theorem nt_64 : Tryz.f64.ntmps = 23 := rfl
@[push_cast] theorem nt_66 : Tryz.f66.ntmps = 23 := rfl
@[push_cast] theorem nt_67 : Tryz.f67.ntmps = 23 := rfl
@[push_cast] theorem nt_69 : Tryz.f69.ntmps = 64 := rfl
@[push_cast] theorem nt_72 : Tryz.f72.ntmps = 27 := rfl
@[push_cast] theorem nt_74 : Tryz.f74.ntmps = 27 := rfl
@[push_cast] theorem nt_75 : Tryz.f75.ntmps = 29 := rfl
@[push_cast] theorem nt_76 : Tryz.f76.ntmps = 22 := rfl
@[push_cast] theorem nt_77 : Tryz.f77.ntmps = 74 := rfl
@[push_cast] theorem nt_78 : Tryz.f78.ntmps = 53 := rfl
@[push_cast] theorem nt_79 : Tryz.f79.ntmps = 27 := rfl
@[push_cast] theorem nt_80 : Tryz.f80.ntmps = 72 := rfl
@[push_cast] theorem nt_81 : Tryz.f81.ntmps = 90 := rfl
@[push_cast] theorem nt_82 : Tryz.f82.ntmps = 20 := rfl
@[push_cast] theorem nt_90 : Tryz.f90.ntmps = 62 := rfl
@[push_cast] theorem nt_92 : Tryz.f92.ntmps = 4 := rfl
@[push_cast] theorem nt_93 : Tryz.f93.ntmps = 39 := rfl
@[push_cast] theorem nt_95 : Tryz.f95.ntmps = 70 := rfl
@[push_cast] theorem nt_104 : Tryz.f104.ntmps = 22 := rfl
@[push_cast] theorem nt_110 : Tryz.f110.ntmps = 18 := rfl
@[push_cast] theorem nt_111 : Tryz.f111.ntmps = 20 := rfl
@[push_cast] theorem nt_115 : Tryz.f115.ntmps = 13 := rfl
@[push_cast] theorem nt_116 : Tryz.f116.ntmps = 23 := rfl
@[push_cast] theorem nt_117 : Tryz.f117.ntmps = 39 := rfl
@[push_cast] theorem nt_118 : Tryz.f118.ntmps = 97 := rfl
@[push_cast] theorem nt_127 : Tryz.f127.ntmps = 11 := rfl
@[push_cast] theorem nt_129 : Tryz.f129.ntmps = 44 := rfl
@[push_cast] theorem nt_130 : Tryz.f130.ntmps = 40 := rfl
@[push_cast] theorem nt_131 : Tryz.f131.ntmps = 53 := rfl
@[push_cast] theorem nt_140 : Tryz.f140.ntmps = 15 := rfl
@[push_cast] theorem nt_141 : Tryz.f141.ntmps = 12 := rfl
@[push_cast] theorem nt_142 : Tryz.f142.ntmps = 19 := rfl
@[push_cast] theorem nt_143 : Tryz.f143.ntmps = 18 := rfl
@[push_cast] theorem nt_144 : Tryz.f144.ntmps = 46 := rfl
@[push_cast] theorem nt_145 : Tryz.f145.ntmps = 38 := rfl
@[push_cast] theorem nt_146 : Tryz.f146.ntmps = 12 := rfl
@[push_cast] theorem nt_147 : Tryz.f147.ntmps = 4 := rfl
@[push_cast] theorem nt_148 : Tryz.f148.ntmps = 46 := rfl
@[push_cast] theorem nt_149 : Tryz.f149.ntmps = 20 := rfl
@[push_cast] theorem nt_150 : Tryz.f150.ntmps = 28 := rfl
@[push_cast] theorem nt_182 : Tryz.f182.ntmps = 6 := rfl
@[push_cast] theorem nt_186 : Tryz.f186.ntmps = 47 := rfl
@[push_cast] theorem nt_187 : Tryz.f187.ntmps = 52 := rfl
@[push_cast] theorem nt_193 : Tryz.f193.ntmps = 8 := rfl
@[push_cast] theorem nt_199 : Tryz.f199.ntmps = 8 := rfl
@[push_cast] theorem nt_200 : Tryz.f200.ntmps = 30 := rfl
@[push_cast] theorem nt_204 : Tryz.f204.ntmps = 6 := rfl
@[push_cast] theorem nt_226 : Tryz.f226.ntmps = 21 := rfl
@[push_cast] theorem nt_232 : Tryz.f232.ntmps = 41 := rfl
@[push_cast] theorem nt_307 : Tryz.f307.ntmps = 11 := rfl
@[push_cast] theorem nt_308 : Tryz.f308.ntmps = 18 := rfl
@[push_cast] theorem nt_309 : Tryz.f309.ntmps = 43 := rfl
@[push_cast] theorem nt_310 : Tryz.f310.ntmps = 18 := rfl
@[push_cast] theorem nt_311 : Tryz.f311.ntmps = 18 := rfl
@[push_cast] theorem nt_312 : Tryz.f312.ntmps = 61 := rfl
@[push_cast] theorem nt_313 : Tryz.f313.ntmps = 20 := rfl
end Go.Proofs.YtmgdkkhnjkepiaaGreat.BX
namespace Go.Proofs.YtmgdkkhnjkepiaaGreat.BX
set_option linter.unusedSectionVars false
set_option linter.unusedSimpArgs false
set_option linter.unusedVariables false
open Go Go.RowKit
theorem iteI {p : Prop} [Decidable p] {A B : Prop} (h1 : p → A) (h2 : ¬ p → B) : if p then A else B := by
  by_cases h : p
  · rw [if_pos h]; exact h1 h
  · rw [if_neg h]; exact h2 h
def filled {α : Type} (f : α → T) (z : T) (xs : List α) (i : Nat) : List T := (xs.take i).map f ++ List.replicate (xs.length - i) z
section
variable {α : Type} {f : α → T} {z : T} {xs : List α} {i : Nat}
theorem filled_len (h : i ≤ xs.length) : (filled f z xs i).length = xs.length := by simp [filled]; omega
theorem filled_zero : filled f z xs 0 = List.replicate xs.length z := by simp [filled]
theorem filled_all : filled f z xs xs.length = xs.map f := by simp [filled]
theorem filled_at (h : i < xs.length) {K : T → Prop} : allAt (filled f z xs i) i K = K z := by
  have : (filled f z xs i)[i]? = some z := by
    unfold filled
    rw [List.getElem?_append_right (by rw [List.length_map, List.length_take]; omega), List.length_map, List.length_take, List.getElem?_replicate, if_pos (by omega)]
  simp only [allAt, this, Option.some.injEq, forall_eq']
theorem filled_set {a : α} (h : xs[i]? = some a) : (filled f z xs i).set i (f a) = filled f z xs (i + 1) := by
  have hi : i < xs.length := (List.getElem?_eq_some_iff.1 h).1
  unfold filled
  rw [List.set_append_right _ _ (by rw [List.length_map, List.length_take]; omega)]
  have : xs.length - i = (xs.length - (i + 1)) + 1 := by omega
  rw [this, List.replicate_succ, List.take_add_one, h]
  simp
  rw [Nat.min_eq_left (by omega), Nat.sub_self, List.set_cons_zero]
end
mutual
def T.wt : T → Nat
  | .s x => x.length
  | .ag cs => wts cs
  | .tp cs => wts cs
  | .sl es => es.length + wts es
  | _ => 0
def wts : List T → Nat
  | [] => 0
  | x :: xs => x.wt + wts xs
end
def szR (w : Nat) (n : Int) : Int := if (w : Int) ≤ n then n - w else -1
theorem szR_pos {w : Nat} {n : Int} (h : (w : Int) ≤ n) : szR w n = n - w := if_pos h
theorem szR_neg {w : Nat} {n : Int} (h : n < (w : Int)) : szR w n = -1 := if_neg (by omega)
theorem szR_cases (w : Nat) (n : Int) : ((w : Int) ≤ n ∧ szR w n = n - w) ∨ (n < (w : Int) ∧ szR w n = -1) := by
  by_cases h : (w : Int) ≤ n
  · exact .inl ⟨h, szR_pos h⟩
  · exact .inr ⟨by omega, szR_neg (by omega)⟩
theorem wts_append : ∀ (xs ys : List T), wts (xs ++ ys) = wts xs + wts ys
  | [], ys => by simp [wts]
  | x :: xs, ys => by simp only [List.cons_append, wts, wts_append xs ys]; omega
theorem wts_take {α : Type} {f : α → T} {xs : List α} {i : Nat} {a : α} (h : xs[i]? = some a) : wts ((xs.take (i + 1)).map f) = wts ((xs.take i).map f) + (f a).wt := by
  rw [List.take_add_one, h, List.map_append, wts_append]
  simp [wts]
theorem wts_take_le {α : Type} {f : α → T} (xs : List α) (i : Nat) : wts ((xs.take i).map f) ≤ wts (xs.map f) := by
  conv => rhs; rw [← List.take_append_drop i xs, List.map_append, wts_append]
  omega
theorem fitsAll_map {α : Type} {f : α → T} {s : Sh} (h : ∀ a, fits s (f a) = true) : ∀ {xs : List α}, fitsAll s (xs.map f) = true
  | [] => rfl
  | x :: r => by simp only [List.map_cons, fitsAll, h, fitsAll_map h, Bool.and_self]
section
variable {κ β : Type} [DecidableEq κ]
def aget (k : κ) : List (κ × β) → Option β
  | [] => none
  | p :: r => if p.1 = k then some p.2 else aget k r
def aset (k : κ) (v : β) : List (κ × β) → List (κ × β)
  | [] => [(k, v)]
  | p :: r => if p.1 = k then (p.1, v) :: r else p :: aset k v r
theorem aset_keys {k : κ} {v : β} : ∀ {l : List (κ × β)}, (aset k v l).map (·.1) = if k ∈ l.map (·.1) then l.map (·.1) else l.map (·.1) ++ [k]
  | [] => by simp [aset]
  | p :: r => by
    simp only [aset]
    split
    · rename_i h; simp [h]
    · rename_i h
      have : ¬ k = p.1 := fun e => h e.symm
      rw [List.map_cons, aset_keys (l := r)]
      simp only [List.map_cons, List.mem_cons, this, false_or]
      split <;> rfl
theorem aset_nodup {k : κ} {v : β} {l : List (κ × β)} (h : (l.map (·.1)).Nodup) : ((aset k v l).map (·.1)).Nodup := by
  rw [aset_keys]
  split
  · exact h
  · rename_i hk
    rw [List.nodup_append]
    exact ⟨h, by simp, fun a ha b hb => by simp only [List.mem_singleton] at hb; subst hb; rintro rfl; exact hk ha⟩
theorem aset_len {k : κ} {v : β} : ∀ {l : List (κ × β)}, l.length ≤ (aset k v l).length ∧ (aset k v l).length ≤ l.length + 1
  | [] => by simp [aset]
  | p :: r => by
    simp only [aset]
    have := aset_len (k := k) (v := v) (l := r)
    split <;> simp <;> omega
theorem aget_set {k k' : κ} {v : β} : ∀ {l : List (κ × β)}, aget k' (aset k v l) = if k = k' then some v else aget k' l
  | [] => by simp [aset, aget]
  | p :: r => by
    simp only [aset]
    split
    · rename_i h
      simp only [aget, h]
      split <;> rfl
    · rename_i h
      simp only [aget, aget_set (l := r)]
      by_cases h1 : p.1 = k'
      · simp only [h1, if_true]
        rw [if_neg (fun e => h (h1.trans e.symm))]
      · simp only [h1, if_false]
theorem aget_none {k : κ} : ∀ {l : List (κ × β)}, aget k l = none ↔ k ∉ l.map (·.1)
  | [] => by simp [aget]
  | p :: r => by
    simp only [aget, List.map_cons, List.mem_cons, not_or]
    split
    · rename_i h; simp [h]
    · rename_i h; rw [aget_none (l := r)]; exact ⟨fun hh => ⟨fun e => h e.symm, hh⟩, fun hh => hh.2⟩
variable {ek : κ → T} {ev : β → T} (hinj : ∀ a b, ek a = ek b → a = b)
include hinj
theorem place_assoc {k : κ} : ∀ {l : List (κ × β)} {i : Nat}, (placeT (ek k) (l.map fun p => ek p.1) i = none ∧ k ∉ l.map (·.1)) ∨ ∃ (j : Nat) (p : κ × β), placeT (ek k) (l.map fun p => ek p.1) i = some (i + j) ∧ l[j]? = some p ∧ p.1 = k ∧ k ∉ (l.take j).map (·.1)
  | [], i => .inl ⟨rfl, by simp⟩
  | p :: r, i => by
    simp only [List.map_cons, placeT]
    by_cases h : p.1 = k
    · subst h
      exact .inr ⟨0, p, by simp, rfl, rfl, by simp⟩
    · have h' : ¬ ek k = ek p.1 := fun e => h (hinj _ _ e).symm
      rw [if_neg h']
      rcases place_assoc (k := k) (l := r) (i := i + 1) with ⟨h1, h2⟩ | ⟨j, q, h1, h2, h3, h4⟩
      · exact .inl ⟨h1, by simp only [List.mem_cons, not_or]; exact ⟨fun e => h e.symm, h2⟩⟩
      · refine .inr ⟨j + 1, q, by rw [h1]; congr 1; omega, by simpa using h2, h3, ?_⟩
        simp only [List.take_succ_cons, List.map_cons, List.mem_cons, not_or]
        exact ⟨fun e => h e.symm, h4⟩
omit hinj in
theorem aset_at {k : κ} {v : β} : ∀ {l : List (κ × β)} {j : Nat} {p : κ × β}, l[j]? = some p → p.1 = k → k ∉ (l.take j).map (·.1) → aset k v l = l.set j (k, v)
  | [], j, p, h, _, _ => by simp at h
  | q :: r, 0, p, h, hk, _ => by simp at h; subst h; simp [aset, hk]
  | q :: r, j + 1, p, h, hk, hn => by
    simp only [List.getElem?_cons_succ] at h
    simp only [List.take_succ_cons, List.map_cons, List.mem_cons, not_or] at hn
    simp only [aset, List.set_cons_succ]
    rw [if_neg (fun e => hn.1 e.symm), aset_at h hk hn.2]
omit hinj in
theorem aset_new {k : κ} {v : β} : ∀ {l : List (κ × β)}, k ∉ l.map (·.1) → aset k v l = l ++ [(k, v)]
  | [], _ => rfl
  | q :: r, hn => by
    simp only [List.map_cons, List.mem_cons, not_or] at hn
    simp only [aset, List.cons_append]
    rw [if_neg (fun e => hn.1 e.symm), aset_new hn.2]
theorem upd_assoc {k : κ} {v : β} {l : List (κ × β)} : updK (l.map fun p => ek p.1) (ek k) = (aset k v l).map (fun p => ek p.1) ∧ updV (l.map fun p => ek p.1) (l.map fun p => ev p.2) (ek k) (ev v) = (aset k v l).map fun p => ev p.2 := by
  unfold updK updV
  rcases place_assoc hinj (k := k) (l := l) (i := 0) with ⟨h1, h2⟩ | ⟨j, p, h1, h2, h3, h4⟩
  · rw [h1, aset_new h2]; simp
  · rw [h1, aset_at h2 h3 h4]
    simp only [Nat.zero_add, List.map_set, and_true]
    refine List.ext_getElem? fun i => ?_
    rw [List.getElem?_set]
    split
    · rename_i hi
      subst hi
      have := (List.getElem?_eq_some_iff.1 h2).1
      rw [List.getElem?_map, h2]
      simp [h3, this]
    · rfl
omit hinj in
theorem aget_at {k : κ} : ∀ {l : List (κ × β)} {i : Nat} {p : κ × β}, (l.map (·.1)).Nodup → l[i]? = some p → p.1 = k → aget k l = some p.2
  | [], i, p, _, h, _ => by simp at h
  | q :: r, 0, p, _, h, hk => by simp at h; subst h; simp [aget, hk]
  | q :: r, i + 1, p, hn, h, hk => by
    simp only [List.map_cons, List.nodup_cons] at hn
    simp only [List.getElem?_cons_succ] at h
    simp only [aget]
    rw [if_neg ?_, aget_at hn.2 h hk]
    rintro rfl
    exact hn.1 (hk ▸ List.mem_map_of_mem (List.mem_of_getElem? h))
theorem look_assoc {s : Bool × List Lay} {z : Value} {k : κ} {ok : Bool} {kd : Kind} {K : AV → Prop} {l : List (κ × β)} (hn : (l.map (·.1)).Nodup) (hk : ∀ p ∈ l, isKey s (ek p.1)) (h1 : ∀ v, aget k l = some v → K (if ok = true then .tp [kd.look (ev v), .t (.b true)] else kd.look (ev v))) (h2 : aget k l = none → K (if ok = true then .tp [ofV z, .t (.b false)] else ofV z)) :
    lookM s z (ek k) ok kd (l.map fun p => ek p.1) (l.map fun p => ev p.2) K := by
  refine ⟨?_, fun i v hi hv => ?_, fun hh => h2 (aget_none.2 fun hm => hh ?_)⟩
  · intro y hy
    obtain ⟨p, hp, rfl⟩ := List.mem_map.1 hy
    exact hk p hp
  · rw [List.getElem?_map, Option.map_eq_some_iff] at hi hv
    obtain ⟨p, hp, hpk⟩ := hi
    obtain ⟨q, hq, rfl⟩ := hv
    rw [hp] at hq
    cases hq
    exact h1 p.2 (aget_at hn hp (hinj _ _ hpk))
  · obtain ⟨p, hp, rfl⟩ := List.mem_map.1 hm
    exact List.mem_map.2 ⟨p, hp, rfl⟩
end
end Go.Proofs.YtmgdkkhnjkepiaaGreat.BX
namespace Go.Proofs.YtmgdkkhnjkepiaaGreat.BX
set_option linter.unusedSectionVars false
set_option linter.unusedSimpArgs false
set_option linter.unusedVariables false
open Go Go.RowKit Go.ChangeShapes Go.WideShapes
mutual
def T.mx : T → Nat
  | .s x => x.length
  | .ag cs => mxs cs
  | .sl es => max es.length (mxs es)
  | _ => 0
def mxs : List T → Nat
  | [] => 0
  | x :: xs => max x.mx (mxs xs)
end
mutual
def T.wfi : T → Bool
  | .i k n => (Lit.int k n).wf
  | .ag cs => wfis cs
  | .sl es => wfis es
  | _ => true
def wfis : List T → Bool
  | [] => true
  | x :: xs => x.wfi && wfis xs
end
mutual
theorem mx_le_wt : ∀ x : T, x.mx ≤ x.wt
  | .s x => Nat.le_refl _
  | .ag cs => by simpa only [T.mx, T.wt] using mxs_le_wts cs
  | .sl es => by simp only [T.mx, T.wt]; have := mxs_le_wts es; omega
  | .b _ | .i _ _ | .tp _ | .po _ _ | .np | .nm | .ni | .ifc _ _ | .mp _ _ | .fn _ _ => by simp [T.mx]
theorem mxs_le_wts : ∀ xs : List T, mxs xs ≤ wts xs
  | [] => by simp [mxs]
  | x :: xs => by simp only [mxs, wts]; have := mx_le_wt x; have := mxs_le_wts xs; omega
end
theorem mx_of {x : T} {n : Nat} (h : x.wt ≤ n) : x.mx ≤ n := Nat.le_trans (mx_le_wt x) h
theorem mxs_nil {n : Nat} : mxs [] ≤ n := Nat.zero_le _
theorem mxs_cons {x : T} {xs : List T} {n : Nat} (h : x.mx ≤ n) (k : mxs xs ≤ n) : mxs (x :: xs) ≤ n := by simp only [mxs]; omega
@[reducible] def big : Bd := ⟨9223372036854775808, by omega, by omega, False⟩
@[reducible] def small : Bd := ⟨2147483648, by omega, by omega, False⟩
def Sees (w : World) (x : T) (v : Value) (L : List Nat) : Prop := x.mx < 9223372036854775808 ∧ x.wfi = true ∧ (∀ bd : Bd, x.mx < bd.B → @footT bd w x v L) ∧ ∀ b ∈ L, b < w.heap.size
def SeesL (w : World) (xs : List T) (vs : List Value) (L : List Nat) : Prop := mxs xs < 9223372036854775808 ∧ wfis xs = true ∧ (∀ bd : Bd, mxs xs < bd.B → @footTs bd w xs vs L) ∧ ∀ b ∈ L, b < w.heap.size
theorem SeesL.nil (w : World) : SeesL w [] [] [] := ⟨by simp [mxs], rfl, fun bd _ => by simp [footTs], by simp⟩
theorem SeesL.cons {w : World} {x : T} {xs : List T} {v : Value} {vs : List Value} {L M : List Nat} (h : Sees w x v L) (k : SeesL w xs vs M) : SeesL w (x :: xs) (v :: vs) (L ++ M) := by
  obtain ⟨h1, h2, h3, h4⟩ := h
  obtain ⟨k1, k2, k3, k4⟩ := k
  refine ⟨by simp only [mxs]; omega, by simp only [wfis, h2, k2, Bool.and_self], fun bd hb => ?_, fun b hb => (List.mem_append.1 hb).elim (h4 b) (k4 b)⟩
  simp only [mxs] at hb
  simp only [footTs]
  exact ⟨v, vs, L, M, rfl, rfl, h3 bd (by omega), k3 bd (by omega)⟩
theorem SeesL.append {w : World} {ys : List T} {us : List Value} {M : List Nat} (k : SeesL w ys us M) : ∀ {xs : List T} {vs : List Value} {L : List Nat}, SeesL w xs vs L → SeesL w (xs ++ ys) (vs ++ us) (L ++ M) := by
  have hmx : ∀ xs : List T, mxs (xs ++ ys) = max (mxs xs) (mxs ys) := by
    intro xs
    induction xs with
    | nil => simp [mxs]
    | cons x xs ih => simp only [List.cons_append, mxs, ih]; omega
  have hwf : ∀ xs : List T, wfis (xs ++ ys) = (wfis xs && wfis ys) := by
    intro xs
    induction xs with
    | nil => simp [wfis]
    | cons x xs ih => simp only [List.cons_append, wfis, ih, Bool.and_assoc]
  intro xs vs L h
  obtain ⟨h1, h2, h3, h4⟩ := h
  obtain ⟨k1, k2, k3, k4⟩ := k
  refine ⟨by rw [hmx]; omega, by rw [hwf, h2, k2]; rfl, fun bd hb => ?_, fun b hb => (List.mem_append.1 hb).elim (h4 b) (k4 b)⟩
  rw [hmx] at hb
  exact @footTs_append bd _ _ _ _ _ _ _ (h3 bd (by omega)) (k3 bd (by omega))
theorem SeesL.of {w : World} {α : Type} {h : α → T} : ∀ (l : List (α × Value × List Nat)), (∀ p ∈ l, Sees w (h p.1) p.2.1 p.2.2) → SeesL w (l.map fun p => h p.1) (l.map fun p => p.2.1) (l.flatMap fun p => p.2.2)
  | [], _ => .nil w
  | p :: l, hp => by
    simp only [List.map_cons, List.flatMap_cons]
    exact .cons (hp p (List.mem_cons_self ..)) (SeesL.of l fun q hq => hp q (List.mem_cons_of_mem _ hq))
theorem Sees.cells {w : World} {x : T} {v : Value} {L : List Nat} (h : Sees w x v L) : ∃ L', SeesL w x.cells v.cells.toList L' := by
  obtain ⟨h1, h2, h3, h4⟩ := h
  have hb := h3 big h1
  have one : v.cells = #[v] → x.cells = [x] → ∃ L', SeesL w x.cells v.cells.toList L' := by
    intro e1 e2
    rw [e1, e2]
    exact ⟨L ++ [], SeesL.cons ⟨h1, h2, h3, h4⟩ (SeesL.nil w)⟩
  cases x with
  | ag cs =>
    refine ⟨L, h1, h2, fun bd hbd => ?_, h4⟩
    have := h3 bd hbd
    simp only [footT] at this
    obtain ⟨vs, rfl, h⟩ := this
    simpa [Value.cells, T.cells] using h
  | b => simp only [footT] at hb; obtain ⟨rfl, _⟩ := hb; exact one rfl rfl
  | i => simp only [footT] at hb; obtain ⟨rfl, _⟩ := hb; exact one rfl rfl
  | s => simp only [footT] at hb; obtain ⟨rfl, _⟩ := hb; exact one rfl rfl
  | np => simp only [footT] at hb; obtain ⟨rfl, _⟩ := hb; exact one rfl rfl
  | nm => simp only [footT] at hb; obtain ⟨rfl, _⟩ := hb; exact one rfl rfl
  | ni => simp only [footT] at hb; obtain ⟨rfl, _⟩ := hb; exact one rfl rfl
  | tp cs => simp only [footT] at hb; obtain ⟨_, rfl, _⟩ := hb; exact one rfl rfl
  | sl es => simp only [footT] at hb; obtain ⟨_, _, rfl, _⟩ := hb; exact one rfl rfl
  | po => simp only [footT] at hb; obtain ⟨_, _, _, _, rfl, _⟩ := hb; exact one rfl rfl
  | ifc => simp only [footT] at hb; obtain ⟨_, rfl, _⟩ := hb; exact one rfl rfl
  | mp => simp only [footT] at hb; obtain ⟨_, _, _, _, _, _, rfl, _⟩ := hb; exact one rfl rfl
  | fn => simp only [footT] at hb; obtain ⟨_, rfl, _⟩ := hb; exact one (fnVal_cells _ _) rfl
def Reads (P : Program) (t : TypeId) {α : Type} (g : α → T) : Prop :=
  ∀ {H : Type} (enc : TypeId × Value → H) (w : World) (base : Nat) (spare : Nat → Bool) (held : Bool) (fuel : Nat) (cs : List Value) (x : DataW H × List MemPlace), DataW.trod enc P w base spare held fuel t cs = some x →
    ∃ (a : α) (v : Value) (L : List Nat), v.cells.toList = cs ∧ ones cs ∧ Sees w (g a) v L
section
variable {P : Program} {t : TypeId}
theorem Reads.map {α β : Type} {g : α → T} {g' : β → T} (h : Reads P t g) (k : ∀ a, ∃ b, g a = g' b) : Reads P t g' := by
  intro H enc w base spare held fuel cs x hx
  obtain ⟨a, v, L, h1, h2, h3⟩ := h enc w base spare held fuel cs x hx
  obtain ⟨b, hb⟩ := k a
  exact ⟨b, v, L, h1, h2, hb ▸ h3⟩
theorem Reads.int {k : IntKind} (ht : P.underlying t = some (.int k)) : Reads P t (T.i k) := by
  intro H enc w base spare held fuel cs x hx
  obtain ⟨n, rfl, _, hw⟩ := DataW.trod_int ht hx
  exact ⟨n, .int k n, [], rfl, by simp [ones, Value.oneCell'], by simp [T.mx], hw, fun bd _ => by simp [footT], by simp⟩
theorem Reads.bool (ht : P.underlying t = some .bool) : Reads P t T.b := by
  intro H enc w base spare held fuel cs x hx
  obtain ⟨n, rfl, _⟩ := DataW.trod_bool ht hx
  exact ⟨n, .bool n, [], rfl, by simp [ones, Value.oneCell'], by simp [T.mx], rfl, fun bd _ => by simp [footT], by simp⟩
theorem Reads.str (ht : P.underlying t = some .string) : Reads P t T.s := by
  intro H enc w base spare held fuel cs x hx
  obtain ⟨s, rfl, _, hw⟩ := DataW.trod_string ht hx
  have hl : s.data.toList.length ≤ 9223372036854775807 := by
    have : s.size = s.data.toList.length := by cases s; simp [ByteArray.size]
    rw [← this]
    exact hw
  refine ⟨s.data.toList, .string s, [], rfl, by simp [ones, Value.oneCell'], by simp only [T.mx]; omega, rfl, fun bd hb => ?_, by simp⟩
  simp only [footT]
  exact ⟨by cases s; first | rfl | trivial, trivial, hb⟩
theorem choose_list {β : Type} {R : Nat → β → Prop} : ∀ (n : Nat), (∀ i, i < n → ∃ b, R i b) → ∃ l : List β, l.length = n ∧ ∀ (i : Nat) (b : β), l[i]? = some b → R i b
  | 0, _ => ⟨[], rfl, by simp⟩
  | n + 1, h => by
    obtain ⟨l, h1, h2⟩ := choose_list n fun i hi => h i (by omega)
    obtain ⟨b, hb⟩ := h n (by omega)
    refine ⟨l ++ [b], by simp [h1], fun i c hc => ?_⟩
    rcases @app_get big _ _ _ _ _ hc with ⟨_, hc⟩ | ⟨hi, rfl⟩
    · exact h2 i c hc
    · rw [hi, h1]; exact hb
theorem laid_chunks {w : World} {b m : Nat} : ∀ (vs : List Value) (off : Nat), (∀ (i : Nat) (v : Value), vs[i]? = some v → v.cells.size = m ∧ ∀ k, k < m → w.cell? ⟨b, off + i * m + k, none⟩ = v.cells[k]?) → laid w b off (cellsL vs)
  | [], _, _ => by intro j v hj; simp [cellsL] at hj
  | v :: vs, off, h => by
    intro j u hj
    obtain ⟨h1, h2⟩ := h 0 v (by simp)
    simp only [cellsL, List.flatMap_cons] at hj
    rcases Nat.lt_or_ge j m with hjm | hjm
    · rw [List.getElem?_append_left (by simpa [h1] using hjm)] at hj
      have := h2 j hjm
      rw [Nat.zero_mul, Nat.add_zero] at this
      rw [this]
      simpa using hj
    · rw [List.getElem?_append_right (by simpa [h1] using hjm)] at hj
      have ih := laid_chunks vs (off + m) (fun i v hv => ⟨(h (i + 1) v (by simpa using hv)).1, fun k hk => by
        have := (h (i + 1) v (by simpa using hv)).2 k hk
        rwa [Nat.succ_mul, show off + (i * m + m) + k = off + m + i * m + k by omega] at this⟩) (j - m) u (by simpa [h1, cellsL] using hj)
      rwa [show off + m + (j - m) = off + j by omega] at ih
theorem cells?_get {w : World} {base n : Nat} {a : Addr} {cs : List Value} (h : w.cells? base a n = some cs) : cs.length = n ∧ ∀ i, i < n → w.cell? (a.add i) = cs[i]? := by
  unfold World.cells? at h
  split at h
  · exact ⟨by simpa using mapM_some_length h, fun i hi => mapM_some_get h i i (by simp [hi])⟩
  · cases h
theorem cell_lt {w : World} {a : Addr} {v : Value} (h : w.cell? a = some v) : a.block < w.heap.size := by
  unfold World.cell? at h
  rcases Nat.lt_or_ge a.block w.heap.size with h' | h'
  · exact h'
  · rw [Array.getElem?_eq_none h'] at h; cases h
theorem ones_flat {α : Type} {f : α → Value} {l : List α} (h : ∀ a ∈ l, ones (f a).cells.toList) : ones (cellsL (l.map f)) := by
  intro u hu
  simp only [cellsL, List.mem_flatMap, List.mem_map] at hu
  obtain ⟨v, ⟨a, ha, rfl⟩, hv⟩ := hu
  exact h a ha u hv
theorem Reads.slice {e : TypeId} {α : Type} {h : α → T} (ht : P.underlying t = some (.slice e)) (hm : 0 < P.cellsOf e) (he : Reads P e h) : Reads P t fun xs : List α => .sl (xs.map h) := by
  intro H enc w base spare held fuel cs x hx
  have nil : ∀ A c, ∃ L, Sees w (.sl (([] : List α).map h)) (.slice A 0 c) L := fun A c => ⟨[], by simp [T.mx, mxs], rfl, fun bd _ => by
    simp only [List.map_nil, footT]
    exact ⟨A, c, rfl, by simp, by have := bd.lo; simp; omega, .inl ⟨trivial, trivial⟩⟩, by simp⟩
  rcases DataW.trod_slice ht hx with ⟨rfl, _⟩ | ⟨a, len, cap, elems, rest, n, rfl, rfl, _, hb, hle, hcap, hlen, hel, _, _⟩
  · obtain ⟨L, hL⟩ := nil none 0
    exact ⟨[], .slice none 0 0, L, rfl, by simp [ones, Value.oneCell'], hL⟩
  by_cases h0 : len = 0
  · subst h0
    obtain ⟨L, hL⟩ := nil (some a) cap
    exact ⟨[], .slice (some a) 0 cap, L, rfl, by simp [ones, Value.oneCell'], hL⟩
  obtain ⟨b, off, spot⟩ := a
  have get : ∀ i, i < len → ∃ p : α × Value × List Nat, (p.2.1.cells.toList.length = P.cellsOf e ∧ ones p.2.1.cells.toList ∧ ∀ k, k < P.cellsOf e → w.cell? (((⟨b, off, spot⟩ : Addr).add (i * P.cellsOf e)).add k) = p.2.1.cells[k]?) ∧ Sees w (h p.1) p.2.1 p.2.2 := by
    intro i hi
    have hi' := hel i hi
    rw [List.getElem?_eq_getElem (by omega)] at hi'
    obtain ⟨cs', q1, q2⟩ := Option.bind_eq_some_iff.1 hi'
    obtain ⟨a', v, L, r1, r2, r3⟩ := he enc w base spare held n cs' _ q2
    obtain ⟨s1, s2⟩ := cells?_get q1
    refine ⟨(a', v, L), ⟨by simp only [r1, s1], by simpa only [r1] using r2, fun k hk => ?_⟩, r3⟩
    rw [s2 k hk, ← r1]
    simp
  have hspot : spot = none := by
    obtain ⟨p, ⟨h1, _, h2⟩, _⟩ := get 0 (by omega)
    have g0 := h2 0 hm
    rw [Array.getElem?_eq_getElem (by rw [← Array.length_toList]; omega)] at g0
    have := World.cell?_spot g0
    simpa [Addr.add] using this
  subst hspot
  obtain ⟨l, hl1, hl2⟩ := choose_list len get
  have hmem : ∀ p ∈ l, (p.2.1.cells.toList.length = P.cellsOf e ∧ ones p.2.1.cells.toList) ∧ Sees w (h p.1) p.2.1 p.2.2 := by
    intro p hp
    obtain ⟨i, hi⟩ := List.getElem?_of_mem hp
    obtain ⟨⟨h1, h2, _⟩, h3⟩ := hl2 i p hi
    exact ⟨⟨h1, h2⟩, h3⟩
  obtain ⟨k1, k2, k3, k4⟩ := SeesL.of (h := h) l fun p hp => (hmem p hp).2
  have hbl : b < w.heap.size := by
    obtain ⟨p, ⟨h1, _, h2⟩, _⟩ := get 0 (by omega)
    have g0 := h2 0 hm
    rw [Array.getElem?_eq_getElem (by rw [← Array.length_toList]; omega)] at g0
    have := cell_lt g0
    simpa [Addr.add] using this
  have hlen2 : len ≤ 9223372036854775807 := Nat.le_trans hle hcap
  refine ⟨l.map (·.1), .slice (some ⟨b, off, none⟩) len cap, b :: l.flatMap (fun p => p.2.2), rfl, by simp [ones, Value.oneCell'], ?_, ?_, fun bd hbd => ?_, fun c hc => ?_⟩
  · simp only [T.mx, List.map_map, List.length_map, hl1]
    simp only [Function.comp_def]
    omega
  · simp only [T.wfi, List.map_map, Function.comp_def]; exact k2
  · simp only [T.mx, List.map_map, List.length_map, hl1, Function.comp_def] at hbd
    have kk := k3 bd (by omega)
    simp only [footT, List.map_map, List.length_map, hl1, Function.comp_def]
    refine ⟨some ⟨b, off, none⟩, cap, rfl, hle, by omega, .inr ⟨b, off, l.map (fun p => p.2.1), _, P.cellsOf e, rfl, kk, fun v hv => ?_, rfl, laid_chunks (m := P.cellsOf e) _ _ fun i v hv => ?_, ones_flat fun p hp => (hmem p hp).1.2⟩⟩
    · obtain ⟨p, hp, rfl⟩ := List.mem_map.1 hv
      simpa using (hmem p hp).1.1
    · rw [List.getElem?_map, Option.map_eq_some_iff] at hv
      obtain ⟨p, hp, rfl⟩ := hv
      obtain ⟨⟨h1, _, h2⟩, _⟩ := hl2 i p hp
      refine ⟨by simpa using h1, fun k hk => ?_⟩
      have := h2 k hk
      rwa [add_plain, add_plain] at this
  · rcases List.mem_cons.1 hc with rfl | hc
    · exact hbl
    · exact k4 c hc
def fieldsAt (P : Program) (t : TypeId) : List (TypeId × Nat) := match P.underlying t with
  | some (.struct fs) => fs.toList.map fun f => (f.type, f.offset)
  | _ => []
def ReadsF (P : Program) (N : Nat) (fs : List (TypeId × Nat)) (k : Nat) {α : Type} (g : α → List T) : Prop :=
  ∀ {H : Type} (enc : TypeId × Value → H) (w : World) (base : Nat) (spare : Nat → Bool) (held : Bool) (fuel : Nat) (cs : List Value), cs.length = N →
    (∀ f ∈ fs, ∃ x, DataW.trod enc P w base spare held fuel f.1 ((cs.drop f.2).take (P.cellsOf f.1)) = some x) → ∃ a L, ones (cs.drop k) ∧ SeesL w (g a) (cs.drop k) L
theorem ReadsF.nil {N : Nat} : ReadsF P N [] N fun _ : Unit => [] := by
  intro H enc w base spare held fuel cs hcs _
  refine ⟨(), [], ?_⟩
  rw [List.drop_eq_nil_of_le (by omega)]
  exact ⟨by simp [ones], .nil w⟩
theorem ReadsF.cons {N k : Nat} {e : TypeId} {fs : List (TypeId × Nat)} {α β : Type} {h : α → T} {g : β → List T} (m : Nat) (hm : P.cellsOf e = m) (he : Reads P e h) (hf : ReadsF P N fs (k + m) g) : ReadsF P N ((e, k) :: fs) k fun p : α × β => (h p.1).cells ++ g p.2 := by
  intro H enc w base spare held fuel cs hcs hx
  obtain ⟨x, hx0⟩ := hx (e, k) (List.mem_cons_self ..)
  obtain ⟨a, v, L, h1, h2, h3⟩ := he enc w base spare held fuel _ x hx0
  obtain ⟨b, M, k1, k2⟩ := hf enc w base spare held fuel cs hcs fun f hf => hx f (List.mem_cons_of_mem _ hf)
  obtain ⟨L', hL⟩ := h3.cells
  dsimp only at h1 h2
  rw [hm] at h1 h2
  rw [h1] at hL
  have hsp : cs.drop k = (cs.drop k).take m ++ cs.drop (k + m) := by
    rw [← List.drop_drop, List.take_append_drop]
  refine ⟨(a, b), L' ++ M, ?_, ?_⟩
  · rw [hsp]
    intro u hu
    exact (List.mem_append.1 hu).elim (h2 u) (k1 u)
  · rw [hsp]
    exact SeesL.append k2 hL
theorem Reads.struct {fs : List (TypeId × Nat)} {α : Type} {g : α → List T} {N : Nat} (hN : P.cellsOf t = N) (h0 : fs ≠ []) (ht : fieldsAt P t = fs) (hf : ReadsF P N fs 0 g) : Reads P t fun a => .ag (g a) := by
  intro H enc w base spare held fuel cs x hx
  unfold fieldsAt at ht
  split at ht
  case h_2 => exact absurd ht.symm h0
  rename_i fs' hu
  obtain ⟨xs, n, rfl, _, hl, hxl, hxs⟩ := DataW.trod_struct hu hx
  obtain ⟨a, L, h1, h2⟩ := hf enc w base spare held n cs (by rw [hl, hN]) fun f hf => by
    rw [← ht, List.mem_map] at hf
    obtain ⟨f', hf', rfl⟩ := hf
    obtain ⟨i, hi⟩ := List.getElem?_of_mem hf'
    rw [Array.getElem?_toList] at hi
    have hil : i < xs.length := by rw [hxl]; exact (Array.getElem?_eq_some_iff.1 hi).1
    refine ⟨xs[i], ?_⟩
    rw [← List.getElem?_eq_getElem hil]
    exact hxs i f' hi
  rw [List.drop_zero] at h1 h2
  obtain ⟨k1, k2, k3, k4⟩ := h2
  refine ⟨a, .agg cs.toArray, L, by simp [Value.cells], h1, k1, k2, fun bd hb => ?_, k4⟩
  simp only [footT]
  exact ⟨cs, rfl, k3 bd hb⟩
def ArrT (P : Program) (t : TypeId) {α : Type} (g : α → T) : Prop :=
  ∀ {H : Type} {enc : TypeId × Value → H} {W : World} {r : Reach} {b0 base : Nat} {spare : Nat → Bool} {held : Bool} {v : Value} {d : DataW H} {p : List MemPlace}, Value.okWide P W r b0 t v → DataW.Trod enc P W base spare held t v d p → ∃ a L, Sees W (g a) v L
theorem same_val {v v' : Value} (h : v.cells.toList = v'.cells.toList) (h1 : v.oneCell' = true) (h2 : v'.oneCell' = true) : v = v' := by
  rw [@cells_of_one big _ h1, @cells_of_one big _ h2] at h
  simpa using h
theorem ArrT.of_one {α : Type} {g : α → T} (hr : Reads P t g) (hg : ∀ a, (g a).one = true) (hv : ∀ {W : World} {r : Reach} {b0 : Nat} {v : Value}, Value.okWide P W r b0 t v → v.oneCell' = true) : ArrT P t g := by
  intro H enc W r b0 base spare held v d p hval hd
  obtain ⟨fuel, hf⟩ := hd
  obtain ⟨a, v', L, h1, h2, h3⟩ := hr enc W base spare held fuel _ _ hf
  have hv' : v'.oneCell' = true := by
    have h3' := h3.2.2.1 big h3.1
    have hga := hg a
    generalize g a = x at h3' hga
    cases x <;> first | (simp [T.one] at hga; done) | skip
    all_goals (simp only [footT] at h3')
    case b => obtain ⟨rfl, _⟩ := h3'; rfl
    case i => obtain ⟨rfl, _⟩ := h3'; rfl
    case s => obtain ⟨rfl, _⟩ := h3'; rfl
    case np => obtain ⟨rfl, _⟩ := h3'; rfl
    case nm => obtain ⟨rfl, _⟩ := h3'; rfl
    case ni => obtain ⟨rfl, _⟩ := h3'; rfl
    case sl => obtain ⟨_, _, rfl, _⟩ := h3'; rfl
    case po => obtain ⟨_, _, _, _, rfl, _⟩ := h3'; rfl
    case ifc => obtain ⟨_, rfl, _⟩ := h3'; rfl
    case mp => obtain ⟨_, _, _, _, _, _, rfl, _⟩ := h3'; rfl
    case fn => obtain ⟨_, rfl, _⟩ := h3'; exact fnVal_one _ _
  exact ⟨a, L, same_val h1.symm (hv hval) hv' ▸ h3⟩
theorem ArrT.str (ht : P.underlying t = some .string) : ArrT P t T.s := ArrT.of_one (Reads.str ht) (fun _ => rfl) fun h => by obtain ⟨n, rfl⟩ := okWide_string ht h; rfl
theorem ArrT.slice {e : TypeId} {α : Type} {h : α → T} (ht : P.underlying t = some (.slice e)) (hr : Reads P t fun xs : List α => .sl (xs.map h)) : ArrT P t fun xs : List α => .sl (xs.map h) := ArrT.of_one hr (fun _ => rfl) fun h => by obtain ⟨_, _, _, rfl⟩ := okWide_slice ht h; rfl
theorem ArrT.struct {fs : List (TypeId × Nat)} {α : Type} {g : α → T} (h0 : fs ≠ []) (ht : fieldsAt P t = fs) (hg : ∀ a, (g a).isAg = true) (hr : Reads P t g) : ArrT P t g := by
  intro H enc W r b0 base spare held v d p hval hd
  unfold fieldsAt at ht
  split at ht
  case h_2 => exact absurd ht.symm h0
  rename_i fs' hu
  obtain ⟨cs, rfl, _⟩ := okWide_struct hu hval
  obtain ⟨fuel, hf⟩ := hd
  obtain ⟨a, v', L, h1, h2, h3⟩ := hr enc W base spare held fuel _ _ hf
  refine ⟨a, L, ?_⟩
  have : v' = .agg cs := by
    have h3' := h3.2.2.1 big h3.1
    have hga := hg a
    generalize g a = x at h3' hga
    cases x <;> first | (simp [T.isAg] at hga; done) | skip
    simp only [footT] at h3'
    obtain ⟨vs, rfl, _⟩ := h3'
    simp only [Value.cells] at h1
    rw [← Array.toList_inj.1 h1]
  rw [← this]; exact h3
end
theorem Con.below [Bd] {P : Program} {f : FuncId} {ts : List T} (h : Con P f ts (.t (.b true)) []) {w : World} {vs : List Value} {L : List Nat} (hf : footTs w ts vs L) (hL : ∀ b ∈ L, b < w.heap.size) :
    Calls P f vs.toArray w fun e w' => e = .returned (.bool true) ∧ Below w.heap.size w w' := by
  have hS : ∀ b, b ∈ L → b < w.heap.size := hL
  have hlen : vs.length = ts.length := footTs_length hf
  have hnum : ∀ (xs : List T) (k t : Nat), getL (numA k (xs.map .t)) t = .un ∨ ∃ i x, t = k + i ∧ xs[i]? = some x ∧ getL (numA k (xs.map .t)) t = .t x := by
    intro xs
    induction xs with
    | nil => intro k t; exact .inl rfl
    | cons x xs ih =>
      intro k t
      simp only [List.map_cons, numA, getL]
      by_cases hk : t = k
      · subst hk
        exact .inr ⟨0, x, by omega, rfl, by simp⟩
      · simp only [hk, if_false]
        rcases ih (k + 1) t with h1 | ⟨i, y, h1, h2, h3⟩
        · exact .inl h1
        · exact .inr ⟨i + 1, y, by omega, by simpa using h2, h3⟩
  have hr : Rel ⟨w, fun b => b ∈ L, fun _ => False, ([] : List Ob).length, fun _ => .nilIface⟩ ⟨(ts.map AV.t).length, numA 0 (ts.map .t), []⟩ ⟨fun _ => .nilIface, fun b => b ∈ L⟩ (fun b => b ∈ L) (fun _ => []) ⟨vs.toArray, []⟩ w := by
    refine { size := by simp [hlen], defs := rfl, tm := fun t => ?_, utm := fun t => ?_, ob := fun id o hid => by simp at hid, uob := fun id o hid => by simp at hid, root := fun id o hid => by simp at hid, sep := fun i j oi oj _ hi => by simp at hi, SB := fun b hb => hb, Blt := fun b hb => hL b hb, Bin := fun b hb => .inl hb, fown := fun id o hid => by simp at hid, fsep := fun i j oi oj _ hi => by simp at hi, below := But.refl _ _ _, one := fun _ => rfl, an := Nat.le_refl _, av := fun i _ => rfl }
    · rcases hnum ts 0 t with h1 | ⟨i, x, h1, h2, h3⟩
      · rw [h1]; exact ⟨[], by simp [footA], by simp⟩
      · rw [h3]
        obtain ⟨v, L', q1, q2, q3⟩ := footTs_get hf h2
        refine ⟨L', ?_, q3⟩
        simp only [footA]
        have : (Act.tmps ⟨vs.toArray, []⟩).getD t undef = v := by
          rw [show t = i by omega]
          simp [q1]
        rw [this]; exact q2
    · rcases hnum ts 0 t with h1 | ⟨i, x, h1, h2, h3⟩
      · rw [h1]; rfl
      · rw [h3]; rfl
  refine (h.2 w (fun b => b ∈ L) (fun _ => False) vs ⟨fun _ => .nilIface, fun b => b ∈ L⟩ _ _ hr).mono fun e w' hh => ?_
  obtain ⟨v, hv', S', F', L', rfl, h1, h2, _⟩ := hh
  simp only [footA, footT] at h2
  obtain ⟨rfl, _⟩ := h2
  exact ⟨rfl, h1.below.os, h1.below.tape, h1.below.output, h1.below.size, fun k hk => h1.below.block k hk (fun h => h)⟩
theorem trodAll_stays {H : Type} {enc : TypeId × Value → H} {P : Program} (hl : laidOutB P = true) {W W' : World} (hb : Below W.heap.size W W') : ∀ {ts : List TypeId} {vs : List Value} {ds : List (DataW H)} {ps : List MemPlace}, (ts.all fun t => P.readableRec t && decide (t < P.types.size)) = true →
    DataW.TrodAll enc P W 0 (fun _ => true) true ts vs ds ps → (∀ x ∈ ps, x.block < W.heap.size) → DataW.TrodAll enc P W' 0 (fun b => decide (b < W.heap.size)) true ts vs ds ps
  | [], _, _, _, _, h, _ => by
    obtain ⟨rfl, rfl, rfl⟩ := trodAll_nil h
    exact trodAll_mk0
  | t :: ts, _, _, _, ht, h, hlt => by
    obtain ⟨v, vs, d, ds, p, q, rfl, rfl, rfl, h1, h2⟩ := trodAll_cons h
    simp only [List.all_cons, Bool.and_eq_true, decide_eq_true_eq] at ht
    exact trodAll_cons_mk (Below.trod hl ht.1.1 ht.1.2 h1 hb fun x hx => hlt x (List.mem_append_left _ hx)) (trodAll_stays hl hb (by simpa using ht.2) h2 fun x hx => hlt x (List.mem_append_right _ hx))
theorem post_of_below {H : Type} {enc : TypeId × Value → H} {P : Program} {f : Func} {s : ChangeSpec} {tb : TypeId} {apart : Bool} {W W' : World} {args : Array Value} {ds gs : List (DataW H)} {before : List MemPlace}
    (hW : DataW.Whole enc P f.params.toList s.vars apart W args.toList ds gs before) (hv : s.vars = []) (hb : Below W.heap.size W W') (hl : laidOutB P = true) (ht : (f.params.toList.all fun t => P.readableRec t && decide (t < P.types.size)) = true)
    (hr : f.resultTypes = #[tb]) (htb : P.underlying tb = some .bool) (hfn : ∀ ds, gs = [] → ds.length = f.params.size → (s.fn H (ds ++ gs)).results = [.lit (.bool true)] ∧ (s.fn H (ds ++ gs)).args = ds ∧ (s.fn H (ds ++ gs)).vars = []) :
    s.post enc P f apart true false false W args (.bool true) W' := by
  have hlt := hW.lt
  have hW' := hW
  obtain ⟨p, q, h1, h2, rfl, h3, h4⟩ := hW
  rw [hv] at h2
  obtain ⟨rfl, rfl⟩ := trodVars_none h2
  have hlen : ∀ (ts : List TypeId) (vs : List Value) (ds : List (DataW H)) (p : List MemPlace), DataW.TrodAll enc P W 0 (fun _ => true) true ts vs ds p → ds.length = ts.length := by
    intro ts
    induction ts with
    | nil => intro vs ds p h; obtain ⟨_, rfl, _⟩ := trodAll_nil h; rfl
    | cons t ts ih => intro vs ds p h; obtain ⟨v, vs, d, ds, p, q, rfl, rfl, rfl, _, h2⟩ := trodAll_cons h; simp [ih _ _ _ h2]
  obtain ⟨e1, e2, e3⟩ := hfn ds rfl (by rw [hlen _ _ _ _ h1]; simp)
  simp only [List.append_nil] at hlt
  refine ⟨ds, [], p ++ [], [], p, [], hW', ?_, ?_, ?_, ?_, fun h => by cases h⟩
  · rw [e1, hr]
    exact trodAll_cons_mk (shut_bool htb _) trodAll_mk0
  · rw [e2]
    exact trodAll_stays hl hb ht h1 hlt
  · rw [e3, hv]; exact rfl
  · exact hb.frame _
end Go.Proofs.YtmgdkkhnjkepiaaGreat.BX
namespace Go.Proofs.YtmgdkkhnjkepiaaGreat.BX
set_option linter.unusedSectionVars false
set_option linter.unusedSimpArgs false
set_option linter.unusedVariables false
open Go Go.RowKit
set_option maxRecDepth 20000
set_option maxHeartbeats 400000
abbrev eIntS (xs : List Int) : T := .sl (xs.map (T.i .i64))
abbrev eStringS (xs : List (List UInt8)) : T := .sl (xs.map T.s)
structure Grant where
  name : List UInt8
  level : Int
  deriving DecidableEq
def eGrant (x : Grant) : T := .ag [.s x.name, .i .i64 x.level]
@[push_cast] theorem eGrant_len {x : Grant} : (eGrant x).cells.length = 2 := rfl
@[push_cast] theorem eGrant_isAg {x : Grant} : (eGrant x).isAg = true := rfl
@[push_cast] theorem eGrant_ones {x : Grant} : T.allOne (eGrant x).cells = true := rfl
@[push_cast] theorem eGrant_flat {x : Grant} : (eGrant x).flat = true := rfl
@[push_cast] theorem eGrant_fits {x : Grant} : fits (.ag [.leaf, .leaf]) (eGrant x) = true := rfl
@[push_cast] theorem eGrant_one {x : Grant} : (eGrant x).one = false := rfl
abbrev eGrantS (xs : List Grant) : T := .sl (xs.map eGrant)
structure Event where
  id : List UInt8
  sender : List UInt8
  typ : List UInt8
  isState : Bool
  key : List UInt8
  time : Int
  prev : List (List UInt8)
  auth : List (List UInt8)
  value : List UInt8
  grants : List Grant
  deriving DecidableEq
def eEvent (x : Event) : T := .ag [.s x.id, .s x.sender, .s x.typ, .b x.isState, .s x.key, .i .i64 x.time, eStringS x.prev, eStringS x.auth, .s x.value, eGrantS x.grants]
@[push_cast] theorem eEvent_len {x : Event} : (eEvent x).cells.length = 10 := rfl
@[push_cast] theorem eEvent_isAg {x : Event} : (eEvent x).isAg = true := rfl
@[push_cast] theorem eEvent_ones {x : Event} : T.allOne (eEvent x).cells = true := rfl
@[push_cast] theorem eEvent_one {x : Event} : (eEvent x).one = false := rfl
abbrev eEventS (xs : List Event) : T := .sl (xs.map eEvent)
structure Room where
  events : List Event
  deriving DecidableEq
def eRoom (x : Room) : T := .ag [eEventS x.events]
@[push_cast] theorem eRoom_len {x : Room} : (eRoom x).cells.length = 1 := rfl
@[push_cast] theorem eRoom_isAg {x : Room} : (eRoom x).isAg = true := rfl
structure Entry where
  typ : List UInt8
  key : List UInt8
  id : List UInt8
  deriving DecidableEq
end Go.Proofs.YtmgdkkhnjkepiaaGreat.BX
namespace Go.Proofs.YtmgdkkhnjkepiaaGreat.BX
set_option linter.unusedSectionVars false
set_option linter.unusedSimpArgs false
set_option linter.unusedVariables false
open Go Go.RowKit
set_option maxRecDepth 20000
set_option maxHeartbeats 400000
variable [Bd]
theorem eqStringS (xs ys : List (List UInt8)) : Con P0 27 [eStringS xs, eStringS ys] (.t (.b (decide (xs = ys)))) [] := by
  refine Con.intro (fn := Tryz.f27) [.tmp 4] (fun i => if i = 6 then (9, []) else (0, [])) mixed (by kernel_rfl) rfl (by decide) rfl (by rfl) (by kernel_rfl) ?_
  simp -implicitDefEqProofs (maxSteps := 2000000) only [push_cast, Nat.reduceEqDiff, Nat.reduceLT, Nat.reduceLeDiff, Nat.reduceAdd, Nat.reduceMul, Nat.reduceSub, Nat.reduceBEq, ↓reduceIte, reduceCtorEq]
  intro _ _
  split
  · rename_i h
    exact congrArg T.b (decide_eq_false (fun e => h (by rw [e]))).symm
  · rename_i h
    have h : xs.length = ys.length := by omega
    refine WL.loop (ι := Nat) (D := (fun i => if i = 6 then (9, []) else (0, []))) (fun i => i ≤ xs.length ∧ xs.take i = ys.take i) (fun i => ⟨26, [(0, .t (eStringS xs)), (1, .t (eStringS ys)), (5, .t (.i .i64 i))], []⟩) (fun i => xs.length - i) mixed (by kernel_rfl) 0 ⟨by omega, by simp⟩ (Keep.wk (ids := []) ?_) ?_
    · simp only [push_cast, Nat.reduceEqDiff, Nat.reduceLT, Nat.reduceLeDiff, Nat.reduceAdd, Nat.reduceMul, Nat.reduceSub, Nat.reduceBEq, ↓reduceIte, reduceCtorEq] <;> rfl
    · rintro i ⟨h1, h2⟩
      simp -implicitDefEqProofs (maxSteps := 2000000) only [push_cast, Nat.reduceEqDiff, Nat.reduceLT, Nat.reduceLeDiff, Nat.reduceAdd, Nat.reduceMul, Nat.reduceSub, Nat.reduceBEq, ↓reduceIte, reduceCtorEq]
      intro hB
      have := Bd.hi
      split
      · rename_i hi
        refine ⟨by omega, ?_⟩
        rw [Int.toNat_natCast]
        intro a ha
        try dsimp only
        refine ⟨by omega, ?_⟩
        intro b hb
        try dsimp only
        split
        · rename_i hne
          exact congrArg T.b (decide_eq_false (fun e => absurd hne (by rw [e, hb] at ha; simp [Option.some.inj ha]))).symm
        · rename_i he
          have he : a = b := by simpa using he
          subst he
          refine ⟨by unfold inI64; omega, i + 1, ⟨by omega, ?_⟩, by omega, Keep.wk (ids := []) ?_⟩
          · rw [List.take_add_one, List.take_add_one, h2, ha, hb]
          · simp only [push_cast, Nat.reduceEqDiff, Nat.reduceLT, Nat.reduceLeDiff, Nat.reduceAdd, Nat.reduceMul, Nat.reduceSub, Nat.reduceBEq, ↓reduceIte, reduceCtorEq] <;> rfl
      · have hi : i = xs.length := by omega
        subst hi
        rw [List.take_length, h, List.take_length] at h2
        exact congrArg T.b (decide_eq_true h2).symm
theorem eqGrant (a b : Grant) : Con P0 140 [eGrant a, eGrant b] (.t (.b (decide (a = b)))) [] := by
  refine Con.intro (fn := Tryz.f140) [.tmp 4] (fun _ => (0, [])) mixed (by kernel_rfl) rfl (by decide) rfl (by rfl) (by kernel_rfl) ?_
  obtain ⟨a0, a1⟩ := a
  obtain ⟨b0, b1⟩ := b
  simp -implicitDefEqProofs (maxSteps := 2000000) only [push_cast, Nat.reduceEqDiff, Nat.reduceLT, Nat.reduceLeDiff, Nat.reduceAdd, Nat.reduceMul, Nat.reduceSub, Nat.reduceBEq, ↓reduceIte, reduceCtorEq, eGrant]
  split
  · simp_all
  rename_i h
  have h : a0 = b0 := by simpa using h
  subst h
  split
  · simp_all
  rename_i h
  have h : a1 = b1 := by simpa using h
  subst h
  simp
theorem eqGrantS (xs ys : List Grant) : Con P0 74 [eGrantS xs, eGrantS ys] (.t (.b (decide (xs = ys)))) [] := by
  refine Con.intro (fn := Tryz.f74) [.tmp 4] (fun i => if i = 6 then (10, []) else (0, [])) mixed (by kernel_rfl) rfl (by decide) rfl (by rfl) (by kernel_rfl) ?_
  simp -implicitDefEqProofs (maxSteps := 2000000) only [push_cast, Nat.reduceEqDiff, Nat.reduceLT, Nat.reduceLeDiff, Nat.reduceAdd, Nat.reduceMul, Nat.reduceSub, Nat.reduceBEq, ↓reduceIte, reduceCtorEq]
  intro _ _
  split
  · rename_i h
    exact congrArg T.b (decide_eq_false (fun e => h (by rw [e]))).symm
  · rename_i h
    have h : xs.length = ys.length := by omega
    refine WL.loop (ι := Nat) (D := (fun i => if i = 6 then (10, []) else (0, []))) (fun i => i ≤ xs.length ∧ xs.take i = ys.take i) (fun i => ⟨27, [(0, .t (eGrantS xs)), (1, .t (eGrantS ys)), (5, .t (.i .i64 i))], []⟩) (fun i => xs.length - i) mixed (by kernel_rfl) 0 ⟨by omega, by simp⟩ (Keep.wk (ids := []) ?_) ?_
    · simp only [push_cast, Nat.reduceEqDiff, Nat.reduceLT, Nat.reduceLeDiff, Nat.reduceAdd, Nat.reduceMul, Nat.reduceSub, Nat.reduceBEq, ↓reduceIte, reduceCtorEq] <;> rfl
    · rintro i ⟨h1, h2⟩
      simp -implicitDefEqProofs (maxSteps := 2000000) only [push_cast, Nat.reduceEqDiff, Nat.reduceLT, Nat.reduceLeDiff, Nat.reduceAdd, Nat.reduceMul, Nat.reduceSub, Nat.reduceBEq, ↓reduceIte, reduceCtorEq, eGrant_len, eGrant_isAg, eGrant_ones, eGrant_flat, eGrant_one]
      intro hB
      have := Bd.hi
      split
      · rename_i hi
        refine ⟨by omega, ?_⟩
        rw [Int.toNat_natCast]
        intro a ha
        try dsimp only
        refine ⟨by omega, ?_⟩
        intro b hb
        refine CallV.t (eqGrant a b) (.inl rfl) ?_
        simp -implicitDefEqProofs (maxSteps := 2000000) only [push_cast, Nat.reduceEqDiff, Nat.reduceLT, Nat.reduceLeDiff, Nat.reduceAdd, Nat.reduceMul, Nat.reduceSub, Nat.reduceBEq, ↓reduceIte, reduceCtorEq, eGrant_len, eGrant_isAg, eGrant_ones, eGrant_flat, eGrant_one]
        split
        · rename_i hne
          exact congrArg T.b (decide_eq_false (fun e => absurd hne (by rw [e, hb] at ha; simp [Option.some.inj ha]))).symm
        · rename_i he
          have he : a = b := by simpa using he
          subst he
          refine ⟨by unfold inI64; omega, i + 1, ⟨by omega, ?_⟩, by omega, Keep.wk (ids := []) ?_⟩
          · rw [List.take_add_one, List.take_add_one, h2, ha, hb]
          · simp only [push_cast, Nat.reduceEqDiff, Nat.reduceLT, Nat.reduceLeDiff, Nat.reduceAdd, Nat.reduceMul, Nat.reduceSub, Nat.reduceBEq, ↓reduceIte, reduceCtorEq] <;> rfl
      · have hi : i = xs.length := by omega
        subst hi
        rw [List.take_length, h, List.take_length] at h2
        exact congrArg T.b (decide_eq_true h2).symm
theorem eqEvent (a b : Event) : Con P0 22 [eEvent a, eEvent b] (.t (.b (decide (a = b)))) [] := by
  refine Con.intro (fn := Tryz.f22) [.tmp 4] (fun _ => (0, [])) mixed (by kernel_rfl) rfl (by decide) rfl (by rfl) (by kernel_rfl) ?_
  obtain ⟨a0, a1, a2, a3, a4, a5, a6, a7, a8, a9⟩ := a
  obtain ⟨b0, b1, b2, b3, b4, b5, b6, b7, b8, b9⟩ := b
  simp -implicitDefEqProofs (maxSteps := 2000000) only [push_cast, Nat.reduceEqDiff, Nat.reduceLT, Nat.reduceLeDiff, Nat.reduceAdd, Nat.reduceMul, Nat.reduceSub, Nat.reduceBEq, ↓reduceIte, reduceCtorEq, eEvent]
  split
  · simp_all
  rename_i h
  have h : a0 = b0 := by simpa using h
  subst h
  split
  · simp_all
  rename_i h
  have h : a1 = b1 := by simpa using h
  subst h
  split
  · simp_all
  rename_i h
  have h : a2 = b2 := by simpa using h
  subst h
  split
  · simp_all
  rename_i h
  have h : a3 = b3 := by simpa using h
  subst h
  split
  · simp_all
  rename_i h
  have h : a4 = b4 := by simpa using h
  subst h
  split
  · simp_all
  rename_i h
  have h : a5 = b5 := by simpa using h
  subst h
  refine Callx.closed (eqStringS a6 b6) rfl rfl (.inl rfl) ?_
  simp -implicitDefEqProofs (maxSteps := 2000000) only [push_cast, Nat.reduceEqDiff, Nat.reduceLT, Nat.reduceLeDiff, Nat.reduceAdd, Nat.reduceMul, Nat.reduceSub, Nat.reduceBEq, ↓reduceIte, reduceCtorEq, eEvent]
  split
  · simp_all
  rename_i h
  have h : a6 = b6 := by simpa using h
  subst h
  refine Callx.closed (eqStringS a7 b7) rfl rfl (.inl rfl) ?_
  simp -implicitDefEqProofs (maxSteps := 2000000) only [push_cast, Nat.reduceEqDiff, Nat.reduceLT, Nat.reduceLeDiff, Nat.reduceAdd, Nat.reduceMul, Nat.reduceSub, Nat.reduceBEq, ↓reduceIte, reduceCtorEq, eEvent]
  split
  · simp_all
  rename_i h
  have h : a7 = b7 := by simpa using h
  subst h
  split
  · simp_all
  rename_i h
  have h : a8 = b8 := by simpa using h
  subst h
  refine Callx.closed (eqGrantS a9 b9) rfl rfl (.inl rfl) ?_
  simp -implicitDefEqProofs (maxSteps := 2000000) only [push_cast, Nat.reduceEqDiff, Nat.reduceLT, Nat.reduceLeDiff, Nat.reduceAdd, Nat.reduceMul, Nat.reduceSub, Nat.reduceBEq, ↓reduceIte, reduceCtorEq, eEvent]
  split
  · simp_all
  rename_i h
  have h : a9 = b9 := by simpa using h
  subst h
  simp
theorem eqEventS (xs ys : List Event) : Con P0 72 [eEventS xs, eEventS ys] (.t (.b (decide (xs = ys)))) [] := by
  refine Con.intro (fn := Tryz.f72) [.tmp 4] (fun i => if i = 6 then (10, []) else (0, [])) mixed (by kernel_rfl) rfl (by decide) rfl (by rfl) (by kernel_rfl) ?_
  simp -implicitDefEqProofs (maxSteps := 2000000) only [push_cast, Nat.reduceEqDiff, Nat.reduceLT, Nat.reduceLeDiff, Nat.reduceAdd, Nat.reduceMul, Nat.reduceSub, Nat.reduceBEq, ↓reduceIte, reduceCtorEq]
  intro _ _
  split
  · rename_i h
    exact congrArg T.b (decide_eq_false (fun e => h (by rw [e]))).symm
  · rename_i h
    have h : xs.length = ys.length := by omega
    refine WL.loop (ι := Nat) (D := (fun i => if i = 6 then (10, []) else (0, []))) (fun i => i ≤ xs.length ∧ xs.take i = ys.take i) (fun i => ⟨27, [(0, .t (eEventS xs)), (1, .t (eEventS ys)), (5, .t (.i .i64 i))], []⟩) (fun i => xs.length - i) mixed (by kernel_rfl) 0 ⟨by omega, by simp⟩ (Keep.wk (ids := []) ?_) ?_
    · simp only [push_cast, Nat.reduceEqDiff, Nat.reduceLT, Nat.reduceLeDiff, Nat.reduceAdd, Nat.reduceMul, Nat.reduceSub, Nat.reduceBEq, ↓reduceIte, reduceCtorEq] <;> rfl
    · rintro i ⟨h1, h2⟩
      simp -implicitDefEqProofs (maxSteps := 2000000) only [push_cast, Nat.reduceEqDiff, Nat.reduceLT, Nat.reduceLeDiff, Nat.reduceAdd, Nat.reduceMul, Nat.reduceSub, Nat.reduceBEq, ↓reduceIte, reduceCtorEq, eEvent_len, eEvent_isAg, eEvent_ones, eEvent_one]
      intro hB
      have := Bd.hi
      split
      · rename_i hi
        refine ⟨by omega, ?_⟩
        rw [Int.toNat_natCast]
        intro a ha
        try dsimp only
        refine ⟨by omega, ?_⟩
        intro b hb
        refine CallV.t (eqEvent a b) (.inl rfl) ?_
        simp -implicitDefEqProofs (maxSteps := 2000000) only [push_cast, Nat.reduceEqDiff, Nat.reduceLT, Nat.reduceLeDiff, Nat.reduceAdd, Nat.reduceMul, Nat.reduceSub, Nat.reduceBEq, ↓reduceIte, reduceCtorEq, eEvent_len, eEvent_isAg, eEvent_ones, eEvent_one]
        split
        · rename_i hne
          exact congrArg T.b (decide_eq_false (fun e => absurd hne (by rw [e, hb] at ha; simp [Option.some.inj ha]))).symm
        · rename_i he
          have he : a = b := by simpa using he
          subst he
          refine ⟨by unfold inI64; omega, i + 1, ⟨by omega, ?_⟩, by omega, Keep.wk (ids := []) ?_⟩
          · rw [List.take_add_one, List.take_add_one, h2, ha, hb]
          · simp only [push_cast, Nat.reduceEqDiff, Nat.reduceLT, Nat.reduceLeDiff, Nat.reduceAdd, Nat.reduceMul, Nat.reduceSub, Nat.reduceBEq, ↓reduceIte, reduceCtorEq] <;> rfl
      · have hi : i = xs.length := by omega
        subst hi
        rw [List.take_length, h, List.take_length] at h2
        exact congrArg T.b (decide_eq_true h2).symm
theorem eqRoom (a b : Room) : Con P0 20 [eRoom a, eRoom b] (.t (.b (decide (a = b)))) [] := by
  refine Con.intro (fn := Tryz.f20) [.tmp 4] (fun _ => (0, [])) mixed (by kernel_rfl) rfl (by decide) rfl (by rfl) (by kernel_rfl) ?_
  obtain ⟨a0⟩ := a
  obtain ⟨b0⟩ := b
  simp -implicitDefEqProofs (maxSteps := 2000000) only [push_cast, Nat.reduceEqDiff, Nat.reduceLT, Nat.reduceLeDiff, Nat.reduceAdd, Nat.reduceMul, Nat.reduceSub, Nat.reduceBEq, ↓reduceIte, reduceCtorEq, eRoom]
  refine Callx.closed (eqEventS a0 b0) rfl rfl (.inl rfl) ?_
  simp -implicitDefEqProofs (maxSteps := 2000000) only [push_cast, Nat.reduceEqDiff, Nat.reduceLT, Nat.reduceLeDiff, Nat.reduceAdd, Nat.reduceMul, Nat.reduceSub, Nat.reduceBEq, ↓reduceIte, reduceCtorEq, eRoom]
  split
  · simp_all
  rename_i h
  have h : a0 = b0 := by simpa using h
  subst h
  simp
end Go.Proofs.YtmgdkkhnjkepiaaGreat.BX
namespace Go.Proofs.YtmgdkkhnjkepiaaGreat.BX
set_option linter.unusedSectionVars false
set_option linter.unusedSimpArgs false
set_option linter.unusedVariables false
open Go Go.RowKit
set_option maxRecDepth 20000
variable [Bd]
theorem foots_of {w : World} : ∀ {ts : List T} {vs : List Value}, vs.length = ts.length → (∀ (i : Nat) (x : T) (v : Value), ts[i]? = some x → vs[i]? = some v → ∃ L, footT w x v L) → ∃ L, footTs w ts vs L
  | [], [], _, _ => ⟨[], by simp [footTs]⟩
  | [], _ :: _, h, _ => by simp at h
  | _ :: _, [], h, _ => by simp at h
  | x :: ts, v :: vs, hl, h => by
    obtain ⟨L1, h1⟩ := h 0 x v rfl rfl
    obtain ⟨L2, h2⟩ := foots_of (ts := ts) (vs := vs) (by simpa using hl) fun i x v hx hv => h (i + 1) x v (by simpa using hx) (by simpa using hv)
    exact ⟨L1 ++ L2, by simp only [footTs]; exact ⟨v, vs, L1, L2, rfl, rfl, h1, h2⟩⟩
theorem Con.plain {P : Program} {f : FuncId} {ts : List T} {r : T} (hb : hasBody P f) (h : ∀ (w : World) (vs : List Value) (L : List Nat), footTs w ts vs L → Calls P f vs.toArray w fun e w' => ∃ v, e = .returned v ∧ footT w' r v [] ∧ Grew w w') : Con P f ts (.t r) [] := by
  refine ⟨hb, fun w L M vs hv S F hr => ?_⟩
  have hlen : vs.length = ts.length := by simpa using hr.size
  obtain ⟨La, ha⟩ := foots_of (w := w) hlen fun i x v hx hv' => by
    obtain ⟨L', h', _⟩ := hr.tm i
    have e1 : getL (numA 0 (ts.map AV.t)) i = .t x := by
      rw [numA_get, if_pos (Nat.zero_le _), Nat.sub_zero, List.getElem?_map, hx]; rfl
    have e2 : vs.toArray.getD i undef = v := by
      simp [Array.getD_eq_getD_getElem?, hv']
    have h'' : footA hv w (getL (numA 0 (ts.map AV.t)) i) (vs.toArray.getD i undef) L' := h'
    rw [e1, e2] at h''
    exact ⟨L', by simpa only [footA] using h''⟩
  refine (h w vs La ha).mono fun e w' ⟨v, he, hf, hg⟩ => ?_
  exact ⟨v, _, _, _, [], he, (hr.grow hg).no_tmp, by simpa only [footA] using hf, by simp, by simp [AV.under]⟩
def idxOf (c : UInt8) (xs : List UInt8) : Int := firstIdx ⟨xs.toArray⟩ c
theorem idxOf_nn {c : UInt8} {xs : List UInt8} : decide (0 ≤ idxOf c xs) = xs.any (· == c) := by
  unfold idxOf; rw [firstIdx_nonneg]
theorem idx_calls (c : UInt8) (s : ByteArray) (w : World) : Calls P0 229 #[.string s, .int .u8 c.toNat] w fun e w' => e = .returned (.int .i64 (firstIdx s c)) ∧ w' = w := by
  have h := run_indexByte_string (P := P0) s c.toNat
  go_enter Tryz.func229, Tryz.ntmps229
  go_wp2
  rw [run_callFunc_extern Tryz.func256 (by kernel_rfl) (by kernel_rfl) (by kernel_rfl) (e := Extern.BytealgIndexByte.indexByte) (by kernel_rfl), h]
  simp only [Result.andThen]
  rw [Oper.upon_value]
  go_wp2
  go_ret
  simp
theorem indexByteL (c : UInt8) (xs : List UInt8) : Con P0 229 [.s xs, .i .u8 c.toNat] (.t (.i .i64 (idxOf c xs))) [] := by
  refine Con.plain ⟨_, Tryz.func229, rfl, rfl⟩ fun w vs L hf => ?_
  simp only [footTs, footT] at hf
  obtain ⟨v1, vs1, L1, L2, rfl, _, ⟨rfl, _, _⟩, v2, vs2, L3, L4, rfl, _, ⟨rfl, _⟩, rfl, _⟩ := hf
  refine (idx_calls c ⟨xs.toArray⟩ w).mono fun e w' ⟨he, hw⟩ => ?_
  subst hw
  exact ⟨_, he, by simp only [footT]; exact ⟨rfl, trivial⟩, Grew.refl _⟩
theorem indexByte (c : UInt8) (xs : List UInt8) : Con P0 193 [.s xs, .i .u8 c.toNat] (.t (.i .i64 (idxOf c xs))) [] := by
  refine Con.intro (fn := Tryz.f193) [.tmp 4] (fun _ => (0, [])) mixed (by kernel_rfl) rfl (by decide) rfl (by rfl) (by kernel_rfl) ?_
  simp -implicitDefEqProofs (maxSteps := 2000000) only [push_cast, Nat.reduceEqDiff, Nat.reduceLT, Nat.reduceLeDiff, Nat.reduceAdd, Nat.reduceMul, Nat.reduceSub, Nat.reduceBEq, ↓reduceIte, reduceCtorEq]
  refine Callx.closed (indexByteL c xs) rfl rfl (.inl rfl) ?_
  simp -implicitDefEqProofs (maxSteps := 2000000) only [push_cast, Nat.reduceEqDiff, Nat.reduceLT, Nat.reduceLeDiff, Nat.reduceAdd, Nat.reduceMul, Nat.reduceSub, Nat.reduceBEq, ↓reduceIte, reduceCtorEq]
end Go.Proofs.YtmgdkkhnjkepiaaGreat.BX
namespace Go.Proofs.YtmgdkkhnjkepiaaGreat.BX
set_option linter.unusedSectionVars false
set_option linter.unusedSimpArgs false
set_option linter.unusedVariables false
open Go Go.RowKit
set_option maxRecDepth 20000
set_option maxHeartbeats 400000
def wordB (c : UInt8) : Bool :=
  (decide ((97 : Int) ≤ c.toNat) && decide ((c.toNat : Int) ≤ 122)) || (decide ((65 : Int) ≤ c.toNat) && decide ((c.toNat : Int) ≤ 90)) || (decide ((48 : Int) ≤ c.toNat) && decide ((c.toNat : Int) ≤ 57)) ||
    (decide ((c.toNat : Int) = 95) || decide ((c.toNat : Int) = 46) || decide ((c.toNat : Int) = 64) || decide ((c.toNat : Int) = 36) || decide ((c.toNat : Int) = 47) || decide ((c.toNat : Int) = 43))
theorem wordB_iff {c : UInt8} : wordB c = true ↔ ((97 : Int) ≤ c.toNat ∧ (c.toNat : Int) ≤ 122) ∨ ((65 : Int) ≤ c.toNat ∧ (c.toNat : Int) ≤ 90) ∨ ((48 : Int) ≤ c.toNat ∧ (c.toNat : Int) ≤ 57) ∨
    ((c.toNat : Int) = 95 ∨ (c.toNat : Int) = 46 ∨ (c.toNat : Int) = 64 ∨ (c.toNat : Int) = 36 ∨ (c.toNat : Int) = 47 ∨ (c.toNat : Int) = 43) := by
  simp only [wordB, Bool.or_eq_true, Bool.and_eq_true, decide_eq_true_eq, or_assoc]
theorem wordB_no {c : UInt8} (h : ¬ (((97 : Int) ≤ c.toNat ∧ (c.toNat : Int) ≤ 122) ∨ ((65 : Int) ≤ c.toNat ∧ (c.toNat : Int) ≤ 90) ∨ ((48 : Int) ≤ c.toNat ∧ (c.toNat : Int) ≤ 57) ∨
    ((c.toNat : Int) = 95 ∨ (c.toNat : Int) = 46 ∨ (c.toNat : Int) = 64 ∨ (c.toNat : Int) = 36 ∨ (c.toNat : Int) = 47 ∨ (c.toNat : Int) = 43))) : wordB c = false := by
  cases hw : wordB c with
  | false => rfl
  | true => exact absurd (wordB_iff.1 hw) h
def isW (s : List UInt8) : Bool := decide (1 ≤ (s.length : Int)) && decide ((s.length : Int) ≤ 40) && s.all wordB
theorem byteEq {a b : UInt8} : (a == b) = decide ((b.toNat : Int) = a.toNat) := by
  rw [Bool.eq_iff_iff]
  simp only [beq_iff_eq, decide_eq_true_eq]
  refine ⟨fun h => by rw [h], fun h => UInt8.toNat_inj.1 (by omega)⟩
variable [Bd]
theorem l1WordByte (c : UInt8) : Con P0 186 [.i .u8 c.toNat] (.t (.b (wordB c))) [] := by
  refine Con.intro (fn := Tryz.f186) [.tmp 2] (fun _ => (0, [])) mixed (by kernel_rfl) rfl (by decide) rfl (by rfl) (by kernel_rfl) ?_
  simp -implicitDefEqProofs (maxSteps := 2000000) only [push_cast, Nat.reduceEqDiff, Nat.reduceLT, Nat.reduceLeDiff, Nat.reduceAdd, Nat.reduceMul, Nat.reduceSub, Nat.reduceBEq, ↓reduceIte, reduceCtorEq]
  repeat' refine iteI (fun _ => ?_) (fun _ => ?_)
  all_goals first
    | exact congrArg T.b (wordB_iff.2 (by omega)).symm
    | exact congrArg T.b (Bool.eq_iff_iff.2 (by rw [wordB_iff, decide_eq_true_eq]; omega))
def oddB : List UInt8 := [95, 46, 64, 36, 47, 43]
theorem oddB_any {c : UInt8} : (oddB.any (· == c)) = true ↔ ((c.toNat : Int) = 95 ∨ (c.toNat : Int) = 46 ∨ (c.toNat : Int) = 64 ∨ (c.toNat : Int) = 36 ∨ (c.toNat : Int) = 47 ∨ (c.toNat : Int) = 43) := by
  simp only [oddB, List.any_cons, List.any_nil, byteEq, Bool.or_eq_true, decide_eq_true_eq, Bool.or_false]
  exact Iff.rfl
theorem isW_all {s : List UInt8} {i : Nat} (hi : s.length ≤ i) (hc : ∀ c ∈ s.take i, wordB c = true) : s.all wordB = true := by
  rw [List.take_of_length_le hi] at hc
  exact List.all_eq_true.2 hc
theorem isW_no {s : List UInt8} {i : Nat} {a : UInt8} (ha : s[i]? = some a) (h : wordB a = false) : isW s = false := by
  unfold isW
  rw [Bool.and_eq_false_iff]
  refine .inr (List.all_eq_false.2 ⟨a, List.mem_of_getElem? ha, by simp [h]⟩)
theorem take_snoc {α : Type} {p : α → Prop} {s : List α} {i : Nat} {a : α} (ha : s[i]? = some a) (hc : ∀ c ∈ s.take i, p c) (h : p a) : ∀ c ∈ s.take (i + 1), p c := by
  intro e he
  rw [List.take_add_one, ha] at he
  rcases List.mem_append.1 he with he | he
  · exact hc e he
  · simp at he; subst he; exact h
theorem l1Word (s : List UInt8) : Con P0 116 [.s s] (.t (.b (isW s))) [] := by
  refine Con.intro (fn := Tryz.f116) [.tmp 2] (fun _ => (0, [])) mixed (by kernel_rfl) rfl (by decide) rfl (by rfl) (by kernel_rfl) ?_
  simp -implicitDefEqProofs (maxSteps := 2000000) only [push_cast, Nat.reduceEqDiff, Nat.reduceLT, Nat.reduceLeDiff, Nat.reduceAdd, Nat.reduceMul, Nat.reduceSub, Nat.reduceBEq, ↓reduceIte, reduceCtorEq]
  refine WL.loop (ι := Nat) (D := (fun _ => (0, []))) (fun i => i ≤ s.length ∧ ∀ c ∈ s.take i, wordB c = true) (fun i => ⟨23, [(0, .t (.s s)), (3, .t (.i .i64 i))], []⟩) (fun i => s.length - i) mixed (by kernel_rfl) 0 ⟨by omega, by simp⟩ (Keep.wk (ids := []) ?_) ?_
  · simp only [push_cast, Nat.reduceEqDiff, Nat.reduceLT, Nat.reduceLeDiff, Nat.reduceAdd, Nat.reduceMul, Nat.reduceSub, Nat.reduceBEq, ↓reduceIte, reduceCtorEq] <;> rfl
  · rintro i ⟨hi, hc⟩
    simp -implicitDefEqProofs (maxSteps := 2000000) only [push_cast, Nat.reduceEqDiff, Nat.reduceLT, Nat.reduceLeDiff, Nat.reduceAdd, Nat.reduceMul, Nat.reduceSub, Nat.reduceBEq, ↓reduceIte, reduceCtorEq]
    intro _
    have := Bd.hi
    split
    · rename_i h
      refine ⟨by omega, fun a ha => ?_⟩
      rw [Int.toNat_natCast] at ha
      simp -implicitDefEqProofs (maxSteps := 2000000) only [push_cast, Nat.reduceEqDiff, Nat.reduceLT, Nat.reduceLeDiff, Nat.reduceAdd, Nat.reduceMul, Nat.reduceSub, Nat.reduceBEq, ↓reduceIte, reduceCtorEq]
      refine Callx.closed (l1WordByte a) rfl rfl (.inl rfl) ?_
      simp -implicitDefEqProofs (maxSteps := 2000000) only [push_cast, Nat.reduceEqDiff, Nat.reduceLT, Nat.reduceLeDiff, Nat.reduceAdd, Nat.reduceMul, Nat.reduceSub, Nat.reduceBEq, ↓reduceIte, reduceCtorEq]
      cases hw : wordB a with
      | false => exact congrArg T.b (isW_no ha hw).symm
      | true =>
        simp -implicitDefEqProofs (maxSteps := 2000000) only [push_cast, Nat.reduceEqDiff, Nat.reduceLT, Nat.reduceLeDiff, Nat.reduceAdd, Nat.reduceMul, Nat.reduceSub, Nat.reduceBEq, ↓reduceIte, reduceCtorEq]
        refine ⟨by unfold inI64; omega, i + 1, ⟨by omega, take_snoc ha hc hw⟩, by omega, Keep.wk (ids := []) ?_⟩
        simp only [push_cast, Nat.reduceEqDiff, Nat.reduceLT, Nat.reduceLeDiff, Nat.reduceAdd, Nat.reduceMul, Nat.reduceSub, Nat.reduceBEq, ↓reduceIte, reduceCtorEq] <;> rfl
    · have ha := isW_all (by omega) hc
      unfold isW
      rw [ha]
      intro _
      rw [Bool.and_true]
      split
      · rename_i h1
        exact fun _ => congrArg T.b (by rw [decide_eq_true h1, Bool.true_and])
      · rename_i h1
        exact congrArg T.b (by rw [decide_eq_false h1, Bool.false_and])
theorem isWord (s : List UInt8) : Con P0 129 [.s s] (.t (.b (isW s))) [] := by
  refine Con.intro (fn := Tryz.f129) [.tmp 2] (fun _ => (0, [])) mixed (by kernel_rfl) rfl (by decide) rfl (by rfl) (by kernel_rfl) ?_
  simp -implicitDefEqProofs (maxSteps := 2000000) only [push_cast, Nat.reduceEqDiff, Nat.reduceLT, Nat.reduceLeDiff, Nat.reduceAdd, Nat.reduceMul, Nat.reduceSub, Nat.reduceBEq, ↓reduceIte, reduceCtorEq]
  intro _
  split
  · rename_i h
    unfold isW
    rw [decide_eq_false (by omega)]; rfl
  intro _
  split
  · rename_i h
    unfold isW
    rw [decide_eq_false (p := ((s.length : Int) ≤ 40)) (by omega)]; simp
  intro _
  refine WL.loop (ι := Nat) (D := (fun _ => (0, []))) (fun i => i ≤ s.length ∧ ∀ c ∈ s.take i, wordB c = true) (fun i => ⟨44, [(0, .t (.s s)), (14, .t (.i .i64 s.length)), (15, .t (.i .i64 i))], []⟩) (fun i => s.length - i) mixed (by kernel_rfl) 0 ⟨by omega, by simp⟩ (Keep.wk (ids := []) ?_) ?_
  · simp only [push_cast, Nat.reduceEqDiff, Nat.reduceLT, Nat.reduceLeDiff, Nat.reduceAdd, Nat.reduceMul, Nat.reduceSub, Nat.reduceBEq, ↓reduceIte, reduceCtorEq] <;> rfl
  · rintro i ⟨hi, hc⟩
    simp -implicitDefEqProofs (maxSteps := 2000000) only [push_cast, Nat.reduceEqDiff, Nat.reduceLT, Nat.reduceLeDiff, Nat.reduceAdd, Nat.reduceMul, Nat.reduceSub, Nat.reduceBEq, ↓reduceIte, reduceCtorEq]
    have := Bd.hi
    split
    · rename_i h
      refine ⟨by omega, fun a ha => ?_⟩
      rw [Int.toNat_natCast] at ha
      simp -implicitDefEqProofs (maxSteps := 2000000) only [push_cast, Nat.reduceEqDiff, Nat.reduceLT, Nat.reduceLeDiff, Nat.reduceAdd, Nat.reduceMul, Nat.reduceSub, Nat.reduceBEq, ↓reduceIte, reduceCtorEq]
      have yes : wordB a = true → inI64 (i + 1) ∧ ∀ j, j = i + 1 → (j ≤ s.length ∧ ∀ c ∈ s.take j, wordB c = true) ∧ s.length - j < s.length - i := fun hw => ⟨by unfold inI64; omega, fun j hj => by subst hj; exact ⟨⟨by omega, take_snoc ha hc hw⟩, by omega⟩⟩
      repeat' refine iteI (fun _ => ?_) (fun _ => ?_)
      all_goals first
        | (exfalso; omega)
        | (refine ⟨(yes (wordB_iff.2 (by omega))).1, i + 1, ((yes (wordB_iff.2 (by omega))).2 _ rfl).1, ((yes (wordB_iff.2 (by omega))).2 _ rfl).2, Keep.wk (ids := []) ?_⟩
           simp only [push_cast, Nat.reduceEqDiff, Nat.reduceLT, Nat.reduceLeDiff, Nat.reduceAdd, Nat.reduceMul, Nat.reduceSub, Nat.reduceBEq, ↓reduceIte, reduceCtorEq] <;> rfl)
        | (refine Callx.closed (indexByte a oddB) rfl rfl (.inl rfl) ?_
           simp -implicitDefEqProofs (maxSteps := 2000000) only [push_cast, Nat.reduceEqDiff, Nat.reduceLT, Nat.reduceLeDiff, Nat.reduceAdd, Nat.reduceMul, Nat.reduceSub, Nat.reduceBEq, ↓reduceIte, reduceCtorEq]
           have ho := idxOf_nn (c := a) (xs := oddB)
           refine iteI (fun h1 => ?_) (fun h1 => ?_)
           · rw [decide_eq_true h1] at ho
             have hw := oddB_any.1 ho.symm
             refine ⟨(yes (wordB_iff.2 (by omega))).1, i + 1, ((yes (wordB_iff.2 (by omega))).2 _ rfl).1, ((yes (wordB_iff.2 (by omega))).2 _ rfl).2, Keep.wk (ids := []) ?_⟩
             simp only [push_cast, Nat.reduceEqDiff, Nat.reduceLT, Nat.reduceLeDiff, Nat.reduceAdd, Nat.reduceMul, Nat.reduceSub, Nat.reduceBEq, ↓reduceIte, reduceCtorEq] <;> rfl
           · rw [decide_eq_false h1] at ho
             refine congrArg T.b (isW_no ha (wordB_no fun hh => ?_)).symm
             have := oddB_any (c := a)
             rw [← ho] at this
             simp only [Bool.false_eq_true, false_iff] at this
             omega)
    · have ha := isW_all (by omega) hc
      refine congrArg T.b ?_
      unfold isW
      rw [ha, decide_eq_true (by omega), decide_eq_true (by omega)]; rfl
end Go.Proofs.YtmgdkkhnjkepiaaGreat.BX
namespace Go.Proofs.YtmgdkkhnjkepiaaGreat.BX
set_option linter.unusedSectionVars false
set_option linter.unusedSimpArgs false
set_option linter.unusedVariables false
open Go Go.RowKit
set_option maxRecDepth 20000
set_option maxHeartbeats 400000
variable [Bd] (hB : Bd.B ≤ 2147483648)
include hB
theorem toStringS (xs : List (List UInt8)) : Con P0 25 [eStringS xs] (.sr 0) [.arr 9 1 (.own .leaf) (xs.map T.s)] := by
  refine Con.intro (fn := Tryz.f25) [.tmp 2] (fun _ => (0, [])) mixed (by kernel_rfl) rfl (by decide) rfl (by rfl) (by kernel_rfl) ?_
  simp -implicitDefEqProofs (maxSteps := 2000000) only [push_cast, Nat.reduceEqDiff, Nat.reduceLT, Nat.reduceLeDiff, Nat.reduceAdd, Nat.reduceMul, Nat.reduceSub, Nat.reduceBEq, ↓reduceIte, reduceCtorEq]
  intro hl
  refine ⟨by omega, by omega, by omega, ?_⟩
  refine WL.loop (ι := Nat) (D := (fun _ => (0, []))) (fun i => i ≤ xs.length) (fun i => ⟨22, [(0, .t (eStringS xs)), (3, .sr 0), (4, .t (.i .i64 i))], [.arr 9 1 (.own .leaf) (filled T.s (.s []) xs i)]⟩) (fun i => xs.length - i) mixed (by kernel_rfl) 0 (by omega) (Keep.wk (ids := [some 0]) ?_) ?_
  · simp only [push_cast, Nat.reduceEqDiff, Nat.reduceLT, Nat.reduceLeDiff, Nat.reduceAdd, Nat.reduceMul, Nat.reduceSub, Nat.reduceBEq, ↓reduceIte, reduceCtorEq, Int.toNat_natCast, filled_zero] <;> trivial
  · intro i hi
    simp -implicitDefEqProofs (maxSteps := 2000000) only [push_cast, Nat.reduceEqDiff, Nat.reduceLT, Nat.reduceLeDiff, Nat.reduceAdd, Nat.reduceMul, Nat.reduceSub, Nat.reduceBEq, ↓reduceIte, reduceCtorEq]
    intro _
    split
    · rename_i h
      have h : i < xs.length := by omega
      refine ⟨by omega, ?_⟩
      rw [Int.toNat_natCast]
      intro a ha
      try dsimp only
      simp -implicitDefEqProofs (maxSteps := 2000000) only [push_cast, Nat.reduceEqDiff, Nat.reduceLT, Nat.reduceLeDiff, Nat.reduceAdd, Nat.reduceMul, Nat.reduceSub, Nat.reduceBEq, ↓reduceIte, reduceCtorEq, Int.toNat_natCast, filled_len hi, filled_at h, filled_set ha]
      refine ⟨by omega, h, by unfold inI64; have := Bd.hi; omega, i + 1, by omega, by omega, Keep.wk (ids := [some 0]) ?_⟩
      simp only [push_cast, Nat.reduceEqDiff, Nat.reduceLT, Nat.reduceLeDiff, Nat.reduceAdd, Nat.reduceMul, Nat.reduceSub, Nat.reduceBEq, ↓reduceIte, reduceCtorEq, Int.natCast_add, Int.cast_ofNat_Int, filled_set ha]
    · have hi : i = xs.length := by omega
      subst hi
      rw [filled_all]
      exact Close.of [some 0] rfl rfl rfl rfl (by simp only [push_cast, Nat.reduceEqDiff, Nat.reduceLT, Nat.reduceLeDiff, Nat.reduceAdd, Nat.reduceMul, Nat.reduceSub, Nat.reduceBEq, ↓reduceIte, reduceCtorEq] <;> rfl)
theorem toGrant (x : Grant) : Con P0 127 [eGrant x] (.t (eGrant x)) [] := by
  refine Con.intro (fn := Tryz.f127) [.cell 2 138] (fun _ => (0, [])) mixed (by kernel_rfl) rfl (by decide) rfl (by rfl) (by kernel_rfl) ?_
  simp -implicitDefEqProofs (maxSteps := 2000000) only [push_cast, Nat.reduceEqDiff, Nat.reduceLT, Nat.reduceLeDiff, Nat.reduceAdd, Nat.reduceMul, Nat.reduceSub, Nat.reduceBEq, ↓reduceIte, reduceCtorEq, eGrant]
theorem toGrantS (xs : List Grant) : Con P0 66 [eGrantS xs] (.sr 0) [.arr 138 2 (.own (.ag [.leaf, .leaf])) (xs.map eGrant)] := by
  refine Con.intro (fn := Tryz.f66) [.tmp 2] (fun _ => (0, [])) mixed (by kernel_rfl) rfl (by decide) rfl (by rfl) (by kernel_rfl) ?_
  simp -implicitDefEqProofs (maxSteps := 2000000) only [push_cast, Nat.reduceEqDiff, Nat.reduceLT, Nat.reduceLeDiff, Nat.reduceAdd, Nat.reduceMul, Nat.reduceSub, Nat.reduceBEq, ↓reduceIte, reduceCtorEq]
  intro hl
  refine ⟨by omega, by omega, by omega, ?_⟩
  refine WL.loop (ι := Nat) (D := (fun _ => (0, []))) (fun i => i ≤ xs.length) (fun i => ⟨23, [(0, .t (eGrantS xs)), (3, .sr 0), (4, .t (.i .i64 i))], [.arr 138 2 (.own (.ag [.leaf, .leaf])) (filled eGrant (.ag [.s [], .i .i64 0]) xs i)]⟩) (fun i => xs.length - i) mixed (by kernel_rfl) 0 (by omega) (Keep.wk (ids := [some 0]) ?_) ?_
  · simp only [push_cast, Nat.reduceEqDiff, Nat.reduceLT, Nat.reduceLeDiff, Nat.reduceAdd, Nat.reduceMul, Nat.reduceSub, Nat.reduceBEq, ↓reduceIte, reduceCtorEq, Int.toNat_natCast, filled_zero] <;> trivial
  · intro i hi
    simp -implicitDefEqProofs (maxSteps := 2000000) only [push_cast, Nat.reduceEqDiff, Nat.reduceLT, Nat.reduceLeDiff, Nat.reduceAdd, Nat.reduceMul, Nat.reduceSub, Nat.reduceBEq, ↓reduceIte, reduceCtorEq, eGrant_len, eGrant_isAg, eGrant_ones, eGrant_flat, eGrant_one]
    intro _
    split
    · rename_i h
      have h : i < xs.length := by omega
      refine ⟨by omega, ?_⟩
      rw [Int.toNat_natCast]
      intro a ha
      try dsimp only
      refine Callx.closed (toGrant hB a) rfl rfl (.inl rfl) ?_
      simp -implicitDefEqProofs (maxSteps := 2000000) only [push_cast, Nat.reduceEqDiff, Nat.reduceLT, Nat.reduceLeDiff, Nat.reduceAdd, Nat.reduceMul, Nat.reduceSub, Nat.reduceBEq, ↓reduceIte, reduceCtorEq, eGrant_len, eGrant_isAg, eGrant_ones, eGrant_flat, eGrant_one]
      simp -implicitDefEqProofs (maxSteps := 2000000) only [push_cast, Nat.reduceEqDiff, Nat.reduceLT, Nat.reduceLeDiff, Nat.reduceAdd, Nat.reduceMul, Nat.reduceSub, Nat.reduceBEq, ↓reduceIte, reduceCtorEq, Int.toNat_natCast, filled_len hi, filled_at h, filled_set ha]
      refine ⟨by omega, h, by unfold inI64; have := Bd.hi; omega, i + 1, by omega, by omega, Keep.wk (ids := [some 0]) ?_⟩
      simp only [push_cast, Nat.reduceEqDiff, Nat.reduceLT, Nat.reduceLeDiff, Nat.reduceAdd, Nat.reduceMul, Nat.reduceSub, Nat.reduceBEq, ↓reduceIte, reduceCtorEq, Int.natCast_add, Int.cast_ofNat_Int, filled_set ha]
    · have hi : i = xs.length := by omega
      subst hi
      rw [filled_all]
      exact Close.of [some 0] rfl rfl rfl rfl (by simp only [push_cast, Nat.reduceEqDiff, Nat.reduceLT, Nat.reduceLeDiff, Nat.reduceAdd, Nat.reduceMul, Nat.reduceSub, Nat.reduceBEq, ↓reduceIte, reduceCtorEq] <;> rfl)
theorem toEvent (x : Event) : Con P0 18 [eEvent x] (.ag [.t (.s x.id), .t (.s x.sender), .t (.s x.typ), .t (.b x.isState), .t (.s x.key), .t (.i .i64 x.time), .sr 0, .sr 1, .t (.s x.value), .sr 2]) [.arr 9 1 (.own .leaf) (x.prev.map T.s), .arr 9 1 (.own .leaf) (x.auth.map T.s), .arr 138 2 (.own (.ag [.leaf, .leaf])) (x.grants.map eGrant)] := by
  refine Con.intro (fn := Tryz.f18) [.cell 2 42] (fun _ => (0, [])) mixed (by kernel_rfl) rfl (by decide) rfl (by rfl) (by kernel_rfl) ?_
  simp -implicitDefEqProofs (maxSteps := 2000000) only [push_cast, Nat.reduceEqDiff, Nat.reduceLT, Nat.reduceLeDiff, Nat.reduceAdd, Nat.reduceMul, Nat.reduceSub, Nat.reduceBEq, ↓reduceIte, reduceCtorEq, eEvent]
  refine Callx.closed (toStringS hB x.prev) rfl rfl (.inl rfl) ?_
  simp -implicitDefEqProofs (maxSteps := 2000000) only [push_cast, Nat.reduceEqDiff, Nat.reduceLT, Nat.reduceLeDiff, Nat.reduceAdd, Nat.reduceMul, Nat.reduceSub, Nat.reduceBEq, ↓reduceIte, reduceCtorEq, eEvent]
  refine Callx.closed (toStringS hB x.auth) rfl rfl (.inl rfl) ?_
  simp -implicitDefEqProofs (maxSteps := 2000000) only [push_cast, Nat.reduceEqDiff, Nat.reduceLT, Nat.reduceLeDiff, Nat.reduceAdd, Nat.reduceMul, Nat.reduceSub, Nat.reduceBEq, ↓reduceIte, reduceCtorEq, eEvent]
  refine Callx.closed (toGrantS hB x.grants) rfl rfl (.inl rfl) ?_
  simp -implicitDefEqProofs (maxSteps := 2000000) only [push_cast, Nat.reduceEqDiff, Nat.reduceLT, Nat.reduceLeDiff, Nat.reduceAdd, Nat.reduceMul, Nat.reduceSub, Nat.reduceBEq, ↓reduceIte, reduceCtorEq, eEvent]
  exact Close.of [some 3, some 4, some 5] rfl rfl rfl (by simp only [push_cast, Nat.reduceEqDiff, Nat.reduceLT, Nat.reduceLeDiff, Nat.reduceAdd, Nat.reduceMul, Nat.reduceSub, Nat.reduceBEq, ↓reduceIte, reduceCtorEq] <;> rfl) (by simp only [push_cast, Nat.reduceEqDiff, Nat.reduceLT, Nat.reduceLeDiff, Nat.reduceAdd, Nat.reduceMul, Nat.reduceSub, Nat.reduceBEq, ↓reduceIte, reduceCtorEq] <;> rfl)
theorem toEventS (xs : List Event) : Con P0 64 [eEventS xs] (.sr 0) [.arr 42 10 (.own (.ag [.leaf, .leaf, .leaf, .leaf, .leaf, .leaf, .sl 9 1 .leaf, .sl 9 1 .leaf, .leaf, .sl 138 2 (.ag [.leaf, .leaf])])) (xs.map eEvent)] := by
  refine Con.intro (fn := Tryz.f64) [.tmp 2] (fun _ => (0, [])) mixed (by kernel_rfl) rfl (by decide) rfl (by rfl) (by kernel_rfl) ?_
  simp -implicitDefEqProofs (maxSteps := 2000000) only [push_cast, Nat.reduceEqDiff, Nat.reduceLT, Nat.reduceLeDiff, Nat.reduceAdd, Nat.reduceMul, Nat.reduceSub, Nat.reduceBEq, ↓reduceIte, reduceCtorEq]
  intro hl
  refine ⟨by omega, by omega, by omega, ?_⟩
  refine WL.loop (ι := Nat) (D := (fun _ => (0, []))) (fun i => i ≤ xs.length) (fun i => ⟨23, [(0, .t (eEventS xs)), (3, .sr 0), (4, .t (.i .i64 i))], [.arr 42 10 (.own (.ag [.leaf, .leaf, .leaf, .leaf, .leaf, .leaf, .sl 9 1 .leaf, .sl 9 1 .leaf, .leaf, .sl 138 2 (.ag [.leaf, .leaf])])) (filled eEvent (.ag [.s [], .s [], .s [], .b false, .s [], .i .i64 0, .sl [], .sl [], .s [], .sl []]) xs i)]⟩) (fun i => xs.length - i) mixed (by kernel_rfl) 0 (by omega) (Keep.wk (ids := [some 0]) ?_) ?_
  · simp only [push_cast, Nat.reduceEqDiff, Nat.reduceLT, Nat.reduceLeDiff, Nat.reduceAdd, Nat.reduceMul, Nat.reduceSub, Nat.reduceBEq, ↓reduceIte, reduceCtorEq, Int.toNat_natCast, filled_zero] <;> trivial
  · intro i hi
    simp -implicitDefEqProofs (maxSteps := 2000000) only [push_cast, Nat.reduceEqDiff, Nat.reduceLT, Nat.reduceLeDiff, Nat.reduceAdd, Nat.reduceMul, Nat.reduceSub, Nat.reduceBEq, ↓reduceIte, reduceCtorEq, eEvent_len, eEvent_isAg, eEvent_ones, eEvent_one]
    intro _
    split
    · rename_i h
      have h : i < xs.length := by omega
      refine ⟨by omega, ?_⟩
      rw [Int.toNat_natCast]
      intro a ha
      try dsimp only
      refine Callx.closed (toEvent hB a) rfl rfl (.inl rfl) ?_
      simp -implicitDefEqProofs (maxSteps := 2000000) only [push_cast, Nat.reduceEqDiff, Nat.reduceLT, Nat.reduceLeDiff, Nat.reduceAdd, Nat.reduceMul, Nat.reduceSub, Nat.reduceBEq, ↓reduceIte, reduceCtorEq, eEvent_len, eEvent_isAg, eEvent_ones, eEvent_one]
      simp -implicitDefEqProofs (maxSteps := 2000000) only [push_cast, Nat.reduceEqDiff, Nat.reduceLT, Nat.reduceLeDiff, Nat.reduceAdd, Nat.reduceMul, Nat.reduceSub, Nat.reduceBEq, ↓reduceIte, reduceCtorEq, Int.toNat_natCast, filled_len hi, filled_at h, filled_set ha]
      refine ⟨by omega, h, by unfold inI64; have := Bd.hi; omega, i + 1, by omega, by omega, Keep.wk (ids := [some 0]) ?_⟩
      simp only [push_cast, Nat.reduceEqDiff, Nat.reduceLT, Nat.reduceLeDiff, Nat.reduceAdd, Nat.reduceMul, Nat.reduceSub, Nat.reduceBEq, ↓reduceIte, reduceCtorEq, Int.natCast_add, Int.cast_ofNat_Int, filled_set ha]
      exact (filled_set (f := eEvent) ha).symm
    · have hi : i = xs.length := by omega
      subst hi
      rw [filled_all]
      exact Close.of [some 0] rfl rfl rfl rfl (by simp only [push_cast, Nat.reduceEqDiff, Nat.reduceLT, Nat.reduceLeDiff, Nat.reduceAdd, Nat.reduceMul, Nat.reduceSub, Nat.reduceBEq, ↓reduceIte, reduceCtorEq] <;> rfl)
theorem toRoom (x : Room) : Con P0 16 [eRoom x] (.ag [.sr 0]) [.arr 42 10 (.own (.ag [.leaf, .leaf, .leaf, .leaf, .leaf, .leaf, .sl 9 1 .leaf, .sl 9 1 .leaf, .leaf, .sl 138 2 (.ag [.leaf, .leaf])])) (x.events.map eEvent)] := by
  refine Con.intro (fn := Tryz.f16) [.cell 2 36] (fun _ => (0, [])) mixed (by kernel_rfl) rfl (by decide) rfl (by rfl) (by kernel_rfl) ?_
  simp -implicitDefEqProofs (maxSteps := 2000000) only [push_cast, Nat.reduceEqDiff, Nat.reduceLT, Nat.reduceLeDiff, Nat.reduceAdd, Nat.reduceMul, Nat.reduceSub, Nat.reduceBEq, ↓reduceIte, reduceCtorEq, eRoom]
  refine Callx.closed (toEventS hB x.events) rfl rfl (.inl rfl) ?_
  simp -implicitDefEqProofs (maxSteps := 2000000) only [push_cast, Nat.reduceEqDiff, Nat.reduceLT, Nat.reduceLeDiff, Nat.reduceAdd, Nat.reduceMul, Nat.reduceSub, Nat.reduceBEq, ↓reduceIte, reduceCtorEq, eRoom]
  exact Close.of [some 3] rfl rfl rfl (by simp only [push_cast, Nat.reduceEqDiff, Nat.reduceLT, Nat.reduceLeDiff, Nat.reduceAdd, Nat.reduceMul, Nat.reduceSub, Nat.reduceBEq, ↓reduceIte, reduceCtorEq] <;> rfl) (by simp only [push_cast, Nat.reduceEqDiff, Nat.reduceLT, Nat.reduceLeDiff, Nat.reduceAdd, Nat.reduceMul, Nat.reduceSub, Nat.reduceBEq, ↓reduceIte, reduceCtorEq] <;> rfl)
end Go.Proofs.YtmgdkkhnjkepiaaGreat.BX
namespace Go.Proofs.YtmgdkkhnjkepiaaGreat.BX
set_option linter.unusedSectionVars false
set_option linter.unusedSimpArgs false
set_option linter.unusedVariables false
open Go Go.RowKit
set_option maxRecDepth 20000
set_option maxHeartbeats 400000
variable [Bd]
theorem szStringS (x : List (List UInt8)) (n : Int) (h0 : 0 ≤ n) (hn : n ≤ 1048576) : Con P0 23 [eStringS x, .i .i64 n] (.t (.i .i64 (szR (eStringS x).wt n))) [] := by
  refine Con.intro (fn := Tryz.f23) [.tmp 4] (fun _ => (0, [])) mixed (by kernel_rfl) rfl (by decide) rfl (by rfl) (by kernel_rfl) ?_
  have hw : (eStringS x).wt = x.length + wts (x.map T.s) := by simp only [eStringS, T.wt, List.length_map]
  simp -implicitDefEqProofs (maxSteps := 2000000) only [push_cast, Nat.reduceEqDiff, Nat.reduceLT, Nat.reduceLeDiff, Nat.reduceAdd, Nat.reduceMul, Nat.reduceSub, Nat.reduceBEq, ↓reduceIte, reduceCtorEq]
  intro hl
  have := Bd.hi
  refine ⟨by unfold inI64; omega, ?_⟩
  split
  · rename_i h
    exact congrArg (T.i .i64) (szR_neg (by rw [hw]; omega)).symm
  rename_i h
  refine WL.loop (ι := Nat) (D := (fun _ => (0, []))) (fun i => i ≤ x.length ∧ (x.length : Int) + wts ((x.take i).map T.s) ≤ n) (fun i => ⟨28, [(0, .t (eStringS x)), (1, .t (.i .i64 (n - x.length - wts ((x.take i).map T.s)))), (5, .t (.i .i64 i))], []⟩) (fun i => x.length - i) mixed (by kernel_rfl) 0 ⟨by omega, by simp [wts]; omega⟩ (Keep.wk (ids := []) ?_) ?_
  · simp only [push_cast, Nat.reduceEqDiff, Nat.reduceLT, Nat.reduceLeDiff, Nat.reduceAdd, Nat.reduceMul, Nat.reduceSub, Nat.reduceBEq, ↓reduceIte, reduceCtorEq, List.take_zero, wts]; simp
  · rintro i ⟨hi, hc⟩
    simp -implicitDefEqProofs (maxSteps := 2000000) only [push_cast, Nat.reduceEqDiff, Nat.reduceLT, Nat.reduceLeDiff, Nat.reduceAdd, Nat.reduceMul, Nat.reduceSub, Nat.reduceBEq, ↓reduceIte, reduceCtorEq]
    intro _
    split
    · rename_i h
      refine ⟨by omega, ?_⟩
      rw [Int.toNat_natCast]
      intro a ha
      try dsimp only
      intro hal
      have hstep := wts_take (f := T.s) ha
      have hle := wts_take_le (f := T.s) x (i + 1)
      refine ⟨by unfold inI64; omega, ?_⟩
      split
      · rename_i hneg
        exact congrArg (T.i .i64) (szR_neg (by rw [hw]; simp only [T.wt] at hstep; omega)).symm
      rename_i hneg
      simp only [T.wt] at hstep
      refine ⟨by unfold inI64; omega, i + 1, ⟨by omega, by omega⟩, by omega, Keep.wk (ids := []) ?_⟩
      simp only [push_cast, Nat.reduceEqDiff, Nat.reduceLT, Nat.reduceLeDiff, Nat.reduceAdd, Nat.reduceMul, Nat.reduceSub, Nat.reduceBEq, ↓reduceIte, reduceCtorEq, T.i.injEq, AV.t.injEq]
      first | exact ⟨by omega, by omega⟩ | omega
    · have hi : i = x.length := by omega
      subst hi
      rw [List.take_length] at hc ⊢
      exact congrArg (T.i .i64) (by rw [hw, szR_pos (by omega)] <;> omega)
theorem szGrant (x : Grant) (n : Int) (h0 : 0 ≤ n) (hn : n ≤ 1048576) : Con P0 115 [eGrant x, .i .i64 n] (.t (.i .i64 (szR (eGrant x).wt n))) [] := by
  refine Con.intro (fn := Tryz.f115) [.tmp 4] (fun _ => (0, [])) mixed (by kernel_rfl) rfl (by decide) rfl (by rfl) (by kernel_rfl) ?_
  have hw : (eGrant x).wt = x.name.length := by simp only [eGrant, T.wt, wts] <;> omega
  rw [hw]
  have := Bd.hi
  simp -implicitDefEqProofs (maxSteps := 2000000) only [push_cast, Nat.reduceEqDiff, Nat.reduceLT, Nat.reduceLeDiff, Nat.reduceAdd, Nat.reduceMul, Nat.reduceSub, Nat.reduceBEq, ↓reduceIte, reduceCtorEq, eGrant]
  intro _
  refine ⟨by unfold inI64; omega, ?_⟩
  split
  · exact congrArg (T.i .i64) (szR_neg (by omega)).symm
  first | trivial | exact congrArg (T.i .i64) (by rw [szR_pos (by omega)] <;> omega)
theorem szGrantS (x : List Grant) (n : Int) (h0 : 0 ≤ n) (hn : n ≤ 1048576) : Con P0 60 [eGrantS x, .i .i64 n] (.t (.i .i64 (szR (eGrantS x).wt n))) [] := by
  refine Con.intro (fn := Tryz.f60) [.tmp 4] (fun _ => (0, [])) mixed (by kernel_rfl) rfl (by decide) rfl (by rfl) (by kernel_rfl) ?_
  have hw : (eGrantS x).wt = x.length + wts (x.map eGrant) := by simp only [eGrantS, T.wt, List.length_map]
  simp -implicitDefEqProofs (maxSteps := 2000000) only [push_cast, Nat.reduceEqDiff, Nat.reduceLT, Nat.reduceLeDiff, Nat.reduceAdd, Nat.reduceMul, Nat.reduceSub, Nat.reduceBEq, ↓reduceIte, reduceCtorEq]
  intro hl
  have := Bd.hi
  refine ⟨by unfold inI64; omega, ?_⟩
  split
  · rename_i h
    exact congrArg (T.i .i64) (szR_neg (by rw [hw]; omega)).symm
  rename_i h
  refine WL.loop (ι := Nat) (D := (fun _ => (0, []))) (fun i => i ≤ x.length ∧ (x.length : Int) + wts ((x.take i).map eGrant) ≤ n) (fun i => ⟨27, [(0, .t (eGrantS x)), (1, .t (.i .i64 (n - x.length - wts ((x.take i).map eGrant)))), (5, .t (.i .i64 i))], []⟩) (fun i => x.length - i) mixed (by kernel_rfl) 0 ⟨by omega, by simp [wts]; omega⟩ (Keep.wk (ids := []) ?_) ?_
  · simp only [push_cast, Nat.reduceEqDiff, Nat.reduceLT, Nat.reduceLeDiff, Nat.reduceAdd, Nat.reduceMul, Nat.reduceSub, Nat.reduceBEq, ↓reduceIte, reduceCtorEq, List.take_zero, wts]; simp
  · rintro i ⟨hi, hc⟩
    simp -implicitDefEqProofs (maxSteps := 2000000) only [push_cast, Nat.reduceEqDiff, Nat.reduceLT, Nat.reduceLeDiff, Nat.reduceAdd, Nat.reduceMul, Nat.reduceSub, Nat.reduceBEq, ↓reduceIte, reduceCtorEq, eGrant_len, eGrant_isAg, eGrant_ones, eGrant_flat, eGrant_one]
    intro _
    split
    · rename_i h
      refine ⟨by omega, ?_⟩
      rw [Int.toNat_natCast]
      intro a ha
      try dsimp only
      have hstep := wts_take (f := eGrant) ha
      have hle := wts_take_le (f := eGrant) x (i + 1)
      refine Callx.closed (szGrant a _ (by omega) (by omega)) rfl rfl (.inl rfl) ?_
      simp -implicitDefEqProofs (maxSteps := 2000000) only [push_cast, Nat.reduceEqDiff, Nat.reduceLT, Nat.reduceLeDiff, Nat.reduceAdd, Nat.reduceMul, Nat.reduceSub, Nat.reduceBEq, ↓reduceIte, reduceCtorEq]
      rcases szR_cases (eGrant a).wt (n - x.length - wts ((x.take i).map eGrant)) with ⟨g1, g2⟩ | ⟨g1, g2⟩
      · simp only [g2]
        rw [if_neg (by omega)]
        refine ⟨by unfold inI64; omega, i + 1, ⟨by omega, by omega⟩, by omega, Keep.wk (ids := []) ?_⟩
        simp only [push_cast, Nat.reduceEqDiff, Nat.reduceLT, Nat.reduceLeDiff, Nat.reduceAdd, Nat.reduceMul, Nat.reduceSub, Nat.reduceBEq, ↓reduceIte, reduceCtorEq, T.i.injEq, AV.t.injEq]
        first | exact ⟨by omega, by omega⟩ | omega
      · simp only [g2]
        rw [if_pos (by omega)]
        exact congrArg (T.i .i64) (szR_neg (by rw [hw]; omega)).symm
    · have hi : i = x.length := by omega
      subst hi
      rw [List.take_length] at hc ⊢
      exact congrArg (T.i .i64) (by rw [hw, szR_pos (by omega)] <;> omega)
theorem szEvent (x : Event) (n : Int) (h0 : 0 ≤ n) (hn : n ≤ 1048576) : Con P0 14 [eEvent x, .i .i64 n] (.t (.i .i64 (szR (eEvent x).wt n))) [] := by
  refine Con.intro (fn := Tryz.f14) [.tmp 4] (fun _ => (0, [])) mixed (by kernel_rfl) rfl (by decide) rfl (by rfl) (by kernel_rfl) ?_
  have hw : (eEvent x).wt = x.id.length + x.sender.length + x.typ.length + x.key.length + (eStringS x.prev).wt + (eStringS x.auth).wt + x.value.length + (eGrantS x.grants).wt := by simp only [eEvent, T.wt, wts] <;> omega
  rw [hw]
  have := Bd.hi
  simp -implicitDefEqProofs (maxSteps := 2000000) only [push_cast, Nat.reduceEqDiff, Nat.reduceLT, Nat.reduceLeDiff, Nat.reduceAdd, Nat.reduceMul, Nat.reduceSub, Nat.reduceBEq, ↓reduceIte, reduceCtorEq, eEvent]
  intro _
  refine ⟨by unfold inI64; omega, ?_⟩
  split
  · exact congrArg (T.i .i64) (szR_neg (by omega)).symm
  intro _
  refine ⟨by unfold inI64; omega, ?_⟩
  split
  · exact congrArg (T.i .i64) (szR_neg (by omega)).symm
  intro _
  refine ⟨by unfold inI64; omega, ?_⟩
  split
  · exact congrArg (T.i .i64) (szR_neg (by omega)).symm
  intro _
  refine ⟨by unfold inI64; omega, ?_⟩
  split
  · exact congrArg (T.i .i64) (szR_neg (by omega)).symm
  refine Callx.closed (szStringS x.prev _ (by omega) (by omega)) rfl rfl (.inl rfl) ?_
  simp -implicitDefEqProofs (maxSteps := 2000000) only [push_cast, Nat.reduceEqDiff, Nat.reduceLT, Nat.reduceLeDiff, Nat.reduceAdd, Nat.reduceMul, Nat.reduceSub, Nat.reduceBEq, ↓reduceIte, reduceCtorEq, eEvent]
  rcases szR_cases (eStringS x.prev).wt (n - x.id.length - x.sender.length - x.typ.length - x.key.length) with ⟨g1, g2⟩ | ⟨g1, g2⟩
  rotate_left
  · simp only [g2]
    rw [if_pos (by omega)]
    first | trivial | exact congrArg (T.i .i64) (szR_neg (by omega)).symm
  simp only [g2]
  rw [if_neg (by omega)]
  clear g2
  refine Callx.closed (szStringS x.auth _ (by omega) (by omega)) rfl rfl (.inl rfl) ?_
  simp -implicitDefEqProofs (maxSteps := 2000000) only [push_cast, Nat.reduceEqDiff, Nat.reduceLT, Nat.reduceLeDiff, Nat.reduceAdd, Nat.reduceMul, Nat.reduceSub, Nat.reduceBEq, ↓reduceIte, reduceCtorEq, eEvent]
  rcases szR_cases (eStringS x.auth).wt (n - x.id.length - x.sender.length - x.typ.length - x.key.length - (eStringS x.prev).wt) with ⟨g1, g2⟩ | ⟨g1, g2⟩
  rotate_left
  · simp only [g2]
    rw [if_pos (by omega)]
    first | trivial | exact congrArg (T.i .i64) (szR_neg (by omega)).symm
  simp only [g2]
  rw [if_neg (by omega)]
  clear g2
  intro _
  refine ⟨by unfold inI64; omega, ?_⟩
  split
  · exact congrArg (T.i .i64) (szR_neg (by omega)).symm
  refine Callx.closed (szGrantS x.grants _ (by omega) (by omega)) rfl rfl (.inl rfl) ?_
  simp -implicitDefEqProofs (maxSteps := 2000000) only [push_cast, Nat.reduceEqDiff, Nat.reduceLT, Nat.reduceLeDiff, Nat.reduceAdd, Nat.reduceMul, Nat.reduceSub, Nat.reduceBEq, ↓reduceIte, reduceCtorEq, eEvent]
  rcases szR_cases (eGrantS x.grants).wt (n - x.id.length - x.sender.length - x.typ.length - x.key.length - (eStringS x.prev).wt - (eStringS x.auth).wt - x.value.length) with ⟨g1, g2⟩ | ⟨g1, g2⟩
  rotate_left
  · simp only [g2]
    rw [if_pos (by omega)]
    first | trivial | exact congrArg (T.i .i64) (szR_neg (by omega)).symm
  simp only [g2]
  rw [if_neg (by omega)]
  clear g2
  first | trivial | exact congrArg (T.i .i64) (by rw [szR_pos (by omega)] <;> omega)
theorem szEventS (x : List Event) (n : Int) (h0 : 0 ≤ n) (hn : n ≤ 1048576) : Con P0 58 [eEventS x, .i .i64 n] (.t (.i .i64 (szR (eEventS x).wt n))) [] := by
  refine Con.intro (fn := Tryz.f58) [.tmp 4] (fun _ => (0, [])) mixed (by kernel_rfl) rfl (by decide) rfl (by rfl) (by kernel_rfl) ?_
  have hw : (eEventS x).wt = x.length + wts (x.map eEvent) := by simp only [eEventS, T.wt, List.length_map]
  simp -implicitDefEqProofs (maxSteps := 2000000) only [push_cast, Nat.reduceEqDiff, Nat.reduceLT, Nat.reduceLeDiff, Nat.reduceAdd, Nat.reduceMul, Nat.reduceSub, Nat.reduceBEq, ↓reduceIte, reduceCtorEq]
  intro hl
  have := Bd.hi
  refine ⟨by unfold inI64; omega, ?_⟩
  split
  · rename_i h
    exact congrArg (T.i .i64) (szR_neg (by rw [hw]; omega)).symm
  rename_i h
  refine WL.loop (ι := Nat) (D := (fun _ => (0, []))) (fun i => i ≤ x.length ∧ (x.length : Int) + wts ((x.take i).map eEvent) ≤ n) (fun i => ⟨27, [(0, .t (eEventS x)), (1, .t (.i .i64 (n - x.length - wts ((x.take i).map eEvent)))), (5, .t (.i .i64 i))], []⟩) (fun i => x.length - i) mixed (by kernel_rfl) 0 ⟨by omega, by simp [wts]; omega⟩ (Keep.wk (ids := []) ?_) ?_
  · simp only [push_cast, Nat.reduceEqDiff, Nat.reduceLT, Nat.reduceLeDiff, Nat.reduceAdd, Nat.reduceMul, Nat.reduceSub, Nat.reduceBEq, ↓reduceIte, reduceCtorEq, List.take_zero, wts]; simp
  · rintro i ⟨hi, hc⟩
    simp -implicitDefEqProofs (maxSteps := 2000000) only [push_cast, Nat.reduceEqDiff, Nat.reduceLT, Nat.reduceLeDiff, Nat.reduceAdd, Nat.reduceMul, Nat.reduceSub, Nat.reduceBEq, ↓reduceIte, reduceCtorEq, eEvent_len, eEvent_isAg, eEvent_ones, eEvent_one]
    intro _
    split
    · rename_i h
      refine ⟨by omega, ?_⟩
      rw [Int.toNat_natCast]
      intro a ha
      try dsimp only
      have hstep := wts_take (f := eEvent) ha
      have hle := wts_take_le (f := eEvent) x (i + 1)
      refine Callx.closed (szEvent a _ (by omega) (by omega)) rfl rfl (.inl rfl) ?_
      simp -implicitDefEqProofs (maxSteps := 2000000) only [push_cast, Nat.reduceEqDiff, Nat.reduceLT, Nat.reduceLeDiff, Nat.reduceAdd, Nat.reduceMul, Nat.reduceSub, Nat.reduceBEq, ↓reduceIte, reduceCtorEq]
      rcases szR_cases (eEvent a).wt (n - x.length - wts ((x.take i).map eEvent)) with ⟨g1, g2⟩ | ⟨g1, g2⟩
      · simp only [g2]
        rw [if_neg (by omega)]
        refine ⟨by unfold inI64; omega, i + 1, ⟨by omega, by omega⟩, by omega, Keep.wk (ids := []) ?_⟩
        simp only [push_cast, Nat.reduceEqDiff, Nat.reduceLT, Nat.reduceLeDiff, Nat.reduceAdd, Nat.reduceMul, Nat.reduceSub, Nat.reduceBEq, ↓reduceIte, reduceCtorEq, T.i.injEq, AV.t.injEq]
        first | exact ⟨by omega, by omega⟩ | omega
      · simp only [g2]
        rw [if_pos (by omega)]
        exact congrArg (T.i .i64) (szR_neg (by rw [hw]; omega)).symm
    · have hi : i = x.length := by omega
      subst hi
      rw [List.take_length] at hc ⊢
      exact congrArg (T.i .i64) (by rw [hw, szR_pos (by omega)] <;> omega)
theorem szRoom (x : Room) (n : Int) (h0 : 0 ≤ n) (hn : n ≤ 1048576) : Con P0 12 [eRoom x, .i .i64 n] (.t (.i .i64 (szR (eRoom x).wt n))) [] := by
  refine Con.intro (fn := Tryz.f12) [.tmp 4] (fun _ => (0, [])) mixed (by kernel_rfl) rfl (by decide) rfl (by rfl) (by kernel_rfl) ?_
  have hw : (eRoom x).wt = (eEventS x.events).wt := by simp only [eRoom, T.wt, wts] <;> omega
  rw [hw]
  have := Bd.hi
  simp -implicitDefEqProofs (maxSteps := 2000000) only [push_cast, Nat.reduceEqDiff, Nat.reduceLT, Nat.reduceLeDiff, Nat.reduceAdd, Nat.reduceMul, Nat.reduceSub, Nat.reduceBEq, ↓reduceIte, reduceCtorEq, eRoom]
  refine Callx.closed (szEventS x.events _ (by omega) (by omega)) rfl rfl (.inl rfl) ?_
  simp -implicitDefEqProofs (maxSteps := 2000000) only [push_cast, Nat.reduceEqDiff, Nat.reduceLT, Nat.reduceLeDiff, Nat.reduceAdd, Nat.reduceMul, Nat.reduceSub, Nat.reduceBEq, ↓reduceIte, reduceCtorEq, eRoom]
  rcases szR_cases (eEventS x.events).wt (n) with ⟨g1, g2⟩ | ⟨g1, g2⟩
  rotate_left
  · simp only [g2]
    rw [if_pos (by omega)]
    first | trivial | exact congrArg (T.i .i64) (szR_neg (by omega)).symm
  simp only [g2]
  rw [if_neg (by omega)]
  clear g2
  first | trivial | exact congrArg (T.i .i64) (by rw [szR_pos (by omega)] <;> omega)
end Go.Proofs.YtmgdkkhnjkepiaaGreat.BX
namespace Go.Proofs.YtmgdkkhnjkepiaaGreat.BX
set_option linter.unusedSectionVars false
set_option linter.unusedSimpArgs false
set_option linter.unusedVariables false
open Go Go.RowKit
set_option maxRecDepth 20000
set_option maxHeartbeats 400000
def sCreate : List UInt8 := [99, 114, 101, 97, 116, 101]
def sMember : List UInt8 := [109, 101, 109, 98, 101, 114]
def sRules : List UInt8 := [106, 111, 105, 110, 95, 114, 117, 108, 101, 115]
def sPower : List UInt8 := [112, 111, 119, 101, 114]
def sJoin : List UInt8 := [106, 111, 105, 110]
def sInvite : List UInt8 := [105, 110, 118, 105, 116, 101]
def sLeave : List UInt8 := [108, 101, 97, 118, 101]
def sBan : List UInt8 := [98, 97, 110]
def sPublic : List UInt8 := [112, 117, 98, 108, 105, 99]
def refsB (xs : List (List UInt8)) (own : List UInt8) : Bool := decide ((xs.length : Int) ≤ 10) && (decide (∀ x ∈ xs, isW x = true ∧ x ≠ own) && decide xs.Nodup)
def nameB : List UInt8 → Bool
  | [] => isW []
  | c :: r => if (c.toNat : Int) = 42 ∨ (c.toNat : Int) = 35 then isW r else isW (c :: r)
def grantB (g : Grant) : Bool := nameB g.name && (decide (-1000000 ≤ g.level) && decide (g.level ≤ 1000000))
open Classical in
noncomputable def grantsB (gs : List Grant) : Bool := decide ((gs.length : Int) ≤ 50) && (decide (∀ g ∈ gs, grantB g = true) && decide (∀ (i : Nat) (a b : Grant), gs[i]? = some a → gs[i + 1]? = some b → Op.bytesLess a.name b.name = true))
noncomputable def contentB (e : Event) : Bool :=
  if e.typ = sCreate then (e.isState && decide (e.key = [])) && decide ((e.grants.length : Int) = 0) && decide ((e.prev.length : Int) = 0) && decide ((e.auth.length : Int) = 0) && decide (e.value = [])
  else if e.typ = sMember then e.isState && decide (¬ e.key = []) && decide ((e.grants.length : Int) = 0) && decide (e.value ∈ [sJoin, sInvite, sLeave, sBan])
  else if e.typ = sRules then (e.isState && decide (e.key = [])) && decide ((e.grants.length : Int) = 0) && decide (e.value ∈ [sPublic, sInvite])
  else if e.typ = sPower then (e.isState && decide (e.key = [])) && decide (e.value = []) && grantsB e.grants
  else decide ((e.grants.length : Int) = 0) && (decide (e.value = []) || isW e.value)
noncomputable def ev5 (e : Event) : Int := if ¬ contentB e = true then 5 else 0
noncomputable def ev4 (e : Event) : Int := if ¬ (refsB e.prev e.id = true ∧ refsB e.auth e.id = true) then 4 else ev5 e
noncomputable def ev3 (e : Event) : Int := if e.time < 0 ∨ 1000000000000 < e.time then 3 else ev4 e
noncomputable def ev2 (e : Event) : Int := if ¬ e.key = [] ∧ ¬ (e.isState = true ∧ isW e.key = true) then 2 else ev3 e
noncomputable def evOk (e : Event) : Int := if ¬ (isW e.id = true ∧ isW e.sender = true ∧ isW e.typ = true) then 1 else ev2 e
theorem nodup_snoc {α : Type} {s : List α} {i : Nat} {a : α} (ha : s[i]? = some a) : (s.take (i + 1)).Nodup ↔ (s.take i).Nodup ∧ a ∉ s.take i := by
  rw [List.take_add_one, ha, Option.toList_some, List.nodup_append]
  refine ⟨fun h => ⟨h.1, fun hm => h.2.2 a hm a (by simp) rfl⟩, fun h => ⟨h.1, by simp, fun x hx y hy => ?_⟩⟩
  simp only [List.mem_singleton] at hy
  subst hy
  rintro rfl
  exact h.2 hx
theorem refsB_no1 {xs : List (List UInt8)} {own a : List UInt8} (ha : a ∈ xs) (h : ¬ (isW a = true ∧ a ≠ own)) : refsB xs own = false := by
  unfold refsB
  rw [decide_eq_false (p := ∀ x ∈ xs, isW x = true ∧ x ≠ own) (fun hh => h (hh a ha))]
  simp
theorem refsB_no2 {xs : List (List UInt8)} {own a : List UInt8} {i : Nat} (ha : xs[i]? = some a) (h : a ∈ xs.take i) : refsB xs own = false := by
  unfold refsB
  rw [decide_eq_false (p := xs.Nodup) (fun hh => ?_)]
  · simp
  · have := (nodup_snoc ha).1 (hh.sublist (List.take_sublist _ _))
    exact this.2 h
theorem grantsB_no1 {gs : List Grant} {g : Grant} (hg : g ∈ gs) (h : ¬ grantB g = true) : grantsB gs = false := by
  unfold grantsB
  rw [decide_eq_false (p := ∀ g ∈ gs, grantB g = true) (fun hh => h (hh g hg))]
  simp
theorem grantsB_no2 {gs : List Grant} {j : Nat} {a b : Grant} (ha : gs[j]? = some a) (hb : gs[j + 1]? = some b) (h : Op.bytesLess a.name b.name = false) : grantsB gs = false := by
  unfold grantsB
  rw [@decide_eq_false _ (Classical.propDecidable _) (fun hh : ∀ (i : Nat) (a b : Grant), gs[i]? = some a → gs[i + 1]? = some b → Op.bytesLess a.name b.name = true => by rw [hh j a b ha hb] at h; cases h)]
  simp
theorem grantsB_no3 {gs : List Grant} (h : 50 < (gs.length : Int)) : grantsB gs = false := by
  unfold grantsB
  rw [decide_eq_false (p := (gs.length : Int) ≤ 50) (by omega)]; rfl
theorem grantsB_yes {gs : List Grant} (h1 : ∀ g ∈ gs, grantB g = true) (h2 : ∀ (i : Nat) (a b : Grant), gs[i]? = some a → gs[i + 1]? = some b → Op.bytesLess a.name b.name = true) : grantsB gs = decide ((gs.length : Int) ≤ 50) := by
  unfold grantsB
  rw [decide_eq_true h1, @decide_eq_true _ (Classical.propDecidable _) h2, Bool.and_self, Bool.and_true]
theorem less_snoc {gs : List Grant} {i : Nat} {b : Grant} (hb : gs[i]? = some b) (hc : ∀ (j : Nat) (x y : Grant), j + 1 < i → gs[j]? = some x → gs[j + 1]? = some y → Op.bytesLess x.name y.name = true) (h : 0 < i → ∀ a, gs[i - 1]? = some a → Op.bytesLess a.name b.name = true) :
    ∀ (j : Nat) (x y : Grant), j + 1 < i + 1 → gs[j]? = some x → gs[j + 1]? = some y → Op.bytesLess x.name y.name = true := by
  intro j x y hj hx hy
  rcases Nat.lt_or_ge (j + 1) i with h' | h'
  · exact hc j x y h' hx hy
  · have : i = j + 1 := by omega
    subst this
    rw [hb] at hy
    cases hy
    exact h (by omega) x hx
theorem toNat_pred {i : Nat} : ((i : Int) - 1).toNat = i - 1 := by omega
variable [Bd]
theorem l1Has (xs : List (List UInt8)) (s : List UInt8) : Con P0 143 [eStringS xs, .s s] (.t (.b (decide (s ∈ xs)))) [] := by
  refine Con.intro (fn := Tryz.f143) [.tmp 4] (fun _ => (0, [])) mixed (by kernel_rfl) rfl (by decide) rfl (by rfl) (by kernel_rfl) ?_
  simp -implicitDefEqProofs (maxSteps := 2000000) only [push_cast, Nat.reduceEqDiff, Nat.reduceLT, Nat.reduceLeDiff, Nat.reduceAdd, Nat.reduceMul, Nat.reduceSub, Nat.reduceBEq, ↓reduceIte, reduceCtorEq]
  refine WL.loop (ι := Nat) (D := (fun _ => (0, []))) (fun i => i ≤ xs.length ∧ ∀ c ∈ xs.take i, c ≠ s) (fun i => ⟨18, [(0, .t (eStringS xs)), (1, .t (.s s)), (5, .t (.i .i64 i))], []⟩) (fun i => xs.length - i) mixed (by kernel_rfl) 0 ⟨by omega, by simp⟩ (Keep.wk (ids := []) ?_) ?_
  · simp only [push_cast, Nat.reduceEqDiff, Nat.reduceLT, Nat.reduceLeDiff, Nat.reduceAdd, Nat.reduceMul, Nat.reduceSub, Nat.reduceBEq, ↓reduceIte, reduceCtorEq] <;> rfl
  · rintro i ⟨hi, hc⟩
    simp -implicitDefEqProofs (maxSteps := 2000000) only [push_cast, Nat.reduceEqDiff, Nat.reduceLT, Nat.reduceLeDiff, Nat.reduceAdd, Nat.reduceMul, Nat.reduceSub, Nat.reduceBEq, ↓reduceIte, reduceCtorEq]
    intro _
    have := Bd.hi
    split
    · rename_i h
      refine ⟨by omega, fun a ha => ?_⟩
      rw [Int.toNat_natCast] at ha
      split
      · rename_i he
        exact congrArg T.b (decide_eq_true (he ▸ List.mem_of_getElem? ha)).symm
      · rename_i he
        refine ⟨by unfold inI64; omega, i + 1, ⟨by omega, take_snoc ha hc he⟩, by omega, Keep.wk (ids := []) ?_⟩
        simp only [push_cast, Nat.reduceEqDiff, Nat.reduceLT, Nat.reduceLeDiff, Nat.reduceAdd, Nat.reduceMul, Nat.reduceSub, Nat.reduceBEq, ↓reduceIte, reduceCtorEq] <;> rfl
    · rw [List.take_of_length_le (by omega)] at hc
      exact congrArg T.b (decide_eq_false fun hm => hc s hm rfl).symm
theorem l1RefsOk (xs : List (List UInt8)) (own : List UInt8) : Con P0 117 [eStringS xs, .s own] (.t (.b (refsB xs own))) [] := by
  refine Con.intro (fn := Tryz.f117) [.tmp 4] (fun i => if i = 6 then (24, []) else (0, [])) mixed (by kernel_rfl) rfl (by decide) rfl (by rfl) (by kernel_rfl) ?_
  simp -implicitDefEqProofs (maxSteps := 2000000) only [push_cast, Nat.reduceEqDiff, Nat.reduceLT, Nat.reduceLeDiff, Nat.reduceAdd, Nat.reduceMul, Nat.reduceSub, Nat.reduceBEq, ↓reduceIte, reduceCtorEq]
  intro _
  refine iteI (fun h => ?_) (fun h => ?_)
  · refine congrArg T.b ?_
    unfold refsB
    rw [decide_eq_false (by omega)]; rfl
  refine WL.loop (ι := Nat) (D := (fun i => if i = 6 then (24, []) else (0, []))) (fun i => i ≤ xs.length ∧ (∀ x ∈ xs.take i, isW x = true ∧ x ≠ own) ∧ (xs.take i).Nodup) (fun i => ⟨39, [(0, .t (eStringS xs)), (1, .t (.s own)), (5, .t (.i .i64 i))], []⟩) (fun i => xs.length - i) mixed (by kernel_rfl) 0 ⟨by omega, by simp, by simp⟩ (Keep.wk (ids := []) ?_) ?_
  · simp only [push_cast, Nat.reduceEqDiff, Nat.reduceLT, Nat.reduceLeDiff, Nat.reduceAdd, Nat.reduceMul, Nat.reduceSub, Nat.reduceBEq, ↓reduceIte, reduceCtorEq] <;> rfl
  · rintro i ⟨hi, hc, hn⟩
    simp -implicitDefEqProofs (maxSteps := 2000000) only [push_cast, Nat.reduceEqDiff, Nat.reduceLT, Nat.reduceLeDiff, Nat.reduceAdd, Nat.reduceMul, Nat.reduceSub, Nat.reduceBEq, ↓reduceIte, reduceCtorEq]
    intro _
    have := Bd.hi
    refine iteI (fun h => ?_) (fun h => ?_)
    · refine ⟨by omega, fun a ha => CallV.t (l1Word a) (.inl rfl) ?_⟩
      rw [Int.toNat_natCast] at ha
      simp -implicitDefEqProofs (maxSteps := 2000000) only [push_cast, Nat.reduceEqDiff, Nat.reduceLT, Nat.reduceLeDiff, Nat.reduceAdd, Nat.reduceMul, Nat.reduceSub, Nat.reduceBEq, ↓reduceIte, reduceCtorEq]
      have he : (Int.toNat 0) = 0 := rfl
      rw [he, List.drop_zero, Int.toNat_natCast, ← List.map_take]
      have no : ∀ {b : Bool}, b = false → T.b false = T.b b := fun h => congrArg T.b h.symm
      refine iteI (fun h1 => ?_) (fun h1 => ?_)
      · exact no (refsB_no1 (List.mem_of_getElem? ha) (by simp_all))
      refine ⟨by omega, fun a' ha' => ?_⟩
      rw [ha] at ha'; cases ha'
      refine iteI (fun h2 => ?_) (fun h2 => ?_)
      · exact no (refsB_no1 (List.mem_of_getElem? ha) (by simp_all))
      refine ⟨by omega, by omega, fun a' ha' => CallV.t (l1Has (xs.take i) a') (.inl rfl) ?_⟩
      rw [ha] at ha'; cases ha'
      simp -implicitDefEqProofs (maxSteps := 2000000) only [push_cast, Nat.reduceEqDiff, Nat.reduceLT, Nat.reduceLeDiff, Nat.reduceAdd, Nat.reduceMul, Nat.reduceSub, Nat.reduceBEq, ↓reduceIte, reduceCtorEq]
      refine iteI (fun h3 => ?_) (fun h3 => ?_)
      · exact no (refsB_no2 ha h3)
      refine ⟨by unfold inI64; omega, i + 1, ⟨by omega, take_snoc ha hc ⟨by simpa using h1, h2⟩, (nodup_snoc ha).2 ⟨hn, h3⟩⟩, by omega, Keep.wk (ids := []) ?_⟩
      simp only [push_cast, Nat.reduceEqDiff, Nat.reduceLT, Nat.reduceLeDiff, Nat.reduceAdd, Nat.reduceMul, Nat.reduceSub, Nat.reduceBEq, ↓reduceIte, reduceCtorEq] <;> rfl
    · rw [List.take_of_length_le (by omega)] at hc hn
      refine congrArg T.b ?_
      unfold refsB
      rw [decide_eq_true (p := ((xs.length : Int) ≤ 10)) (by omega), decide_eq_true hc, decide_eq_true hn]; rfl
theorem refsOk (xs : List (List UInt8)) (own : List UInt8) : Con P0 130 [eStringS xs, .s own] (.t (.b (refsB xs own))) [] := by
  refine Con.intro (fn := Tryz.f130) [.tmp 4] (fun _ => (0, [])) mixed (by kernel_rfl) rfl (by decide) rfl (by rfl) (by kernel_rfl) ?_
  simp -implicitDefEqProofs (maxSteps := 2000000) only [push_cast, Nat.reduceEqDiff, Nat.reduceLT, Nat.reduceLeDiff, Nat.reduceAdd, Nat.reduceMul, Nat.reduceSub, Nat.reduceBEq, ↓reduceIte, reduceCtorEq]
  intro _
  refine iteI (fun h => ?_) (fun h => ?_)
  · refine congrArg T.b ?_
    unfold refsB
    rw [decide_eq_false (by omega)]; rfl
  intro _
  refine WL.loop (ι := Nat) (D := (fun _ => (0, []))) (fun i => i ≤ xs.length ∧ (∀ x ∈ xs.take i, isW x = true ∧ x ≠ own) ∧ (xs.take i).Nodup) (fun i => ⟨40, [(0, .t (eStringS xs)), (1, .t (.s own)), (12, .t (eStringS xs)), (13, .t (.i .i64 xs.length)), (14, .t (.i .i64 i))], []⟩) (fun i => xs.length - i) mixed (by kernel_rfl) 0 ⟨by omega, by simp, by simp⟩ (Keep.wk (ids := []) ?_) ?_
  · simp only [push_cast, Nat.reduceEqDiff, Nat.reduceLT, Nat.reduceLeDiff, Nat.reduceAdd, Nat.reduceMul, Nat.reduceSub, Nat.reduceBEq, ↓reduceIte, reduceCtorEq] <;> rfl
  · rintro i ⟨hi, hc, hn⟩
    simp -implicitDefEqProofs (maxSteps := 2000000) only [push_cast, Nat.reduceEqDiff, Nat.reduceLT, Nat.reduceLeDiff, Nat.reduceAdd, Nat.reduceMul, Nat.reduceSub, Nat.reduceBEq, ↓reduceIte, reduceCtorEq]
    have := Bd.hi
    refine iteI (fun h => ?_) (fun h => ?_)
    · refine ⟨by omega, fun a ha => Callx.closed (isWord a) rfl rfl (.inl rfl) ?_⟩
      rw [Int.toNat_natCast] at ha
      simp -implicitDefEqProofs (maxSteps := 2000000) only [push_cast, Nat.reduceEqDiff, Nat.reduceLT, Nat.reduceLeDiff, Nat.reduceAdd, Nat.reduceMul, Nat.reduceSub, Nat.reduceBEq, ↓reduceIte, reduceCtorEq]
      have no : ∀ {b : Bool}, b = false → T.b false = T.b b := fun h => congrArg T.b h.symm
      refine iteI (fun h1 => ?_) (fun h1 => ?_)
      · exact no (refsB_no1 (List.mem_of_getElem? ha) (by simp_all))
      refine iteI (fun h2 => ?_) (fun h2 => ?_)
      · exact no (refsB_no1 (List.mem_of_getElem? ha) (by simp_all))
      have he : (Int.toNat 0) = 0 := rfl
      rw [he, List.drop_zero, Int.toNat_natCast, ← List.map_take]
      refine ⟨by omega, fun _ => ?_⟩
      have hl : (xs.take i).length = i := by rw [List.length_take]; omega
      refine WL.loop (ι := Nat) (D := (fun _ => (0, []))) (fun j => j ≤ i ∧ ∀ c ∈ (xs.take i).take j, c ≠ a) (fun j => ⟨40, [(0, .t (eStringS xs)), (1, .t (.s own)), (12, .t (eStringS xs)), (13, .t (.i .i64 xs.length)), (14, .t (.i .i64 i)), (6, .t (.s a)), (29, .t (eStringS (xs.take i))), (30, .t (.i .i64 i)), (31, .t (.i .i64 j))], []⟩) (fun j => i - j) mixed (by kernel_rfl) 0 ⟨by omega, by simp⟩ (Keep.wk (ids := []) ?_) ?_
      · simp only [push_cast, Nat.reduceEqDiff, Nat.reduceLT, Nat.reduceLeDiff, Nat.reduceAdd, Nat.reduceMul, Nat.reduceSub, Nat.reduceBEq, ↓reduceIte, reduceCtorEq, List.length_map, hl] <;> first | rfl | trivial
      rintro j ⟨hj, hcj⟩
      simp -implicitDefEqProofs (maxSteps := 2000000) only [push_cast, Nat.reduceEqDiff, Nat.reduceLT, Nat.reduceLeDiff, Nat.reduceAdd, Nat.reduceMul, Nat.reduceSub, Nat.reduceBEq, ↓reduceIte, reduceCtorEq]
      refine iteI (fun h3 => ?_) (fun h3 => ?_)
      · refine ⟨by omega, fun b hb => ?_⟩
        rw [Int.toNat_natCast] at hb
        refine iteI (fun h4 => ?_) (fun h4 => ?_)
        · exact no (refsB_no2 ha (h4 ▸ List.mem_of_getElem? hb))
        refine ⟨by unfold inI64; omega, j + 1, ⟨by omega, take_snoc hb hcj fun e => h4 e.symm⟩, by omega, Keep.wk (ids := []) ?_⟩
        simp only [push_cast, Nat.reduceEqDiff, Nat.reduceLT, Nat.reduceLeDiff, Nat.reduceAdd, Nat.reduceMul, Nat.reduceSub, Nat.reduceBEq, ↓reduceIte, reduceCtorEq] <;> rfl
      · rw [List.take_of_length_le (by omega)] at hcj
        refine ⟨by unfold inI64; omega, i + 1, ⟨by omega, take_snoc ha hc ⟨by simpa using h1, h2⟩, (nodup_snoc ha).2 ⟨hn, fun hm => hcj a hm rfl⟩⟩, by omega, Keep.wk (ids := []) ?_⟩
        simp only [push_cast, Nat.reduceEqDiff, Nat.reduceLT, Nat.reduceLeDiff, Nat.reduceAdd, Nat.reduceMul, Nat.reduceSub, Nat.reduceBEq, ↓reduceIte, reduceCtorEq] <;> rfl
    · rw [List.take_of_length_le (by omega)] at hc hn
      refine congrArg T.b ?_
      unfold refsB
      rw [decide_eq_true (p := ((xs.length : Int) ≤ 10)) (by omega), decide_eq_true hc, decide_eq_true hn]; rfl
theorem l1NameOk (s : List UInt8) : Con P0 226 [.s s] (.t (.b (nameB s))) [] := by
  refine Con.intro (fn := Tryz.f226) [.tmp 2] (fun _ => (0, [])) mixed (by kernel_rfl) rfl (by decide) rfl (by rfl) (by kernel_rfl) ?_
  simp -implicitDefEqProofs (maxSteps := 2000000) only [push_cast, Nat.reduceEqDiff, Nat.reduceLT, Nat.reduceLeDiff, Nat.reduceAdd, Nat.reduceMul, Nat.reduceSub, Nat.reduceBEq, ↓reduceIte, reduceCtorEq]
  intro _
  refine iteI (fun h => ?_) (fun h => ?_)
  · refine ⟨by omega, fun c hc => ?_⟩
    obtain ⟨r, rfl⟩ : ∃ r, s = c :: r := by
      cases s with
      | nil => cases hc
      | cons d r => simp at hc; subst hc; exact ⟨r, rfl⟩
    simp -implicitDefEqProofs (maxSteps := 2000000) only [push_cast, Nat.reduceEqDiff, Nat.reduceLT, Nat.reduceLeDiff, Nat.reduceAdd, Nat.reduceMul, Nat.reduceSub, Nat.reduceBEq, ↓reduceIte, reduceCtorEq]
    have hd : List.drop (Int.toNat 1) (List.take (c :: r).length (c :: r)) = r := by simp
    refine iteI (fun h1 => ?_) (fun h1 => ?_)
    · refine ⟨by omega, ?_⟩
      refine Callx.closed (l1Word r) (by simp) rfl (.inl rfl) ?_
      simp -implicitDefEqProofs (maxSteps := 2000000) only [push_cast, Nat.reduceEqDiff, Nat.reduceLT, Nat.reduceLeDiff, Nat.reduceAdd, Nat.reduceMul, Nat.reduceSub, Nat.reduceBEq, ↓reduceIte, reduceCtorEq]
      exact congrArg T.b (Eq.symm (if_pos (.inl h1)))
    · refine ⟨by omega, fun c' hc' => ?_⟩
      simp at hc'
      subst hc'
      simp -implicitDefEqProofs (maxSteps := 2000000) only [push_cast, Nat.reduceEqDiff, Nat.reduceLT, Nat.reduceLeDiff, Nat.reduceAdd, Nat.reduceMul, Nat.reduceSub, Nat.reduceBEq, ↓reduceIte, reduceCtorEq]
      refine iteI (fun h2 => ?_) (fun h2 => ?_)
      · refine ⟨by omega, ?_⟩
        refine Callx.closed (l1Word r) (by simp) rfl (.inl rfl) ?_
        simp -implicitDefEqProofs (maxSteps := 2000000) only [push_cast, Nat.reduceEqDiff, Nat.reduceLT, Nat.reduceLeDiff, Nat.reduceAdd, Nat.reduceMul, Nat.reduceSub, Nat.reduceBEq, ↓reduceIte, reduceCtorEq]
        exact congrArg T.b (Eq.symm (if_pos (.inr h2)))
      · refine Callx.closed (l1Word (c :: r)) rfl rfl (.inl rfl) ?_
        simp -implicitDefEqProofs (maxSteps := 2000000) only [push_cast, Nat.reduceEqDiff, Nat.reduceLT, Nat.reduceLeDiff, Nat.reduceAdd, Nat.reduceMul, Nat.reduceSub, Nat.reduceBEq, ↓reduceIte, reduceCtorEq]
        exact congrArg T.b (Eq.symm (if_neg (by omega)))
  · have hs : s = [] := by
      cases s with
      | nil => rfl
      | cons d r => exact absurd (by simp only [List.length_cons]; omega) h
    subst hs
    refine Callx.closed (l1Word []) rfl rfl (.inl rfl) ?_
    simp -implicitDefEqProofs (maxSteps := 2000000) only [push_cast, Nat.reduceEqDiff, Nat.reduceLT, Nat.reduceLeDiff, Nat.reduceAdd, Nat.reduceMul, Nat.reduceSub, Nat.reduceBEq, ↓reduceIte, reduceCtorEq]
    rfl
theorem l1GrantsOk (gs : List Grant) : Con P0 187 [eGrantS gs] (.t (.b (grantsB gs))) [] := by
  refine Con.intro (fn := Tryz.f187) [.tmp 2] (fun i => if i = 6 then (16, []) else (0, [])) mixed (by kernel_rfl) rfl (by decide) rfl (by rfl) (by kernel_rfl) ?_
  simp -implicitDefEqProofs (maxSteps := 2000000) only [push_cast, Nat.reduceEqDiff, Nat.reduceLT, Nat.reduceLeDiff, Nat.reduceAdd, Nat.reduceMul, Nat.reduceSub, Nat.reduceBEq, ↓reduceIte, reduceCtorEq]
  have no : ∀ {b : Bool}, b = false → T.b false = T.b b := fun h => congrArg T.b h.symm
  refine WL.loop (ι := Nat) (D := (fun i => if i = 6 then (16, []) else (0, []))) (fun i => i ≤ gs.length ∧ (∀ g ∈ gs.take i, grantB g = true) ∧ ∀ (j : Nat) (x y : Grant), j + 1 < i → gs[j]? = some x → gs[j + 1]? = some y → Op.bytesLess x.name y.name = true) (fun i => ⟨52, [(0, .t (eGrantS gs)), (3, .t (.i .i64 i))], []⟩) (fun i => gs.length - i) mixed (by kernel_rfl) 0 ⟨by omega, by simp, fun j x y hj => absurd hj (by omega)⟩ (Keep.wk (ids := []) ?_) ?_
  · simp only [push_cast, Nat.reduceEqDiff, Nat.reduceLT, Nat.reduceLeDiff, Nat.reduceAdd, Nat.reduceMul, Nat.reduceSub, Nat.reduceBEq, ↓reduceIte, reduceCtorEq] <;> rfl
  · rintro i ⟨hi, hc, ho⟩
    simp -implicitDefEqProofs (maxSteps := 2000000) only [push_cast, Nat.reduceEqDiff, Nat.reduceLT, Nat.reduceLeDiff, Nat.reduceAdd, Nat.reduceMul, Nat.reduceSub, Nat.reduceBEq, ↓reduceIte, reduceCtorEq, eGrant]
    intro _
    have := Bd.hi
    refine iteI (fun h => ?_) (fun h => ?_)
    · refine ⟨by omega, fun a ha => Callx.closed (l1NameOk a.name) rfl rfl (.inl rfl) ?_⟩
      rw [Int.toNat_natCast] at ha
      simp -implicitDefEqProofs (maxSteps := 2000000) only [push_cast, Nat.reduceEqDiff, Nat.reduceLT, Nat.reduceLeDiff, Nat.reduceAdd, Nat.reduceMul, Nat.reduceSub, Nat.reduceBEq, ↓reduceIte, reduceCtorEq, eGrant]
      have bad : ¬ grantB a = true → grantsB gs = false := fun h => grantsB_no1 (List.mem_of_getElem? ha) h
      refine iteI (fun h1 => no (bad ?_)) (fun h1 => ⟨by omega, fun a' ha' => ?_⟩)
      · unfold grantB; simp only [Bool.not_eq_true'] at h1; rw [h1]; simp
      rw [Int.toNat_natCast, ha] at ha'; cases ha'
      refine iteI (fun h2 => no (bad ?_)) (fun h2 => ⟨by omega, fun a' ha' => ?_⟩)
      · unfold grantB; rw [decide_eq_false (p := -1000000 ≤ a.level) (by omega)]; simp
      rw [Int.toNat_natCast, ha] at ha'; cases ha'
      refine iteI (fun h3 => no (bad ?_)) (fun h3 => ?_)
      · unfold grantB; rw [decide_eq_false (p := a.level ≤ 1000000) (by omega)]; simp
      have good : grantB a = true := by
        unfold grantB
        rw [decide_eq_true (p := -1000000 ≤ a.level) (by omega), decide_eq_true (p := a.level ≤ 1000000) (by omega)]
        simpa using h1
      refine iteI (fun h4 => ⟨by unfold inI64; omega, by omega, fun b hb => ⟨by omega, fun a' ha' => ?_⟩⟩) (fun h4 => ?_)
      · rw [Int.toNat_natCast, ha] at ha'; cases ha'
        rw [toNat_pred] at hb
        cases hl : Op.bytesLess b.name a.name with
        | false =>
          refine no (grantsB_no2 hb (by rw [show i - 1 + 1 = i by omega]; exact ha) hl)
        | true =>
          simp only [Bool.not_true, Bool.false_eq_true, if_false]
          refine ⟨by unfold inI64; omega, i + 1, ⟨by omega, take_snoc ha hc good, less_snoc ha ho fun _ x hx => by rw [hb] at hx; cases hx; exact hl⟩, by omega, Keep.wk (ids := []) ?_⟩
          simp only [push_cast, Nat.reduceEqDiff, Nat.reduceLT, Nat.reduceLeDiff, Nat.reduceAdd, Nat.reduceMul, Nat.reduceSub, Nat.reduceBEq, ↓reduceIte, reduceCtorEq] <;> rfl
      · refine ⟨by unfold inI64; omega, i + 1, ⟨by omega, take_snoc ha hc good, less_snoc ha ho fun h0 => absurd h0 (by omega)⟩, by omega, Keep.wk (ids := []) ?_⟩
        simp only [push_cast, Nat.reduceEqDiff, Nat.reduceLT, Nat.reduceLeDiff, Nat.reduceAdd, Nat.reduceMul, Nat.reduceSub, Nat.reduceBEq, ↓reduceIte, reduceCtorEq] <;> rfl
    · rw [List.take_of_length_le (by omega)] at hc
      intro _
      exact congrArg T.b (grantsB_yes hc fun j x y hx hy => ho j x y (by have := (List.getElem?_eq_some_iff.1 hy).1; omega) hx hy).symm
theorem grantsOk (gs : List Grant) : Con P0 312 [eGrantS gs] (.t (.b (grantsB gs))) [] := by
  refine Con.intro (fn := Tryz.f312) [.tmp 2] (fun i => if i = 9 then (28, []) else (0, [])) mixed (by kernel_rfl) rfl (by decide) rfl (by rfl) (by kernel_rfl) ?_
  simp -implicitDefEqProofs (maxSteps := 2000000) only [push_cast, Nat.reduceEqDiff, Nat.reduceLT, Nat.reduceLeDiff, Nat.reduceAdd, Nat.reduceMul, Nat.reduceSub, Nat.reduceBEq, ↓reduceIte, reduceCtorEq]
  have no : ∀ {b : Bool}, b = false → T.b false = T.b b := fun h => congrArg T.b h.symm
  intro _
  refine iteI (fun h => no (grantsB_no3 h)) (fun h => ?_)
  intro _
  refine WL.loop (ι := Nat) (D := (fun i => if i = 9 then (28, []) else (0, []))) (fun i => i ≤ gs.length ∧ (∀ g ∈ gs.take i, grantB g = true) ∧ ∀ (j : Nat) (x y : Grant), j + 1 < i → gs[j]? = some x → gs[j + 1]? = some y → Op.bytesLess x.name y.name = true) (fun i => ⟨61, [(0, .t (eGrantS gs)), (9, .t (eGrantS gs)), (10, .t (.i .i64 gs.length)), (11, .t (.i .i64 i))], []⟩) (fun i => gs.length - i) mixed (by kernel_rfl) 0 ⟨by omega, by simp, fun j x y hj => absurd hj (by omega)⟩ (Keep.wk (ids := []) ?_) ?_
  · simp only [push_cast, Nat.reduceEqDiff, Nat.reduceLT, Nat.reduceLeDiff, Nat.reduceAdd, Nat.reduceMul, Nat.reduceSub, Nat.reduceBEq, ↓reduceIte, reduceCtorEq] <;> rfl
  · rintro i ⟨hi, hc, ho⟩
    simp -implicitDefEqProofs (maxSteps := 2000000) only [push_cast, Nat.reduceEqDiff, Nat.reduceLT, Nat.reduceLeDiff, Nat.reduceAdd, Nat.reduceMul, Nat.reduceSub, Nat.reduceBEq, ↓reduceIte, reduceCtorEq, eGrant]
    have := Bd.hi
    refine iteI (fun h => ?_) (fun h => ?_)
    · refine ⟨by omega, fun a ha => ?_⟩
      rw [Int.toNat_natCast] at ha
      have bad : ¬ grantB a = true → grantsB gs = false := fun h => grantsB_no1 (List.mem_of_getElem? ha) h
      obtain ⟨nm, lv⟩ := a
      have mk : nameB nm = true → ¬ lv < -1000000 → ¬ 1000000 < lv → grantB ⟨nm, lv⟩ = true := by
        intro q1 q2 q3
        unfold grantB
        rw [q1, decide_eq_true (p := -1000000 ≤ lv) (by omega), decide_eq_true (p := lv ≤ 1000000) (by omega)]; rfl
      cases nm with
      | nil =>
        simp -implicitDefEqProofs (maxSteps := 2000000) only [push_cast, Nat.reduceEqDiff, Nat.reduceLT, Nat.reduceLeDiff, Nat.reduceAdd, Nat.reduceMul, Nat.reduceSub, Nat.reduceBEq, ↓reduceIte, reduceCtorEq, eGrant]
        refine CallV.t (isWord []) (.inl rfl) ?_
        simp -implicitDefEqProofs (maxSteps := 2000000) only [push_cast, Nat.reduceEqDiff, Nat.reduceLT, Nat.reduceLeDiff, Nat.reduceAdd, Nat.reduceMul, Nat.reduceSub, Nat.reduceBEq, ↓reduceIte, reduceCtorEq]
        refine iteI (fun h1 => no (bad ?_)) (fun h1 => absurd rfl h1)
        unfold grantB nameB isW
        simp
      | cons c r =>
      simp -implicitDefEqProofs (maxSteps := 2000000) only [push_cast, Nat.reduceEqDiff, Nat.reduceLT, Nat.reduceLeDiff, Nat.reduceAdd, Nat.reduceMul, Nat.reduceSub, Nat.reduceBEq, ↓reduceIte, reduceCtorEq, eGrant]
      refine ⟨by omega, fun c' hc' => ?_⟩
      simp only [Int.toNat_zero, List.getElem?_cons_zero, Option.some.injEq] at hc'
      subst hc'
      simp -implicitDefEqProofs (maxSteps := 2000000) only [push_cast, Nat.reduceEqDiff, Nat.reduceLT, Nat.reduceLeDiff, Nat.reduceAdd, Nat.reduceMul, Nat.reduceSub, Nat.reduceBEq, ↓reduceIte, reduceCtorEq, eGrant]
      have hd : List.drop (Int.toNat 1) (List.take ((r.length : Int) + 1).toNat (c :: r)) = r := by
        rw [show ((r.length : Int) + 1).toNat = (c :: r).length by simp only [List.length_cons]; omega, List.take_length]; rfl
      refine iteI (fun k1 => ⟨by omega, ?_⟩) (fun k1 => ⟨by omega, fun c' hc' => ?_⟩)
      · rw [hd]
        have hw : isW r = nameB (c :: r) := (if_pos (.inl k1)).symm
        refine CallV.t (isWord r) (.inl rfl) ?_
        simp -implicitDefEqProofs (maxSteps := 2000000) only [push_cast, Nat.reduceEqDiff, Nat.reduceLT, Nat.reduceLeDiff, Nat.reduceAdd, Nat.reduceMul, Nat.reduceSub, Nat.reduceBEq, ↓reduceIte, reduceCtorEq, eGrant]
        rw [hw]
        refine iteI (fun h1 => no (bad ?_)) (fun h1 => ?_)
        · unfold grantB; simp only [Bool.not_eq_true'] at h1; rw [h1]; simp
        refine iteI (fun h2 => no (bad ?_)) (fun h2 => ?_)
        · unfold grantB; rw [decide_eq_false (p := -1000000 ≤ lv) (by omega)]; simp
        refine iteI (fun h3 => no (bad ?_)) (fun h3 => ?_)
        · unfold grantB; rw [decide_eq_false (p := lv ≤ 1000000) (by omega)]; simp
        have good := mk (by simpa using h1) h2 h3
        refine iteI (fun h4 => ⟨by unfold inI64; omega, by omega, fun b hb => ?_⟩) (fun h4 => ?_)
        · rw [toNat_pred] at hb
          cases hl : Op.bytesLess b.name (c :: r) with
          | false =>
            refine no (grantsB_no2 hb (by rw [show i - 1 + 1 = i by omega]; exact ha) hl)
          | true =>
            simp only [Bool.not_true, Bool.false_eq_true, if_false]
            refine ⟨by unfold inI64; omega, i + 1, ⟨by omega, take_snoc ha hc good, less_snoc ha ho fun _ x hx => by rw [hb] at hx; cases hx; exact hl⟩, by omega, Keep.wk (ids := []) ?_⟩
            simp only [push_cast, Nat.reduceEqDiff, Nat.reduceLT, Nat.reduceLeDiff, Nat.reduceAdd, Nat.reduceMul, Nat.reduceSub, Nat.reduceBEq, ↓reduceIte, reduceCtorEq] <;> rfl
        · refine ⟨by unfold inI64; omega, i + 1, ⟨by omega, take_snoc ha hc good, less_snoc ha ho fun h0 => absurd h0 (by omega)⟩, by omega, Keep.wk (ids := []) ?_⟩
          simp only [push_cast, Nat.reduceEqDiff, Nat.reduceLT, Nat.reduceLeDiff, Nat.reduceAdd, Nat.reduceMul, Nat.reduceSub, Nat.reduceBEq, ↓reduceIte, reduceCtorEq] <;> rfl

      simp only [Int.toNat_zero, List.getElem?_cons_zero, Option.some.injEq] at hc'
      subst hc'
      simp -implicitDefEqProofs (maxSteps := 2000000) only [push_cast, Nat.reduceEqDiff, Nat.reduceLT, Nat.reduceLeDiff, Nat.reduceAdd, Nat.reduceMul, Nat.reduceSub, Nat.reduceBEq, ↓reduceIte, reduceCtorEq, eGrant]
      refine iteI (fun k2 => ⟨by omega, ?_⟩) (fun k2 => ?_)
      · rw [hd]
        have hw : isW r = nameB (c :: r) := (if_pos (.inr k2)).symm
        refine CallV.t (isWord r) (.inl rfl) ?_
        simp -implicitDefEqProofs (maxSteps := 2000000) only [push_cast, Nat.reduceEqDiff, Nat.reduceLT, Nat.reduceLeDiff, Nat.reduceAdd, Nat.reduceMul, Nat.reduceSub, Nat.reduceBEq, ↓reduceIte, reduceCtorEq, eGrant]
        rw [hw]
        refine iteI (fun h1 => no (bad ?_)) (fun h1 => ?_)
        · unfold grantB; simp only [Bool.not_eq_true'] at h1; rw [h1]; simp
        refine iteI (fun h2 => no (bad ?_)) (fun h2 => ?_)
        · unfold grantB; rw [decide_eq_false (p := -1000000 ≤ lv) (by omega)]; simp
        refine iteI (fun h3 => no (bad ?_)) (fun h3 => ?_)
        · unfold grantB; rw [decide_eq_false (p := lv ≤ 1000000) (by omega)]; simp
        have good := mk (by simpa using h1) h2 h3
        refine iteI (fun h4 => ⟨by unfold inI64; omega, by omega, fun b hb => ?_⟩) (fun h4 => ?_)
        · rw [toNat_pred] at hb
          cases hl : Op.bytesLess b.name (c :: r) with
          | false =>
            refine no (grantsB_no2 hb (by rw [show i - 1 + 1 = i by omega]; exact ha) hl)
          | true =>
            simp only [Bool.not_true, Bool.false_eq_true, if_false]
            refine ⟨by unfold inI64; omega, i + 1, ⟨by omega, take_snoc ha hc good, less_snoc ha ho fun _ x hx => by rw [hb] at hx; cases hx; exact hl⟩, by omega, Keep.wk (ids := []) ?_⟩
            simp only [push_cast, Nat.reduceEqDiff, Nat.reduceLT, Nat.reduceLeDiff, Nat.reduceAdd, Nat.reduceMul, Nat.reduceSub, Nat.reduceBEq, ↓reduceIte, reduceCtorEq] <;> rfl
        · refine ⟨by unfold inI64; omega, i + 1, ⟨by omega, take_snoc ha hc good, less_snoc ha ho fun h0 => absurd h0 (by omega)⟩, by omega, Keep.wk (ids := []) ?_⟩
          simp only [push_cast, Nat.reduceEqDiff, Nat.reduceLT, Nat.reduceLeDiff, Nat.reduceAdd, Nat.reduceMul, Nat.reduceSub, Nat.reduceBEq, ↓reduceIte, reduceCtorEq] <;> rfl

      · have hw : isW (c :: r) = nameB (c :: r) := (if_neg (by omega)).symm
        refine CallV.t (isWord (c :: r)) (.inl rfl) ?_
        simp -implicitDefEqProofs (maxSteps := 2000000) only [push_cast, Nat.reduceEqDiff, Nat.reduceLT, Nat.reduceLeDiff, Nat.reduceAdd, Nat.reduceMul, Nat.reduceSub, Nat.reduceBEq, ↓reduceIte, reduceCtorEq, eGrant]
        rw [hw]
        refine iteI (fun h1 => no (bad ?_)) (fun h1 => ?_)
        · unfold grantB; simp only [Bool.not_eq_true'] at h1; rw [h1]; simp
        refine iteI (fun h2 => no (bad ?_)) (fun h2 => ?_)
        · unfold grantB; rw [decide_eq_false (p := -1000000 ≤ lv) (by omega)]; simp
        refine iteI (fun h3 => no (bad ?_)) (fun h3 => ?_)
        · unfold grantB; rw [decide_eq_false (p := lv ≤ 1000000) (by omega)]; simp
        have good := mk (by simpa using h1) h2 h3
        refine iteI (fun h4 => ⟨by unfold inI64; omega, by omega, fun b hb => ?_⟩) (fun h4 => ?_)
        · rw [toNat_pred] at hb
          cases hl : Op.bytesLess b.name (c :: r) with
          | false =>
            refine no (grantsB_no2 hb (by rw [show i - 1 + 1 = i by omega]; exact ha) hl)
          | true =>
            simp only [Bool.not_true, Bool.false_eq_true, if_false]
            refine ⟨by unfold inI64; omega, i + 1, ⟨by omega, take_snoc ha hc good, less_snoc ha ho fun _ x hx => by rw [hb] at hx; cases hx; exact hl⟩, by omega, Keep.wk (ids := []) ?_⟩
            simp only [push_cast, Nat.reduceEqDiff, Nat.reduceLT, Nat.reduceLeDiff, Nat.reduceAdd, Nat.reduceMul, Nat.reduceSub, Nat.reduceBEq, ↓reduceIte, reduceCtorEq] <;> rfl
        · refine ⟨by unfold inI64; omega, i + 1, ⟨by omega, take_snoc ha hc good, less_snoc ha ho fun h0 => absurd h0 (by omega)⟩, by omega, Keep.wk (ids := []) ?_⟩
          simp only [push_cast, Nat.reduceEqDiff, Nat.reduceLT, Nat.reduceLeDiff, Nat.reduceAdd, Nat.reduceMul, Nat.reduceSub, Nat.reduceBEq, ↓reduceIte, reduceCtorEq] <;> rfl
    · rw [List.take_of_length_le (by omega)] at hc
      rw [grantsB_yes hc fun j x y hx hy => ho j x y (by have := (List.getElem?_eq_some_iff.1 hy).1; omega) hx hy, decide_eq_true (by omega)]
def eHd (p : Bool) (v : List UInt8) (g : List Grant) (o : Bool) : List T := [.b p, .s v, eGrantS g, .b o]
theorem bare (p : Bool) (v : List UInt8) (g : List Grant) (o : Bool) : Con P0 307 [.ag (eHd p v g o)] (.t (.b (p && decide ((g.length : Int) = 0)))) [] := by
  refine Con.intro (fn := Tryz.f307) [.tmp 2] (fun _ => (0, [])) mixed (by kernel_rfl) rfl (by decide) rfl (by rfl) (by kernel_rfl) ?_
  simp -implicitDefEqProofs (maxSteps := 2000000) only [push_cast, Nat.reduceEqDiff, Nat.reduceLT, Nat.reduceLeDiff, Nat.reduceAdd, Nat.reduceMul, Nat.reduceSub, Nat.reduceBEq, ↓reduceIte, reduceCtorEq, eHd]
  cases p <;> simp -implicitDefEqProofs (maxSteps := 2000000) only [push_cast, Nat.reduceEqDiff, Nat.reduceLT, Nat.reduceLeDiff, Nat.reduceAdd, Nat.reduceMul, Nat.reduceSub, Nat.reduceBEq, ↓reduceIte, reduceCtorEq]
  all_goals first | trivial | exact fun _ => trivial
theorem createFits (p : Bool) (v : List UInt8) (g : List Grant) (o : Bool) : Con P0 308 [.ag (eHd p v g o)] (.t (.b ((p && decide ((g.length : Int) = 0)) && decide (v = []) && !o))) [] := by
  refine Con.intro (fn := Tryz.f308) [.tmp 2] (fun _ => (0, [])) mixed (by kernel_rfl) rfl (by decide) rfl (by rfl) (by kernel_rfl) ?_
  simp -implicitDefEqProofs (maxSteps := 2000000) only [push_cast, Nat.reduceEqDiff, Nat.reduceLT, Nat.reduceLeDiff, Nat.reduceAdd, Nat.reduceMul, Nat.reduceSub, Nat.reduceBEq, ↓reduceIte, reduceCtorEq, eHd]
  refine Callx.closed (bare p v g o) rfl rfl (.inl rfl) ?_
  simp -implicitDefEqProofs (maxSteps := 2000000) only [push_cast, Nat.reduceEqDiff, Nat.reduceLT, Nat.reduceLeDiff, Nat.reduceAdd, Nat.reduceMul, Nat.reduceSub, Nat.reduceBEq, ↓reduceIte, reduceCtorEq, eHd]
  cases p && decide ((g.length : Int) = 0) <;> simp -implicitDefEqProofs (maxSteps := 2000000) only [push_cast, Nat.reduceEqDiff, Nat.reduceLT, Nat.reduceLeDiff, Nat.reduceAdd, Nat.reduceMul, Nat.reduceSub, Nat.reduceBEq, ↓reduceIte, reduceCtorEq]
  repeat' first | refine iteI (fun _ => ?_) (fun _ => ?_) | intro _
  all_goals first
    | rfl
    | (refine congrArg T.b ?_; simp_all)
theorem memberFits (p : Bool) (v : List UInt8) (g : List Grant) (o st : Bool) (k : List UInt8) : Con P0 309 [.ag (eHd p v g o ++ [.b st, .s k])] (.t (.b (st && decide (¬ k = []) && decide ((g.length : Int) = 0) && decide (v ∈ [sJoin, sInvite, sLeave, sBan])))) [] := by
  refine Con.intro (fn := Tryz.f309) [.tmp 2] (fun _ => (0, [])) mixed (by kernel_rfl) rfl (by decide) rfl (by rfl) (by kernel_rfl) ?_
  simp -implicitDefEqProofs (maxSteps := 2000000) only [push_cast, Nat.reduceEqDiff, Nat.reduceLT, Nat.reduceLeDiff, Nat.reduceAdd, Nat.reduceMul, Nat.reduceSub, Nat.reduceBEq, ↓reduceIte, reduceCtorEq, eHd]
  repeat' first | refine iteI (fun _ => ?_) (fun _ => ?_) | intro _
  all_goals first
    | rfl
    | (refine congrArg T.b ?_; simp_all [sJoin, sInvite, sLeave, sBan])
theorem joinFits (p : Bool) (v : List UInt8) (g : List Grant) (o : Bool) : Con P0 310 [.ag (eHd p v g o)] (.t (.b ((p && decide ((g.length : Int) = 0)) && decide (v ∈ [sPublic, sInvite])))) [] := by
  refine Con.intro (fn := Tryz.f310) [.tmp 2] (fun _ => (0, [])) mixed (by kernel_rfl) rfl (by decide) rfl (by rfl) (by kernel_rfl) ?_
  simp -implicitDefEqProofs (maxSteps := 2000000) only [push_cast, Nat.reduceEqDiff, Nat.reduceLT, Nat.reduceLeDiff, Nat.reduceAdd, Nat.reduceMul, Nat.reduceSub, Nat.reduceBEq, ↓reduceIte, reduceCtorEq, eHd]
  refine Callx.closed (bare p v g o) rfl rfl (.inl rfl) ?_
  simp -implicitDefEqProofs (maxSteps := 2000000) only [push_cast, Nat.reduceEqDiff, Nat.reduceLT, Nat.reduceLeDiff, Nat.reduceAdd, Nat.reduceMul, Nat.reduceSub, Nat.reduceBEq, ↓reduceIte, reduceCtorEq, eHd]
  cases p && decide ((g.length : Int) = 0) <;> simp -implicitDefEqProofs (maxSteps := 2000000) only [push_cast, Nat.reduceEqDiff, Nat.reduceLT, Nat.reduceLeDiff, Nat.reduceAdd, Nat.reduceMul, Nat.reduceSub, Nat.reduceBEq, ↓reduceIte, reduceCtorEq]
  repeat' first | refine iteI (fun _ => ?_) (fun _ => ?_) | intro _
  all_goals first
    | rfl
    | (refine congrArg T.b ?_; simp_all [sPublic, sInvite])
theorem powerFits (p : Bool) (v : List UInt8) (g : List Grant) (o : Bool) : Con P0 311 [.ag (eHd p v g o)] (.t (.b (p && decide (v = []) && grantsB g))) [] := by
  refine Con.intro (fn := Tryz.f311) [.tmp 2] (fun _ => (0, [])) mixed (by kernel_rfl) rfl (by decide) rfl (by rfl) (by kernel_rfl) ?_
  simp -implicitDefEqProofs (maxSteps := 2000000) only [push_cast, Nat.reduceEqDiff, Nat.reduceLT, Nat.reduceLeDiff, Nat.reduceAdd, Nat.reduceMul, Nat.reduceSub, Nat.reduceBEq, ↓reduceIte, reduceCtorEq, eHd]
  refine iteI (fun h1 => iteI (fun h2 => ?_) (fun h2 => ?_)) (fun h1 => ?_)
  · refine Callx.closed (grantsOk g) rfl rfl (.inl rfl) ?_
    simp -implicitDefEqProofs (maxSteps := 2000000) only [push_cast, Nat.reduceEqDiff, Nat.reduceLT, Nat.reduceLeDiff, Nat.reduceAdd, Nat.reduceMul, Nat.reduceSub, Nat.reduceBEq, ↓reduceIte, reduceCtorEq]
    simp [h1, h2]
  · simp [h2]
  · simp [h1]
theorem otherFits (p : Bool) (v : List UInt8) (g : List Grant) (o : Bool) : Con P0 313 [.ag (eHd p v g o)] (.t (.b (decide ((g.length : Int) = 0) && (decide (v = []) || isW v)))) [] := by
  refine Con.intro (fn := Tryz.f313) [.tmp 2] (fun _ => (0, [])) mixed (by kernel_rfl) rfl (by decide) rfl (by rfl) (by kernel_rfl) ?_
  simp -implicitDefEqProofs (maxSteps := 2000000) only [push_cast, Nat.reduceEqDiff, Nat.reduceLT, Nat.reduceLeDiff, Nat.reduceAdd, Nat.reduceMul, Nat.reduceSub, Nat.reduceBEq, ↓reduceIte, reduceCtorEq, eHd]
  intro _
  refine iteI (fun h1 => iteI (fun h2 => ?_) (fun h2 => ?_)) (fun h1 => ?_)
  · simp [h1, h2]
  · refine Callx.closed (isWord v) rfl rfl (.inl rfl) ?_
    simp -implicitDefEqProofs (maxSteps := 2000000) only [push_cast, Nat.reduceEqDiff, Nat.reduceLT, Nat.reduceLeDiff, Nat.reduceAdd, Nat.reduceMul, Nat.reduceSub, Nat.reduceBEq, ↓reduceIte, reduceCtorEq]
    simp [h1, h2]
  · rw [decide_eq_false h1]; rfl
@[push_cast] theorem meth_c : methOf P0 232 "loop.example/s01366/impl.fits" = some 308 := by kernel_rfl
@[push_cast] theorem meth_m : methOf P0 234 "loop.example/s01366/impl.fits" = some 309 := by kernel_rfl
@[push_cast] theorem meth_j : methOf P0 235 "loop.example/s01366/impl.fits" = some 310 := by kernel_rfl
@[push_cast] theorem meth_p : methOf P0 236 "loop.example/s01366/impl.fits" = some 311 := by kernel_rfl
@[push_cast] theorem meth_o : methOf P0 237 "loop.example/s01366/impl.fits" = some 313 := by kernel_rfl
@[push_cast] theorem conc_c : P0.concrete 232 = true := by kernel_rfl
@[push_cast] theorem conc_m : P0.concrete 234 = true := by kernel_rfl
@[push_cast] theorem conc_j : P0.concrete 235 = true := by kernel_rfl
@[push_cast] theorem conc_p : P0.concrete 236 = true := by kernel_rfl
@[push_cast] theorem conc_o : P0.concrete 237 = true := by kernel_rfl
def eHdE (e : Event) : List T := eHd (e.isState && decide (e.key = [])) e.value e.grants (decide (0 < (e.prev.length : Int) + e.auth.length))
def contT (e : Event) : T :=
  if e.typ = sCreate then .ifc 232 (.ag (eHdE e)) else if e.typ = sMember then .ifc 234 (.ag (eHdE e ++ [.b e.isState, .s e.key]))
  else if e.typ = sRules then .ifc 235 (.ag (eHdE e)) else if e.typ = sPower then .ifc 236 (.ag (eHdE e)) else .ifc 237 (.ag (eHdE e))
theorem contentOf (e : Event) (hB : Bd.B ≤ 2147483648) : Con P0 131 [eEvent e] (.t (contT e)) [] := by
  refine Con.intro (fn := Tryz.f131) [.tmp 2] (fun _ => (0, [])) mixed (by kernel_rfl) rfl (by decide) rfl (by rfl) (by kernel_rfl) ?_
  simp -implicitDefEqProofs (maxSteps := 2000000) only [push_cast, Nat.reduceEqDiff, Nat.reduceLT, Nat.reduceLeDiff, Nat.reduceAdd, Nat.reduceMul, Nat.reduceSub, Nat.reduceBEq, ↓reduceIte, reduceCtorEq, eEvent]
  refine iteI (fun h => ?_) (fun h => ?_) <;>
  · intro _ _
    refine ⟨by unfold inI64; omega, ?_⟩
    unfold contT eHdE eHd
    repeat' refine iteI (fun _ => ?_) (fun _ => ?_)
    all_goals simp [*, sCreate, sMember, sRules, sPower]
theorem l1ContentOk (e : Event) : Con P0 118 [eEvent e] (.t (.b (contentB e))) [] := by
  refine Con.intro (fn := Tryz.f118) [.tmp 2] (fun _ => (0, [])) mixed (by kernel_rfl) rfl (by decide) rfl (by rfl) (by kernel_rfl) ?_
  simp -implicitDefEqProofs (maxSteps := 2000000) only [push_cast, Nat.reduceEqDiff, Nat.reduceLT, Nat.reduceLeDiff, Nat.reduceAdd, Nat.reduceMul, Nat.reduceSub, Nat.reduceBEq, ↓reduceIte, reduceCtorEq, eEvent]
  have := Bd.lo
  repeat' first | refine iteI (fun _ => ?_) (fun _ => ?_) | intro _
  all_goals first
    | (refine congrArg T.b ?_; unfold contentB; simp_all [sCreate, sMember, sRules, sPower]; done)
    | (refine ⟨rfl, by omega, Callx.closed (l1Has [sJoin, sInvite, sLeave, sBan] e.value) rfl rfl (.inr ⟨rfl, rfl⟩) ?_⟩
       simp -implicitDefEqProofs (maxSteps := 2000000) only [push_cast, Nat.reduceEqDiff, Nat.reduceLT, Nat.reduceLeDiff, Nat.reduceAdd, Nat.reduceMul, Nat.reduceSub, Nat.reduceBEq, ↓reduceIte, reduceCtorEq]
       refine congrArg T.b ?_
       unfold contentB
       simp_all [sCreate, sMember, sRules, sPower])
    | (refine ⟨rfl, by omega, Callx.closed (l1Has [sPublic, sInvite] e.value) rfl rfl (.inr ⟨rfl, rfl⟩) ?_⟩
       simp -implicitDefEqProofs (maxSteps := 2000000) only [push_cast, Nat.reduceEqDiff, Nat.reduceLT, Nat.reduceLeDiff, Nat.reduceAdd, Nat.reduceMul, Nat.reduceSub, Nat.reduceBEq, ↓reduceIte, reduceCtorEq]
       refine congrArg T.b ?_
       unfold contentB
       simp_all [sCreate, sMember, sRules, sPower])
    | (refine Callx.closed (l1GrantsOk e.grants) rfl rfl (.inl rfl) ?_
       simp -implicitDefEqProofs (maxSteps := 2000000) only [push_cast, Nat.reduceEqDiff, Nat.reduceLT, Nat.reduceLeDiff, Nat.reduceAdd, Nat.reduceMul, Nat.reduceSub, Nat.reduceBEq, ↓reduceIte, reduceCtorEq]
       refine congrArg T.b ?_
       unfold contentB
       simp_all [sCreate, sMember, sRules, sPower])
    | (refine Callx.closed (l1Word e.value) rfl rfl (.inl rfl) ?_
       simp -implicitDefEqProofs (maxSteps := 2000000) only [push_cast, Nat.reduceEqDiff, Nat.reduceLT, Nat.reduceLeDiff, Nat.reduceAdd, Nat.reduceMul, Nat.reduceSub, Nat.reduceBEq, ↓reduceIte, reduceCtorEq]
       refine congrArg T.b ?_
       unfold contentB
       simp_all [sCreate, sMember, sRules, sPower])
theorem specEventOk (e : Event) : Con P0 61 [eEvent e] (.t (.i .i64 (evOk e))) [] := by
  refine Con.intro (fn := Tryz.f61) [.tmp 2] (fun _ => (0, [])) mixed (by kernel_rfl) rfl (by decide) rfl (by rfl) (by kernel_rfl) ?_
  simp -implicitDefEqProofs (maxSteps := 2000000) only [push_cast, Nat.reduceEqDiff, Nat.reduceLT, Nat.reduceLeDiff, Nat.reduceAdd, Nat.reduceMul, Nat.reduceSub, Nat.reduceBEq, ↓reduceIte, reduceCtorEq, eEvent]
  have leaf : ∀ {n : Int}, evOk e = n → T.i .i64 n = T.i .i64 (evOk e) := fun h => congrArg (T.i .i64) h.symm
  refine Callx.closed (l1Word e.id) rfl rfl (.inl rfl) ?_
  simp -implicitDefEqProofs (maxSteps := 2000000) only [push_cast, Nat.reduceEqDiff, Nat.reduceLT, Nat.reduceLeDiff, Nat.reduceAdd, Nat.reduceMul, Nat.reduceSub, Nat.reduceBEq, ↓reduceIte, reduceCtorEq, eEvent]
  refine iteI (fun h1 => leaf (if_pos (by simp_all))) (fun h1 => ?_)
  refine Callx.closed (l1Word e.sender) rfl rfl (.inl rfl) ?_
  simp -implicitDefEqProofs (maxSteps := 2000000) only [push_cast, Nat.reduceEqDiff, Nat.reduceLT, Nat.reduceLeDiff, Nat.reduceAdd, Nat.reduceMul, Nat.reduceSub, Nat.reduceBEq, ↓reduceIte, reduceCtorEq, eEvent]
  refine iteI (fun h2 => leaf (if_pos (by simp_all))) (fun h2 => ?_)
  refine Callx.closed (l1Word e.typ) rfl rfl (.inl rfl) ?_
  simp -implicitDefEqProofs (maxSteps := 2000000) only [push_cast, Nat.reduceEqDiff, Nat.reduceLT, Nat.reduceLeDiff, Nat.reduceAdd, Nat.reduceMul, Nat.reduceSub, Nat.reduceBEq, ↓reduceIte, reduceCtorEq, eEvent]
  refine iteI (fun h3 => leaf (if_pos (by simp_all))) (fun h3 => ?_)
  have e1 : evOk e = ev2 e := if_neg (by simp_all)
  refine iteI (fun k1 => ?_) (fun k1 => ?_)
  · refine iteI (fun k2 => leaf (e1.trans (if_pos (by simp_all)))) (fun k2 => ?_)
    refine Callx.closed (l1Word e.key) rfl rfl (.inl rfl) ?_
    simp -implicitDefEqProofs (maxSteps := 2000000) only [push_cast, Nat.reduceEqDiff, Nat.reduceLT, Nat.reduceLeDiff, Nat.reduceAdd, Nat.reduceMul, Nat.reduceSub, Nat.reduceBEq, ↓reduceIte, reduceCtorEq, eEvent]
    refine iteI (fun k3 => leaf (e1.trans (if_pos (by simp_all)))) (fun k3 => ?_)
    have e2 : evOk e = ev3 e := e1.trans (if_neg (by simp_all))
    refine iteI (fun h5 => leaf (e2.trans (if_pos (.inl h5)))) (fun h5 => iteI (fun h6 => leaf (e2.trans (if_pos (.inr h6)))) (fun h6 => ?_))
    have e3 : evOk e = ev4 e := e2.trans (if_neg (by omega))
    refine Callx.closed (l1RefsOk e.prev e.id) rfl rfl (.inl rfl) ?_
    simp -implicitDefEqProofs (maxSteps := 2000000) only [push_cast, Nat.reduceEqDiff, Nat.reduceLT, Nat.reduceLeDiff, Nat.reduceAdd, Nat.reduceMul, Nat.reduceSub, Nat.reduceBEq, ↓reduceIte, reduceCtorEq, eEvent]
    refine iteI (fun h7 => leaf (e3.trans (if_pos (by simp_all)))) (fun h7 => ?_)
    refine Callx.closed (l1RefsOk e.auth e.id) rfl rfl (.inl rfl) ?_
    simp -implicitDefEqProofs (maxSteps := 2000000) only [push_cast, Nat.reduceEqDiff, Nat.reduceLT, Nat.reduceLeDiff, Nat.reduceAdd, Nat.reduceMul, Nat.reduceSub, Nat.reduceBEq, ↓reduceIte, reduceCtorEq, eEvent]
    refine iteI (fun h8 => leaf (e3.trans (if_pos (by simp_all)))) (fun h8 => ?_)
    have e4 : evOk e = ev5 e := e3.trans (if_neg (by simp_all))
    refine Callx.closed (l1ContentOk e) rfl rfl (.inl rfl) ?_
    simp -implicitDefEqProofs (maxSteps := 2000000) only [push_cast, Nat.reduceEqDiff, Nat.reduceLT, Nat.reduceLeDiff, Nat.reduceAdd, Nat.reduceMul, Nat.reduceSub, Nat.reduceBEq, ↓reduceIte, reduceCtorEq, eEvent]
    exact iteI (fun h9 => leaf (e4.trans (if_pos (by simp_all)))) (fun h9 => leaf (e4.trans (if_neg (by simp_all))))
  · have e2 : evOk e = ev3 e := e1.trans (if_neg (by simp_all))
    refine iteI (fun h5 => leaf (e2.trans (if_pos (.inl h5)))) (fun h5 => iteI (fun h6 => leaf (e2.trans (if_pos (.inr h6)))) (fun h6 => ?_))
    have e3 : evOk e = ev4 e := e2.trans (if_neg (by omega))
    refine Callx.closed (l1RefsOk e.prev e.id) rfl rfl (.inl rfl) ?_
    simp -implicitDefEqProofs (maxSteps := 2000000) only [push_cast, Nat.reduceEqDiff, Nat.reduceLT, Nat.reduceLeDiff, Nat.reduceAdd, Nat.reduceMul, Nat.reduceSub, Nat.reduceBEq, ↓reduceIte, reduceCtorEq, eEvent]
    refine iteI (fun h7 => leaf (e3.trans (if_pos (by simp_all)))) (fun h7 => ?_)
    refine Callx.closed (l1RefsOk e.auth e.id) rfl rfl (.inl rfl) ?_
    simp -implicitDefEqProofs (maxSteps := 2000000) only [push_cast, Nat.reduceEqDiff, Nat.reduceLT, Nat.reduceLeDiff, Nat.reduceAdd, Nat.reduceMul, Nat.reduceSub, Nat.reduceBEq, ↓reduceIte, reduceCtorEq, eEvent]
    refine iteI (fun h8 => leaf (e3.trans (if_pos (by simp_all)))) (fun h8 => ?_)
    have e4 : evOk e = ev5 e := e3.trans (if_neg (by simp_all))
    refine Callx.closed (l1ContentOk e) rfl rfl (.inl rfl) ?_
    simp -implicitDefEqProofs (maxSteps := 2000000) only [push_cast, Nat.reduceEqDiff, Nat.reduceLT, Nat.reduceLeDiff, Nat.reduceAdd, Nat.reduceMul, Nat.reduceSub, Nat.reduceBEq, ↓reduceIte, reduceCtorEq, eEvent]
    exact iteI (fun h9 => leaf (e4.trans (if_pos (by simp_all)))) (fun h9 => leaf (e4.trans (if_neg (by simp_all))))
theorem implEventOk (e : Event) (hB : Bd.B ≤ 2147483648) : Con P0 69 [eEvent e] (.t (.i .i64 (evOk e))) [] := by
  refine Con.intro (fn := Tryz.f69) [.tmp 2] (fun _ => (0, [])) mixed (by kernel_rfl) rfl (by decide) rfl (by rfl) (by kernel_rfl) ?_
  simp -implicitDefEqProofs (maxSteps := 2000000) only [push_cast, Nat.reduceEqDiff, Nat.reduceLT, Nat.reduceLeDiff, Nat.reduceAdd, Nat.reduceMul, Nat.reduceSub, Nat.reduceBEq, ↓reduceIte, reduceCtorEq, eEvent]
  have leaf : ∀ {n : Int}, evOk e = n → T.i .i64 n = T.i .i64 (evOk e) := fun h => congrArg (T.i .i64) h.symm
  refine Callx.closed (isWord e.id) rfl rfl (.inl rfl) ?_
  simp -implicitDefEqProofs (maxSteps := 2000000) only [push_cast, Nat.reduceEqDiff, Nat.reduceLT, Nat.reduceLeDiff, Nat.reduceAdd, Nat.reduceMul, Nat.reduceSub, Nat.reduceBEq, ↓reduceIte, reduceCtorEq, eEvent]
  refine iteI (fun h1 => leaf (if_pos (by simp_all))) (fun h1 => ?_)
  refine Callx.closed (isWord e.sender) rfl rfl (.inl rfl) ?_
  simp -implicitDefEqProofs (maxSteps := 2000000) only [push_cast, Nat.reduceEqDiff, Nat.reduceLT, Nat.reduceLeDiff, Nat.reduceAdd, Nat.reduceMul, Nat.reduceSub, Nat.reduceBEq, ↓reduceIte, reduceCtorEq, eEvent]
  refine iteI (fun h2 => leaf (if_pos (by simp_all))) (fun h2 => ?_)
  refine Callx.closed (isWord e.typ) rfl rfl (.inl rfl) ?_
  simp -implicitDefEqProofs (maxSteps := 2000000) only [push_cast, Nat.reduceEqDiff, Nat.reduceLT, Nat.reduceLeDiff, Nat.reduceAdd, Nat.reduceMul, Nat.reduceSub, Nat.reduceBEq, ↓reduceIte, reduceCtorEq, eEvent]
  refine iteI (fun h3 => leaf (if_pos (by simp_all))) (fun h3 => ?_)
  have e1 : evOk e = ev2 e := if_neg (by simp_all)
  refine iteI (fun k1 => ?_) (fun k1 => ?_)
  · refine iteI (fun k2 => leaf (e1.trans (if_pos (by simp_all)))) (fun k2 => ?_)
    refine Callx.closed (isWord e.key) rfl rfl (.inl rfl) ?_
    simp -implicitDefEqProofs (maxSteps := 2000000) only [push_cast, Nat.reduceEqDiff, Nat.reduceLT, Nat.reduceLeDiff, Nat.reduceAdd, Nat.reduceMul, Nat.reduceSub, Nat.reduceBEq, ↓reduceIte, reduceCtorEq, eEvent]
    refine iteI (fun k3 => leaf (e1.trans (if_pos (by simp_all)))) (fun k3 => ?_)
    have e2 : evOk e = ev3 e := e1.trans (if_neg (by simp_all))
    refine iteI (fun h5 => leaf (e2.trans (if_pos (.inl h5)))) (fun h5 => iteI (fun h6 => leaf (e2.trans (if_pos (.inr h6)))) (fun h6 => ?_))
    have e3 : evOk e = ev4 e := e2.trans (if_neg (by omega))
    refine Callx.closed (refsOk e.prev e.id) rfl rfl (.inl rfl) ?_
    simp -implicitDefEqProofs (maxSteps := 2000000) only [push_cast, Nat.reduceEqDiff, Nat.reduceLT, Nat.reduceLeDiff, Nat.reduceAdd, Nat.reduceMul, Nat.reduceSub, Nat.reduceBEq, ↓reduceIte, reduceCtorEq, eEvent]
    refine iteI (fun h7 => leaf (e3.trans (if_pos (by simp_all)))) (fun h7 => ?_)
    refine Callx.closed (refsOk e.auth e.id) rfl rfl (.inl rfl) ?_
    simp -implicitDefEqProofs (maxSteps := 2000000) only [push_cast, Nat.reduceEqDiff, Nat.reduceLT, Nat.reduceLeDiff, Nat.reduceAdd, Nat.reduceMul, Nat.reduceSub, Nat.reduceBEq, ↓reduceIte, reduceCtorEq, eEvent]
    refine iteI (fun h8 => leaf (e3.trans (if_pos (by simp_all)))) (fun h8 => ?_)
    have e4 : evOk e = ev5 e := e3.trans (if_neg (by simp_all))
    refine Callx.closed (contentOf e hB) rfl rfl (.inl rfl) ?_
    have fin : ∀ b : Bool, b = contentB e → if (!b) = true then T.i .i64 5 = T.i .i64 (evOk e) else T.i .i64 0 = T.i .i64 (evOk e) := fun b hb => iteI (fun h9 => leaf (e4.trans (if_pos (by simp_all)))) (fun h9 => leaf (e4.trans (if_neg (by simp_all))))
    have hpos : (!decide (0 < (e.prev.length : Int) + e.auth.length)) = (decide ((e.prev.length : Int) = 0) && decide ((e.auth.length : Int) = 0)) := by
      rw [Bool.eq_iff_iff]
      simp only [Bool.not_eq_true', decide_eq_false_iff_not, Bool.and_eq_true, decide_eq_true_eq]
      omega
    by_cases q1 : e.typ = sCreate
    · have hc : contT e = .ifc 232 (.ag (eHdE e)) := by unfold contT; rw [if_pos q1]
      simp -implicitDefEqProofs (maxSteps := 2000000) only [push_cast, Nat.reduceEqDiff, Nat.reduceLT, Nat.reduceLeDiff, Nat.reduceAdd, Nat.reduceMul, Nat.reduceSub, Nat.reduceBEq, ↓reduceIte, reduceCtorEq, hc, eHdE]
      refine CallV.t (createFits _ _ _ _) (.inl rfl) ?_
      simp -implicitDefEqProofs (maxSteps := 2000000) only [push_cast, Nat.reduceEqDiff, Nat.reduceLT, Nat.reduceLeDiff, Nat.reduceAdd, Nat.reduceMul, Nat.reduceSub, Nat.reduceBEq, ↓reduceIte, reduceCtorEq]
      refine fin _ ?_
      unfold contentB
      rw [if_pos q1]
      rw [hpos]
      cases e.isState <;> cases decide (e.key = []) <;> cases decide ((e.grants.length : Int) = 0) <;> cases decide (e.value = []) <;> cases decide ((e.prev.length : Int) = 0) <;> cases decide ((e.auth.length : Int) = 0) <;> rfl
    by_cases q2 : e.typ = sMember
    · have hc : contT e = .ifc 234 (.ag (eHdE e ++ [.b e.isState, .s e.key])) := by unfold contT; rw [if_neg q1, if_pos q2]
      simp -implicitDefEqProofs (maxSteps := 2000000) only [push_cast, Nat.reduceEqDiff, Nat.reduceLT, Nat.reduceLeDiff, Nat.reduceAdd, Nat.reduceMul, Nat.reduceSub, Nat.reduceBEq, ↓reduceIte, reduceCtorEq, hc, eHdE]
      refine CallV.t (memberFits _ _ _ _ _ _) (.inl rfl) ?_
      simp -implicitDefEqProofs (maxSteps := 2000000) only [push_cast, Nat.reduceEqDiff, Nat.reduceLT, Nat.reduceLeDiff, Nat.reduceAdd, Nat.reduceMul, Nat.reduceSub, Nat.reduceBEq, ↓reduceIte, reduceCtorEq]
      refine fin _ ?_
      unfold contentB
      rw [if_neg q1, if_pos q2]
    by_cases q3 : e.typ = sRules
    · have hc : contT e = .ifc 235 (.ag (eHdE e)) := by unfold contT; rw [if_neg q1, if_neg q2, if_pos q3]
      simp -implicitDefEqProofs (maxSteps := 2000000) only [push_cast, Nat.reduceEqDiff, Nat.reduceLT, Nat.reduceLeDiff, Nat.reduceAdd, Nat.reduceMul, Nat.reduceSub, Nat.reduceBEq, ↓reduceIte, reduceCtorEq, hc, eHdE]
      refine CallV.t (joinFits _ _ _ _) (.inl rfl) ?_
      simp -implicitDefEqProofs (maxSteps := 2000000) only [push_cast, Nat.reduceEqDiff, Nat.reduceLT, Nat.reduceLeDiff, Nat.reduceAdd, Nat.reduceMul, Nat.reduceSub, Nat.reduceBEq, ↓reduceIte, reduceCtorEq]
      refine fin _ ?_
      unfold contentB
      rw [if_neg q1, if_neg q2, if_pos q3]
    by_cases q4 : e.typ = sPower
    · have hc : contT e = .ifc 236 (.ag (eHdE e)) := by unfold contT; rw [if_neg q1, if_neg q2, if_neg q3, if_pos q4]
      simp -implicitDefEqProofs (maxSteps := 2000000) only [push_cast, Nat.reduceEqDiff, Nat.reduceLT, Nat.reduceLeDiff, Nat.reduceAdd, Nat.reduceMul, Nat.reduceSub, Nat.reduceBEq, ↓reduceIte, reduceCtorEq, hc, eHdE]
      refine CallV.t (powerFits _ _ _ _) (.inl rfl) ?_
      simp -implicitDefEqProofs (maxSteps := 2000000) only [push_cast, Nat.reduceEqDiff, Nat.reduceLT, Nat.reduceLeDiff, Nat.reduceAdd, Nat.reduceMul, Nat.reduceSub, Nat.reduceBEq, ↓reduceIte, reduceCtorEq]
      refine fin _ ?_
      unfold contentB
      rw [if_neg q1, if_neg q2, if_neg q3, if_pos q4]
    have hc : contT e = .ifc 237 (.ag (eHdE e)) := by unfold contT; rw [if_neg q1, if_neg q2, if_neg q3, if_neg q4]
    simp -implicitDefEqProofs (maxSteps := 2000000) only [push_cast, Nat.reduceEqDiff, Nat.reduceLT, Nat.reduceLeDiff, Nat.reduceAdd, Nat.reduceMul, Nat.reduceSub, Nat.reduceBEq, ↓reduceIte, reduceCtorEq, hc, eHdE]
    refine CallV.t (otherFits _ _ _ _) (.inl rfl) ?_
    simp -implicitDefEqProofs (maxSteps := 2000000) only [push_cast, Nat.reduceEqDiff, Nat.reduceLT, Nat.reduceLeDiff, Nat.reduceAdd, Nat.reduceMul, Nat.reduceSub, Nat.reduceBEq, ↓reduceIte, reduceCtorEq]
    refine fin _ ?_
    unfold contentB
    rw [if_neg q1, if_neg q2, if_neg q3, if_neg q4]
  · have e2 : evOk e = ev3 e := e1.trans (if_neg (by simp_all))
    refine iteI (fun h5 => leaf (e2.trans (if_pos (.inl h5)))) (fun h5 => iteI (fun h6 => leaf (e2.trans (if_pos (.inr h6)))) (fun h6 => ?_))
    have e3 : evOk e = ev4 e := e2.trans (if_neg (by omega))
    refine Callx.closed (refsOk e.prev e.id) rfl rfl (.inl rfl) ?_
    simp -implicitDefEqProofs (maxSteps := 2000000) only [push_cast, Nat.reduceEqDiff, Nat.reduceLT, Nat.reduceLeDiff, Nat.reduceAdd, Nat.reduceMul, Nat.reduceSub, Nat.reduceBEq, ↓reduceIte, reduceCtorEq, eEvent]
    refine iteI (fun h7 => leaf (e3.trans (if_pos (by simp_all)))) (fun h7 => ?_)
    refine Callx.closed (refsOk e.auth e.id) rfl rfl (.inl rfl) ?_
    simp -implicitDefEqProofs (maxSteps := 2000000) only [push_cast, Nat.reduceEqDiff, Nat.reduceLT, Nat.reduceLeDiff, Nat.reduceAdd, Nat.reduceMul, Nat.reduceSub, Nat.reduceBEq, ↓reduceIte, reduceCtorEq, eEvent]
    refine iteI (fun h8 => leaf (e3.trans (if_pos (by simp_all)))) (fun h8 => ?_)
    have e4 : evOk e = ev5 e := e3.trans (if_neg (by simp_all))
    refine Callx.closed (contentOf e hB) rfl rfl (.inl rfl) ?_
    have fin : ∀ b : Bool, b = contentB e → if (!b) = true then T.i .i64 5 = T.i .i64 (evOk e) else T.i .i64 0 = T.i .i64 (evOk e) := fun b hb => iteI (fun h9 => leaf (e4.trans (if_pos (by simp_all)))) (fun h9 => leaf (e4.trans (if_neg (by simp_all))))
    have hpos : (!decide (0 < (e.prev.length : Int) + e.auth.length)) = (decide ((e.prev.length : Int) = 0) && decide ((e.auth.length : Int) = 0)) := by
      rw [Bool.eq_iff_iff]
      simp only [Bool.not_eq_true', decide_eq_false_iff_not, Bool.and_eq_true, decide_eq_true_eq]
      omega
    by_cases q1 : e.typ = sCreate
    · have hc : contT e = .ifc 232 (.ag (eHdE e)) := by unfold contT; rw [if_pos q1]
      simp -implicitDefEqProofs (maxSteps := 2000000) only [push_cast, Nat.reduceEqDiff, Nat.reduceLT, Nat.reduceLeDiff, Nat.reduceAdd, Nat.reduceMul, Nat.reduceSub, Nat.reduceBEq, ↓reduceIte, reduceCtorEq, hc, eHdE]
      refine CallV.t (createFits _ _ _ _) (.inl rfl) ?_
      simp -implicitDefEqProofs (maxSteps := 2000000) only [push_cast, Nat.reduceEqDiff, Nat.reduceLT, Nat.reduceLeDiff, Nat.reduceAdd, Nat.reduceMul, Nat.reduceSub, Nat.reduceBEq, ↓reduceIte, reduceCtorEq]
      refine fin _ ?_
      unfold contentB
      rw [if_pos q1]
      rw [hpos]
      cases e.isState <;> cases decide (e.key = []) <;> cases decide ((e.grants.length : Int) = 0) <;> cases decide (e.value = []) <;> cases decide ((e.prev.length : Int) = 0) <;> cases decide ((e.auth.length : Int) = 0) <;> rfl
    by_cases q2 : e.typ = sMember
    · have hc : contT e = .ifc 234 (.ag (eHdE e ++ [.b e.isState, .s e.key])) := by unfold contT; rw [if_neg q1, if_pos q2]
      simp -implicitDefEqProofs (maxSteps := 2000000) only [push_cast, Nat.reduceEqDiff, Nat.reduceLT, Nat.reduceLeDiff, Nat.reduceAdd, Nat.reduceMul, Nat.reduceSub, Nat.reduceBEq, ↓reduceIte, reduceCtorEq, hc, eHdE]
      refine CallV.t (memberFits _ _ _ _ _ _) (.inl rfl) ?_
      simp -implicitDefEqProofs (maxSteps := 2000000) only [push_cast, Nat.reduceEqDiff, Nat.reduceLT, Nat.reduceLeDiff, Nat.reduceAdd, Nat.reduceMul, Nat.reduceSub, Nat.reduceBEq, ↓reduceIte, reduceCtorEq]
      refine fin _ ?_
      unfold contentB
      rw [if_neg q1, if_pos q2]
    by_cases q3 : e.typ = sRules
    · have hc : contT e = .ifc 235 (.ag (eHdE e)) := by unfold contT; rw [if_neg q1, if_neg q2, if_pos q3]
      simp -implicitDefEqProofs (maxSteps := 2000000) only [push_cast, Nat.reduceEqDiff, Nat.reduceLT, Nat.reduceLeDiff, Nat.reduceAdd, Nat.reduceMul, Nat.reduceSub, Nat.reduceBEq, ↓reduceIte, reduceCtorEq, hc, eHdE]
      refine CallV.t (joinFits _ _ _ _) (.inl rfl) ?_
      simp -implicitDefEqProofs (maxSteps := 2000000) only [push_cast, Nat.reduceEqDiff, Nat.reduceLT, Nat.reduceLeDiff, Nat.reduceAdd, Nat.reduceMul, Nat.reduceSub, Nat.reduceBEq, ↓reduceIte, reduceCtorEq]
      refine fin _ ?_
      unfold contentB
      rw [if_neg q1, if_neg q2, if_pos q3]
    by_cases q4 : e.typ = sPower
    · have hc : contT e = .ifc 236 (.ag (eHdE e)) := by unfold contT; rw [if_neg q1, if_neg q2, if_neg q3, if_pos q4]
      simp -implicitDefEqProofs (maxSteps := 2000000) only [push_cast, Nat.reduceEqDiff, Nat.reduceLT, Nat.reduceLeDiff, Nat.reduceAdd, Nat.reduceMul, Nat.reduceSub, Nat.reduceBEq, ↓reduceIte, reduceCtorEq, hc, eHdE]
      refine CallV.t (powerFits _ _ _ _) (.inl rfl) ?_
      simp -implicitDefEqProofs (maxSteps := 2000000) only [push_cast, Nat.reduceEqDiff, Nat.reduceLT, Nat.reduceLeDiff, Nat.reduceAdd, Nat.reduceMul, Nat.reduceSub, Nat.reduceBEq, ↓reduceIte, reduceCtorEq]
      refine fin _ ?_
      unfold contentB
      rw [if_neg q1, if_neg q2, if_neg q3, if_pos q4]
    have hc : contT e = .ifc 237 (.ag (eHdE e)) := by unfold contT; rw [if_neg q1, if_neg q2, if_neg q3, if_neg q4]
    simp -implicitDefEqProofs (maxSteps := 2000000) only [push_cast, Nat.reduceEqDiff, Nat.reduceLT, Nat.reduceLeDiff, Nat.reduceAdd, Nat.reduceMul, Nat.reduceSub, Nat.reduceBEq, ↓reduceIte, reduceCtorEq, hc, eHdE]
    refine CallV.t (otherFits _ _ _ _) (.inl rfl) ?_
    simp -implicitDefEqProofs (maxSteps := 2000000) only [push_cast, Nat.reduceEqDiff, Nat.reduceLT, Nat.reduceLeDiff, Nat.reduceAdd, Nat.reduceMul, Nat.reduceSub, Nat.reduceBEq, ↓reduceIte, reduceCtorEq]
    refine fin _ ?_
    unfold contentB
    rw [if_neg q1, if_neg q2, if_neg q3, if_neg q4]
end Go.Proofs.YtmgdkkhnjkepiaaGreat.BX
namespace Go.Proofs.YtmgdkkhnjkepiaaGreat.BX
set_option linter.unusedSectionVars false
set_option linter.unusedSimpArgs false
set_option linter.unusedVariables false
open Go Go.RowKit
set_option maxRecDepth 20000
set_option maxHeartbeats 400000
theorem snocInd {α : Type} {P : List α → Prop} (h0 : P []) (h1 : ∀ es e, P es → P (es ++ [e])) (es : List α) : P es := by
  have : ∀ r : List α, P r.reverse := by
    intro r
    induction r with
    | nil => exact h0
    | cons e r ih => rw [List.reverse_cons]; exact h1 _ _ ih
  have := this es.reverse
  rwa [List.reverse_reverse] at this
def posOf (k : List UInt8) : List Event → Option Nat
  | [] => none
  | e :: es => if e.id = k then some 0 else (posOf k es).map (· + 1)
theorem posOf_none {k : List UInt8} : ∀ {es : List Event}, posOf k es = none ↔ ∀ e ∈ es, e.id ≠ k
  | [] => by simp [posOf]
  | e :: es => by
    simp only [posOf, List.mem_cons, forall_eq_or_imp]
    split
    · rename_i h; simp [h]
    · rename_i h; simp only [Option.map_eq_none_iff, posOf_none (es := es)]; exact ⟨fun hh => ⟨h, hh⟩, fun hh => hh.2⟩
theorem posOf_some {k : List UInt8} : ∀ {es : List Event} {i : Nat}, posOf k es = some i ↔ ∃ e, es[i]? = some e ∧ e.id = k ∧ ∀ x ∈ es.take i, x.id ≠ k
  | [], i => by simp [posOf]
  | e :: es, i => by
    simp only [posOf]
    split
    · rename_i h
      cases i with
      | zero => simp [h]
      | succ i => simp [h]
    · rename_i h
      cases i with
      | zero => simp [h]
      | succ i =>
        simp only [Option.map_eq_some_iff, Nat.add_right_cancel_iff, exists_eq_right, posOf_some (es := es), List.getElem?_cons_succ, List.take_succ_cons, List.mem_cons, forall_eq_or_imp]
        exact ⟨fun ⟨x, h1, h2, h3⟩ => ⟨x, h1, h2, h, h3⟩, fun ⟨x, h1, h2, _, h3⟩ => ⟨x, h1, h2, h3⟩⟩
theorem posOf_lt {k : List UInt8} {es : List Event} {i : Nat} (h : posOf k es = some i) : i < es.length := by
  obtain ⟨e, h, _⟩ := posOf_some.1 h
  exact (List.getElem?_eq_some_iff.1 h).1
theorem posOf_snoc {k : List UInt8} {e : Event} : ∀ {es : List Event}, posOf k (es ++ [e]) = (posOf k es).or (if e.id = k then some es.length else none)
  | [] => by simp [posOf]
  | x :: es => by
    simp only [List.cons_append, posOf, posOf_snoc (es := es), List.length_cons]
    split
    · rfl
    · cases posOf k es <;> simp
def atI (es : List Event) (k : List UInt8) : Int := match posOf k es with
  | some i => i
  | none => -1
theorem atI_nn {es : List Event} {k : List UInt8} : 0 ≤ atI es k ↔ (posOf k es).isSome = true := by
  unfold atI
  cases posOf k es <;> simp
def gmStep (m : List (List UInt8 × Nat)) (n : Nat) (e : Event) : List (List UInt8 × Nat) := if e.id ∈ m.map (·.1) then m else m ++ [(e.id, n)]
def gmFrom : List Event → Nat → List (List UInt8 × Nat) → List (List UInt8 × Nat)
  | [], _, m => m
  | e :: es, n, m => gmFrom es (n + 1) (gmStep m n e)
def gm (es : List Event) : List (List UInt8 × Nat) := gmFrom es 0 []
theorem gmFrom_snoc {e : Event} : ∀ {es : List Event} {n : Nat} {m : List (List UInt8 × Nat)}, gmFrom (es ++ [e]) n m = gmStep (gmFrom es n m) (n + es.length) e
  | [], n, m => rfl
  | x :: es, n, m => by
    simp only [List.cons_append, gmFrom, gmFrom_snoc (es := es), List.length_cons]
    congr 1
    omega
theorem gm_snoc {es : List Event} {e : Event} : gm (es ++ [e]) = gmStep (gm es) es.length e := by
  unfold gm
  rw [gmFrom_snoc, Nat.zero_add]
theorem aget_snoc {κ β : Type} [DecidableEq κ] {k a : κ} {v : β} : ∀ {m : List (κ × β)}, aget k (m ++ [(a, v)]) = (aget k m).or (if a = k then some v else none)
  | [] => by simp [aget]
  | p :: m => by
    simp only [List.cons_append, aget, aget_snoc (m := m)]
    split <;> rfl
theorem gm_get {k : List UInt8} : ∀ (es : List Event), aget k (gm es) = posOf k es := by
  refine snocInd rfl fun es e ih => ?_
  · rw [gm_snoc, posOf_snoc]
    unfold gmStep
    split
    · rename_i h
      rw [ih]
      by_cases hk : e.id = k
      · subst hk
        have : aget e.id (gm es) ≠ none := fun hh => aget_none.1 hh h
        rw [ih] at this
        cases hp : posOf e.id es with
        | none => exact absurd hp this
        | some i => rfl
      · rw [if_neg hk]; cases posOf k es <;> rfl
    · rw [aget_snoc, ih]
theorem gm_nodup : ∀ (es : List Event), ((gm es).map (·.1)).Nodup := by
  refine snocInd (by simp [gm, gmFrom]) fun es e ih => ?_
  · rw [gm_snoc]
    unfold gmStep
    split
    · exact ih
    · rename_i h
      rw [List.map_append, List.nodup_append]
      exact ⟨ih, by simp, fun a ha b hb => by simp only [List.map_cons, List.map_nil, List.mem_singleton] at hb; subst hb; rintro rfl; exact h ha⟩
theorem gm_len : ∀ (es : List Event), (gm es).length ≤ es.length := by
  refine snocInd (by simp [gm, gmFrom]) fun es e ih => ?_
  · rw [gm_snoc]
    unfold gmStep
    split <;> simp <;> omega
def gmK (es : List Event) : List T := (gm es).map fun p => T.s p.1
def gmV (es : List Event) : List T := (gm es).map fun p => T.i .i64 (p.2 : Int)
def gT (es : List Event) : T := .po (.ag [eEventS es, .mp (gmK es) (gmV es)]) 0
theorem s_inj : ∀ a b : List UInt8, T.s a = T.s b → a = b := fun _ _ h => by cases h; rfl
def allIn (es : List Event) (ids : List (List UInt8)) : Bool := decide (∀ id ∈ ids, (posOf id es).isSome = true)
noncomputable def cd5 (es : List Event) : Int := if 300 ≤ (es.length : Int) then 9 else 0
noncomputable def cd4 (es : List Event) (e : Event) : Int := if ((es.length : Int) = 0 ∧ ¬ e.typ = sCreate) ∨ (¬ (es.length : Int) = 0 ∧ (e.typ = sCreate ∨ (e.prev.length : Int) = 0 ∨ (e.auth.length : Int) = 0)) then 8 else cd5 es
noncomputable def cd3 (es : List Event) (e : Event) : Int := if ¬ (allIn es e.prev = true ∧ allIn es e.auth = true) then 7 else cd4 es e
noncomputable def cd2 (es : List Event) (e : Event) : Int := if (posOf e.id es).isSome = true then 6 else cd3 es e
noncomputable def codeE (es : List Event) (e : Event) : Int := if ¬ evOk e = 0 then evOk e else cd2 es e
theorem evOk_refs {e : Event} (h : evOk e = 0) : e.prev.length ≤ 10 ∧ e.auth.length ≤ 10 := by
  unfold evOk at h
  split at h
  · cases h
  unfold ev2 at h
  split at h
  · cases h
  unfold ev3 at h
  split at h
  · cases h
  unfold ev4 at h
  split at h
  · cases h
  rename_i h1
  have h1 := Classical.not_not.1 h1
  unfold refsB at h1
  simp only [Bool.and_eq_true, decide_eq_true_eq] at h1
  omega
def Valid (es : List Event) : Prop := ∀ (i : Nat) (e : Event), es[i]? = some e → codeE (es.take i) e = 0
open Classical in
noncomputable def roomB (es : List Event) : Bool := decide (Valid es)
theorem allIn_no {es : List Event} {ids : List (List UInt8)} {id : List UInt8} (hm : id ∈ ids) (h : posOf id es = none) : allIn es ids = false := by
  unfold allIn
  rw [decide_eq_false_iff_not]
  intro hh
  have := hh id hm
  rw [h] at this
  cases this
theorem allIn_yes {es : List Event} {ids : List (List UInt8)} (h : ∀ id ∈ ids, (posOf id es).isSome = true) : allIn es ids = true := decide_eq_true h
variable [Bd]
theorem l2At (es : List Event) (k : List UInt8) : Con P0 104 [eRoom ⟨es⟩, .s k] (.t (.i .i64 (atI es k))) [] := by
  refine Con.intro (fn := Tryz.f104) [.tmp 4] (fun _ => (0, [])) mixed (by kernel_rfl) rfl (by decide) rfl (by rfl) (by kernel_rfl) ?_
  simp -implicitDefEqProofs (maxSteps := 2000000) only [push_cast, Nat.reduceEqDiff, Nat.reduceLT, Nat.reduceLeDiff, Nat.reduceAdd, Nat.reduceMul, Nat.reduceSub, Nat.reduceBEq, ↓reduceIte, reduceCtorEq, eRoom]
  refine WL.loop (ι := Nat) (D := (fun _ => (0, []))) (fun i => i ≤ es.length ∧ ∀ x ∈ es.take i, x.id ≠ k) (fun i => ⟨22, [(1, .t (.s k)), (2, .rf 0 0), (5, .t (.i .i64 i))], [.box (.t (eRoom ⟨es⟩))]⟩) (fun i => es.length - i) mixed (by kernel_rfl) 0 ⟨by omega, by simp⟩ (Keep.wk (ids := [some 0]) ?_) ?_
  · simp only [push_cast, Nat.reduceEqDiff, Nat.reduceLT, Nat.reduceLeDiff, Nat.reduceAdd, Nat.reduceMul, Nat.reduceSub, Nat.reduceBEq, ↓reduceIte, reduceCtorEq, eRoom] <;> rfl
  · rintro i ⟨hi, hc⟩
    simp -implicitDefEqProofs (maxSteps := 2000000) only [push_cast, Nat.reduceEqDiff, Nat.reduceLT, Nat.reduceLeDiff, Nat.reduceAdd, Nat.reduceMul, Nat.reduceSub, Nat.reduceBEq, ↓reduceIte, reduceCtorEq, eRoom, eEvent]
    intro _
    have := Bd.hi
    refine iteI (fun h => ⟨by omega, fun a ha => iteI (fun he => ?_) (fun he => ?_)⟩) (fun h => ?_)
    · rw [Int.toNat_natCast] at ha
      have : posOf k es = some i := posOf_some.2 ⟨a, ha, he, hc⟩
      exact congrArg (T.i .i64) (by unfold atI; rw [this])
    · rw [Int.toNat_natCast] at ha
      refine ⟨by unfold inI64; omega, i + 1, ⟨by omega, take_snoc ha hc he⟩, by omega, Keep.wk (ids := [some 0]) ?_⟩
      simp only [push_cast, Nat.reduceEqDiff, Nat.reduceLT, Nat.reduceLeDiff, Nat.reduceAdd, Nat.reduceMul, Nat.reduceSub, Nat.reduceBEq, ↓reduceIte, reduceCtorEq, eRoom] <;> rfl
    · rw [List.take_of_length_le (by omega)] at hc
      exact congrArg (T.i .i64) (by unfold atI; rw [posOf_none.2 hc])
theorem l2AllThere (es : List Event) (ids : List (List UInt8)) : Con P0 76 [eRoom ⟨es⟩, eStringS ids] (.t (.b (decide ((ids.length : Int) ≤ 300) && allIn es ids))) [] := by
  refine Con.intro (fn := Tryz.f76) [.tmp 4] (fun i => if i = 6 then (7, []) else (0, [])) mixed (by kernel_rfl) rfl (by decide) rfl (by rfl) (by kernel_rfl) ?_
  simp -implicitDefEqProofs (maxSteps := 2000000) only [push_cast, Nat.reduceEqDiff, Nat.reduceLT, Nat.reduceLeDiff, Nat.reduceAdd, Nat.reduceMul, Nat.reduceSub, Nat.reduceBEq, ↓reduceIte, reduceCtorEq, eRoom]
  intro _
  refine iteI (fun h => ?_) (fun h => ?_)
  · rw [decide_eq_false (by omega)]; rfl
  rw [decide_eq_true (p := (ids.length : Int) ≤ 300) (by omega), Bool.true_and]
  refine WL.loop (ι := Nat) (D := (fun i => if i = 6 then (7, []) else (0, []))) (fun i => i ≤ ids.length ∧ ∀ id ∈ ids.take i, (posOf id es).isSome = true) (fun i => ⟨22, [(1, .t (eStringS ids)), (2, .rf 0 0), (5, .t (.i .i64 i))], [.box (.t (eRoom ⟨es⟩))]⟩) (fun i => ids.length - i) mixed (by kernel_rfl) 0 ⟨by omega, by simp⟩ (Keep.wk (ids := [some 0]) ?_) ?_
  · simp only [push_cast, Nat.reduceEqDiff, Nat.reduceLT, Nat.reduceLeDiff, Nat.reduceAdd, Nat.reduceMul, Nat.reduceSub, Nat.reduceBEq, ↓reduceIte, reduceCtorEq, eRoom] <;> rfl
  · rintro i ⟨hi, hc⟩
    simp -implicitDefEqProofs (maxSteps := 2000000) only [push_cast, Nat.reduceEqDiff, Nat.reduceLT, Nat.reduceLeDiff, Nat.reduceAdd, Nat.reduceMul, Nat.reduceSub, Nat.reduceBEq, ↓reduceIte, reduceCtorEq, eRoom]
    intro _
    have := Bd.hi
    refine iteI (fun h => ⟨by omega, fun a ha => CallV.t (l2At es a) (.inl rfl) ?_⟩) (fun h => ?_)
    · rw [Int.toNat_natCast] at ha
      simp -implicitDefEqProofs (maxSteps := 2000000) only [push_cast, Nat.reduceEqDiff, Nat.reduceLT, Nat.reduceLeDiff, Nat.reduceAdd, Nat.reduceMul, Nat.reduceSub, Nat.reduceBEq, ↓reduceIte, reduceCtorEq]
      refine iteI (fun he => ?_) (fun he => ?_)
      · refine congrArg T.b (allIn_no (List.mem_of_getElem? ha) ?_).symm
        cases hp : posOf a es with
        | none => rfl
        | some j => exact absurd (atI_nn.2 (by rw [hp]; rfl)) (by omega)
      · refine ⟨by unfold inI64; omega, i + 1, ⟨by omega, take_snoc ha hc (atI_nn.1 (by omega))⟩, by omega, Keep.wk (ids := [some 0]) ?_⟩
        simp only [push_cast, Nat.reduceEqDiff, Nat.reduceLT, Nat.reduceLeDiff, Nat.reduceAdd, Nat.reduceMul, Nat.reduceSub, Nat.reduceBEq, ↓reduceIte, reduceCtorEq, eRoom] <;> rfl
    · rw [List.take_of_length_le (by omega)] at hc
      exact congrArg T.b (allIn_yes hc).symm
theorem l2Code (es : List Event) (e : Event) : Con P0 90 [eRoom ⟨es⟩, eEvent e] (.t (.i .i64 (codeE es e))) [] := by
  refine Con.intro (fn := Tryz.f90) [.tmp 4] (fun _ => (0, [])) mixed (by kernel_rfl) rfl (by decide) rfl (by rfl) (by kernel_rfl) ?_
  simp -implicitDefEqProofs (maxSteps := 2000000) only [push_cast, Nat.reduceEqDiff, Nat.reduceLT, Nat.reduceLeDiff, Nat.reduceAdd, Nat.reduceMul, Nat.reduceSub, Nat.reduceBEq, ↓reduceIte, reduceCtorEq, eRoom, eEvent]
  have leaf : ∀ {n : Int}, codeE es e = n → T.i .i64 n = T.i .i64 (codeE es e) := fun h => congrArg (T.i .i64) h.symm
  refine Callx.closed (specEventOk e) rfl rfl (.inl rfl) ?_
  simp -implicitDefEqProofs (maxSteps := 2000000) only [push_cast, Nat.reduceEqDiff, Nat.reduceLT, Nat.reduceLeDiff, Nat.reduceAdd, Nat.reduceMul, Nat.reduceSub, Nat.reduceBEq, ↓reduceIte, reduceCtorEq, eRoom, eEvent]
  refine iteI (fun h1 => leaf (if_pos h1)) (fun h1 => ?_)
  have h1 := Classical.not_not.1 h1
  have e1 : codeE es e = cd2 es e := if_neg (by rw [h1]; simp)
  obtain ⟨hp10, ha10⟩ := evOk_refs h1
  refine Callx.closed (l2At es e.id) rfl rfl (.inl rfl) ?_
  simp -implicitDefEqProofs (maxSteps := 2000000) only [push_cast, Nat.reduceEqDiff, Nat.reduceLT, Nat.reduceLeDiff, Nat.reduceAdd, Nat.reduceMul, Nat.reduceSub, Nat.reduceBEq, ↓reduceIte, reduceCtorEq, eRoom, eEvent]
  refine iteI (fun h2 => leaf (e1.trans (if_pos (atI_nn.1 h2)))) (fun h2 => ?_)
  have e2 : codeE es e = cd3 es e := e1.trans (if_neg (fun hh => h2 (atI_nn.2 hh)))
  refine Callx.closed (l2AllThere es e.prev) rfl rfl (.inl rfl) ?_
  rw [decide_eq_true (p := (e.prev.length : Int) ≤ 300) (by omega), Bool.true_and]
  simp -implicitDefEqProofs (maxSteps := 2000000) only [push_cast, Nat.reduceEqDiff, Nat.reduceLT, Nat.reduceLeDiff, Nat.reduceAdd, Nat.reduceMul, Nat.reduceSub, Nat.reduceBEq, ↓reduceIte, reduceCtorEq, eRoom, eEvent]
  refine iteI (fun h3 => leaf (e2.trans (if_pos (by simp_all)))) (fun h3 => ?_)
  refine Callx.closed (l2AllThere es e.auth) rfl rfl (.inl rfl) ?_
  rw [decide_eq_true (p := (e.auth.length : Int) ≤ 300) (by omega), Bool.true_and]
  simp -implicitDefEqProofs (maxSteps := 2000000) only [push_cast, Nat.reduceEqDiff, Nat.reduceLT, Nat.reduceLeDiff, Nat.reduceAdd, Nat.reduceMul, Nat.reduceSub, Nat.reduceBEq, ↓reduceIte, reduceCtorEq, eRoom, eEvent]
  refine iteI (fun h4 => leaf (e2.trans (if_pos (by simp_all)))) (fun h4 => ?_)
  have e3 : codeE es e = cd4 es e := e2.trans (if_neg (by simp_all))
  repeat' first | refine iteI (fun _ => ?_) (fun _ => ?_) | intro _
  all_goals first
    | (exfalso; omega)
    | exact leaf (e3.trans (if_pos (.inl ⟨by omega, by assumption⟩)))
    | exact leaf (e3.trans (if_pos (.inr ⟨by omega, .inl (by assumption)⟩)))
    | exact leaf (e3.trans (if_pos (.inr ⟨by omega, .inr (.inl (by assumption))⟩)))
    | exact leaf (e3.trans (if_pos (.inr ⟨by omega, .inr (.inr (by assumption))⟩)))
    | exact leaf ((e3.trans (if_neg (by rintro (⟨h, h'⟩ | ⟨h, h' | h' | h'⟩) <;> first | omega | contradiction | exact absurd h' (by assumption)))).trans (if_pos (by assumption)))
    | exact leaf ((e3.trans (if_neg (by rintro (⟨h, h'⟩ | ⟨h, h' | h' | h'⟩) <;> first | omega | contradiction | exact absurd h' (by assumption)))).trans (if_neg (by assumption)))
theorem specRoomOk (es : List Event) : Con P0 38 [eRoom ⟨es⟩] (.t (.b (roomB es))) [] := by
  refine Con.intro (fn := Tryz.f38) [.tmp 2] (fun i => if i = 4 then (12, []) else (0, [])) mixed (by kernel_rfl) rfl (by decide) rfl (by rfl) (by kernel_rfl) ?_
  simp -implicitDefEqProofs (maxSteps := 2000000) only [push_cast, Nat.reduceEqDiff, Nat.reduceLT, Nat.reduceLeDiff, Nat.reduceAdd, Nat.reduceMul, Nat.reduceSub, Nat.reduceBEq, ↓reduceIte, reduceCtorEq, eRoom]
  refine WL.loop (ι := Nat) (D := (fun i => if i = 4 then (12, []) else (0, []))) (fun i => i ≤ es.length ∧ ∀ (j : Nat) (e : Event), j < i → es[j]? = some e → codeE (es.take j) e = 0) (fun i => ⟨23, [(1, .rf 0 0), (3, .t (.i .i64 i))], [.box (.t (eRoom ⟨es⟩))]⟩) (fun i => es.length - i) mixed (by kernel_rfl) 0 ⟨by omega, fun j e hj => absurd hj (by omega)⟩ (Keep.wk (ids := [some 0]) ?_) ?_
  · simp only [push_cast, Nat.reduceEqDiff, Nat.reduceLT, Nat.reduceLeDiff, Nat.reduceAdd, Nat.reduceMul, Nat.reduceSub, Nat.reduceBEq, ↓reduceIte, reduceCtorEq, eRoom] <;> rfl
  · rintro i ⟨hi, hc⟩
    simp -implicitDefEqProofs (maxSteps := 2000000) only [push_cast, Nat.reduceEqDiff, Nat.reduceLT, Nat.reduceLeDiff, Nat.reduceAdd, Nat.reduceMul, Nat.reduceSub, Nat.reduceBEq, ↓reduceIte, reduceCtorEq, eRoom]
    intro _
    have := Bd.hi
    refine iteI (fun h => ?_) (fun h => ?_)
    · have he : (Int.toNat 0) = 0 := rfl
      rw [he, List.drop_zero, Int.toNat_natCast, ← List.map_take]
      refine ⟨by omega, by omega, fun a ha => CallV.t (l2Code (es.take i) a) (.inl rfl) ?_⟩
      simp -implicitDefEqProofs (maxSteps := 2000000) only [push_cast, Nat.reduceEqDiff, Nat.reduceLT, Nat.reduceLeDiff, Nat.reduceAdd, Nat.reduceMul, Nat.reduceSub, Nat.reduceBEq, ↓reduceIte, reduceCtorEq]
      refine iteI (fun h1 => ?_) (fun h1 => ?_)
      · exact congrArg T.b (@decide_eq_false _ (Classical.propDecidable _) fun hv : Valid es => h1 (hv i a ha)).symm
      · have h1 := Classical.not_not.1 h1
        refine ⟨by unfold inI64; omega, i + 1, ⟨by omega, fun j e hj hje => ?_⟩, by omega, Keep.wk (ids := [some 0]) ?_⟩
        · rcases Nat.lt_or_ge j i with h' | h'
          · exact hc j e h' hje
          · have : j = i := by omega
            subst this
            rw [ha] at hje; cases hje; exact h1
        · simp only [push_cast, Nat.reduceEqDiff, Nat.reduceLT, Nat.reduceLeDiff, Nat.reduceAdd, Nat.reduceMul, Nat.reduceSub, Nat.reduceBEq, ↓reduceIte, reduceCtorEq, eRoom] <;> rfl
    · refine congrArg T.b (@decide_eq_true _ (Classical.propDecidable _) fun i e he => hc i e ?_ he).symm
      have := (List.getElem?_eq_some_iff.1 he).1
      omega
theorem gLook {s : Bool × List Lay} (hs : s = (false, [.str])) {z : Value} {k : List UInt8} {ok : Bool} {kd : Kind} {K : AV → Prop} {es : List Event} (h1 : ∀ i, posOf k es = some i → K (if ok = true then .tp [kd.look (.i .i64 i), .t (.b true)] else kd.look (.i .i64 i))) (h2 : posOf k es = none → K (if ok = true then .tp [ofV z, .t (.b false)] else ofV z)) :
    lookM s z (.s k) ok kd (gmK es) (gmV es) K := by
  subst hs
  refine look_assoc (ek := T.s) (ev := fun n : Nat => T.i .i64 (n : Int)) s_inj (gm_nodup es) (fun p _ => trivial) (fun v hv => ?_) (fun hv => ?_)
  · rw [gm_get] at hv; exact h1 v hv
  · rw [gm_get] at hv; exact h2 hv
theorem graphAll (es : List Event) (ids : List (List UInt8)) : Con P0 79 [gT es, eStringS ids] (.t (.b (allIn es ids))) [] := by
  refine Con.intro (fn := Tryz.f79) [.tmp 4] (fun _ => (0, [])) mixed (by kernel_rfl) rfl (by decide) rfl (by rfl) (by kernel_rfl) ?_
  simp -implicitDefEqProofs (maxSteps := 2000000) only [push_cast, Nat.reduceEqDiff, Nat.reduceLT, Nat.reduceLeDiff, Nat.reduceAdd, Nat.reduceMul, Nat.reduceSub, Nat.reduceBEq, ↓reduceIte, reduceCtorEq, gT]
  intro _
  refine WL.loop (ι := Nat) (D := (fun _ => (0, []))) (fun i => i ≤ ids.length ∧ ∀ id ∈ ids.take i, (posOf id es).isSome = true) (fun i => ⟨27, [(0, .t (gT es)), (9, .t (eStringS ids)), (10, .t (.i .i64 ids.length)), (11, .t (.i .i64 i))], []⟩) (fun i => ids.length - i) mixed (by kernel_rfl) 0 ⟨by omega, by simp⟩ (Keep.wk (ids := []) ?_) ?_
  · simp only [push_cast, Nat.reduceEqDiff, Nat.reduceLT, Nat.reduceLeDiff, Nat.reduceAdd, Nat.reduceMul, Nat.reduceSub, Nat.reduceBEq, ↓reduceIte, reduceCtorEq, gT] <;> rfl
  · rintro i ⟨hi, hc⟩
    simp -implicitDefEqProofs (maxSteps := 2000000) only [push_cast, Nat.reduceEqDiff, Nat.reduceLT, Nat.reduceLeDiff, Nat.reduceAdd, Nat.reduceMul, Nat.reduceSub, Nat.reduceBEq, ↓reduceIte, reduceCtorEq, gT]
    have := Bd.hi
    refine iteI (fun h => ⟨by omega, fun a ha => ?_⟩) (fun h => ?_)
    · rw [Int.toNat_natCast] at ha
      refine gLook rfl (fun j hj => ?_) (fun hj => ?_)
      · simp -implicitDefEqProofs (maxSteps := 2000000) only [push_cast, Nat.reduceEqDiff, Nat.reduceLT, Nat.reduceLeDiff, Nat.reduceAdd, Nat.reduceMul, Nat.reduceSub, Nat.reduceBEq, ↓reduceIte, reduceCtorEq]
        refine ⟨by unfold inI64; omega, i + 1, ⟨by omega, take_snoc ha hc (by rw [hj]; rfl)⟩, by omega, Keep.wk (ids := []) ?_⟩
        simp only [push_cast, Nat.reduceEqDiff, Nat.reduceLT, Nat.reduceLeDiff, Nat.reduceAdd, Nat.reduceMul, Nat.reduceSub, Nat.reduceBEq, ↓reduceIte, reduceCtorEq, gT] <;> rfl
      · simp -implicitDefEqProofs (maxSteps := 2000000) only [push_cast, Nat.reduceEqDiff, Nat.reduceLT, Nat.reduceLeDiff, Nat.reduceAdd, Nat.reduceMul, Nat.reduceSub, Nat.reduceBEq, ↓reduceIte, reduceCtorEq]
        exact congrArg T.b (allIn_no (List.mem_of_getElem? ha) hj).symm
    · rw [List.take_of_length_le (by omega)] at hc
      exact congrArg T.b (allIn_yes hc).symm
theorem graphCode (es : List Event) (e : Event) (hB : Bd.B ≤ 2147483648) : Con P0 95 [gT es, eEvent e] (.t (.i .i64 (codeE es e))) [] := by
  refine Con.intro (fn := Tryz.f95) [.tmp 4] (fun i => if i = 4 then (12, []) else (0, [])) mixed (by kernel_rfl) rfl (by decide) rfl (by rfl) (by kernel_rfl) ?_
  simp -implicitDefEqProofs (maxSteps := 2000000) only [push_cast, Nat.reduceEqDiff, Nat.reduceLT, Nat.reduceLeDiff, Nat.reduceAdd, Nat.reduceMul, Nat.reduceSub, Nat.reduceBEq, ↓reduceIte, reduceCtorEq, gT, eEvent]
  have leaf : ∀ {n : Int}, codeE es e = n → T.i .i64 n = T.i .i64 (codeE es e) := fun h => congrArg (T.i .i64) h.symm
  refine Callx.closed (implEventOk e hB) rfl rfl (.inl rfl) ?_
  simp -implicitDefEqProofs (maxSteps := 2000000) only [push_cast, Nat.reduceEqDiff, Nat.reduceLT, Nat.reduceLeDiff, Nat.reduceAdd, Nat.reduceMul, Nat.reduceSub, Nat.reduceBEq, ↓reduceIte, reduceCtorEq, gT, eEvent]
  refine iteI (fun h1 => leaf (if_pos h1)) (fun h1 => ?_)
  have h1 := Classical.not_not.1 h1
  have e1 : codeE es e = cd2 es e := if_neg (by rw [h1]; simp)
  refine gLook rfl (fun j hj => ?_) (fun hj => ?_)
  · simp -implicitDefEqProofs (maxSteps := 2000000) only [push_cast, Nat.reduceEqDiff, Nat.reduceLT, Nat.reduceLeDiff, Nat.reduceAdd, Nat.reduceMul, Nat.reduceSub, Nat.reduceBEq, ↓reduceIte, reduceCtorEq]
    exact leaf (e1.trans (if_pos (by rw [hj]; rfl)))
  have e2 : codeE es e = cd3 es e := e1.trans (if_neg (by rw [hj]; simp))
  simp -implicitDefEqProofs (maxSteps := 2000000) only [push_cast, Nat.reduceEqDiff, Nat.reduceLT, Nat.reduceLeDiff, Nat.reduceAdd, Nat.reduceMul, Nat.reduceSub, Nat.reduceBEq, ↓reduceIte, reduceCtorEq, gT, eEvent]
  refine Callx.closed (graphAll es e.prev) rfl rfl (.inl rfl) ?_
  simp -implicitDefEqProofs (maxSteps := 2000000) only [push_cast, Nat.reduceEqDiff, Nat.reduceLT, Nat.reduceLeDiff, Nat.reduceAdd, Nat.reduceMul, Nat.reduceSub, Nat.reduceBEq, ↓reduceIte, reduceCtorEq, gT, eEvent]
  refine iteI (fun h3 => leaf (e2.trans (if_pos (by simp_all)))) (fun h3 => ?_)
  refine Callx.closed (graphAll es e.auth) rfl rfl (.inl rfl) ?_
  simp -implicitDefEqProofs (maxSteps := 2000000) only [push_cast, Nat.reduceEqDiff, Nat.reduceLT, Nat.reduceLeDiff, Nat.reduceAdd, Nat.reduceMul, Nat.reduceSub, Nat.reduceBEq, ↓reduceIte, reduceCtorEq, gT, eEvent]
  refine iteI (fun h4 => leaf (e2.trans (if_pos (by simp_all)))) (fun h4 => ?_)
  have e3 : codeE es e = cd4 es e := e2.trans (if_neg (by simp_all))
  intro _
  have hb : ∀ {p q : Prop} [Decidable p] [Decidable q], ¬ decide p = decide q ↔ ¬ (p ↔ q) := by
    intro p q _ _
    by_cases hp : p <;> by_cases hq : q <;> simp [hp, hq]
  have hn : ∀ {p : Prop} [Decidable p], (!decide p) = true ↔ ¬ p := by intro p _; simp
  simp only [hb, hn]
  refine iteI (fun h5 => leaf (e3.trans (if_pos ?_))) (fun h5 => ?_)
  · have h5 : ¬ ((es.length : Int) = 0 ↔ e.typ = sCreate) := h5
    by_cases q1 : (es.length : Int) = 0 <;> by_cases q2 : e.typ = sCreate <;> simp_all
  have h5 : (es.length : Int) = 0 ↔ e.typ = sCreate := Classical.not_not.1 h5
  repeat' first | refine iteI (fun _ => ?_) (fun _ => ?_) | intro _
  all_goals first
    | (exfalso; omega)
    | exact leaf (e3.trans (if_pos (.inr ⟨by omega, .inr (.inl (by assumption))⟩)))
    | exact leaf (e3.trans (if_pos (.inr ⟨by omega, .inr (.inr (by assumption))⟩)))
    | exact leaf ((e3.trans (if_neg (by rintro (⟨h, h'⟩ | ⟨h, h' | h' | h'⟩) <;> first | omega | contradiction | exact h' (h5.1 h) | exact h (h5.2 h')))).trans (if_pos (by assumption)))
    | exact leaf ((e3.trans (if_neg (by rintro (⟨h, h'⟩ | ⟨h, h' | h' | h'⟩) <;> first | omega | contradiction | exact h' (h5.1 h) | exact h (h5.2 h')))).trans (if_neg (by assumption)))
theorem newGraph : Con P0 92 [] (.rf 0 0) [.box (.ag [.ns, .mr 1]), .map 9 3 (.own .leaf) [] [] none] := by
  refine Con.intro (fn := Tryz.f92) [.tmp 0] (fun _ => (0, [])) mixed (by kernel_rfl) rfl (by decide) rfl (by rfl) (by kernel_rfl) ?_
  simp -implicitDefEqProofs (maxSteps := 2000000) only [push_cast, Nat.reduceEqDiff, Nat.reduceLT, Nat.reduceLeDiff, Nat.reduceAdd, Nat.reduceMul, Nat.reduceSub, Nat.reduceBEq, ↓reduceIte, reduceCtorEq]
  exact Close.of [some 1, some 0] rfl rfl rfl (by simp only [push_cast, Nat.reduceEqDiff, Nat.reduceLT, Nat.reduceLeDiff, Nat.reduceAdd, Nat.reduceMul, Nat.reduceSub, Nat.reduceBEq, ↓reduceIte, reduceCtorEq] <;> rfl) (by simp only [push_cast, Nat.reduceEqDiff, Nat.reduceLT, Nat.reduceLeDiff, Nat.reduceAdd, Nat.reduceMul, Nat.reduceSub, Nat.reduceBEq, ↓reduceIte, reduceCtorEq] <;> rfl)
abbrev gmO (es : List Event) : Ob := .map 9 3 (.own .leaf) (gmK es) (gmV es) none
theorem graphPut (es : List Event) (e : Event) (hB : Bd.B ≤ 2147483648) (hl : es.length + 1 < Bd.B) : ConM P0 93 [.rf 0 0, .t (eEvent e)] [.box (.ag [.sr 1, .mr 2]), .arr 42 10 .clo (es.map eEvent), gmO es] (.tp [])
    [.box (.ag [.sr 3, .mr 2]), .dead, gmO (es ++ [e]), .arr 42 10 .clo ((es ++ [e]).map eEvent)] := by
  refine ConM.intro (fn := Tryz.f93) [] (fun i => if i = 4 then (11, [(false, 0), (false, 1), (false, 2), (false, 3), (false, 4), (false, 5), (true, 6), (true, 7), (false, 8), (false, 9), (true, 10)]) else if i = 3 then (11, []) else if i = 1 then (12, []) else (0, [])) mixed (by kernel_rfl) rfl (by decide) rfl (by rfl) (by kernel_rfl) ?_
  simp -implicitDefEqProofs (maxSteps := 2000000) only [push_cast, Nat.reduceEqDiff, Nat.reduceLT, Nat.reduceLeDiff, Nat.reduceAdd, Nat.reduceMul, Nat.reduceSub, Nat.reduceBEq, ↓reduceIte, reduceCtorEq, eEvent]
  refine gLook rfl (fun j hj => ?_) (fun hj => ?_)
  · simp -implicitDefEqProofs (maxSteps := 2000000) only [push_cast, Nat.reduceEqDiff, Nat.reduceLT, Nat.reduceLeDiff, Nat.reduceAdd, Nat.reduceMul, Nat.reduceSub, Nat.reduceBEq, ↓reduceIte, reduceCtorEq, eEvent]
    have := Bd.lo
    have hg : gm (es ++ [e]) = gm es := by
      rw [gm_snoc]
      unfold gmStep
      rw [if_pos]
      exact Classical.byContradiction fun hh => by rw [← aget_none, gm_get, hj] at hh; cases hh
    refine ⟨rfl, by omega, rfl, by omega, hl, ?_⟩
    refine Close.of [some 0, some 1, some 2, some 5] rfl rfl rfl rfl ?_
    simp only [push_cast, Nat.reduceEqDiff, Nat.reduceLT, Nat.reduceLeDiff, Nat.reduceAdd, Nat.reduceMul, Nat.reduceSub, Nat.reduceBEq, ↓reduceIte, reduceCtorEq, gmO, gmK, gmV, hg, List.map_append, eEvent] <;> rfl
  · simp -implicitDefEqProofs (maxSteps := 2000000) only [push_cast, Nat.reduceEqDiff, Nat.reduceLT, Nat.reduceLeDiff, Nat.reduceAdd, Nat.reduceMul, Nat.reduceSub, Nat.reduceBEq, ↓reduceIte, reduceCtorEq, eEvent]
    intro _
    have := Bd.lo
    obtain ⟨hu1, hu2⟩ := upd_assoc (ek := T.s) (ev := fun n : Nat => T.i .i64 (n : Int)) s_inj (k := e.id) (v := es.length) (l := gm es)
    have hk : e.id ∉ (gm es).map (·.1) := by rw [← aget_none, gm_get]; exact hj
    have hg : gm (es ++ [e]) = aset e.id es.length (gm es) := by
      rw [gm_snoc, aset_new hk]
      unfold gmStep
      rw [if_neg hk]
    have hlen := gm_len es
    have hu1 : updK (gmK es) (T.s e.id) = gmK (es ++ [e]) := by unfold gmK; rw [hu1, hg]
    have hu2 : updV (gmK es) (gmV es) (T.s e.id) (T.i .i64 (es.length : Int)) = gmV (es ++ [e]) := by unfold gmK gmV; rw [hu2, hg]
    rw [hu1, hu2]
    refine ⟨fun y hy => ?_, fun _ => ?_, rfl, by omega, rfl, by omega, hl, ?_⟩
    · unfold gmK at hy
      obtain ⟨p, _, rfl⟩ := List.mem_map.1 hy
      trivial
    · unfold gmK; rw [List.length_map]; omega
    refine Close.of [some 0, some 1, some 2, some 5] rfl rfl rfl rfl ?_
    simp only [push_cast, Nat.reduceEqDiff, Nat.reduceLT, Nat.reduceLeDiff, Nat.reduceAdd, Nat.reduceMul, Nat.reduceSub, Nat.reduceBEq, ↓reduceIte, reduceCtorEq, gmO, List.map_append, eEvent] <;> rfl
theorem valid_snoc {es : List Event} {i : Nat} {e : Event} (he : es[i]? = some e) (h : Valid es) : codeE (es.take i) e = 0 := h i e he
theorem graphOf (es : List Event) (hB : Bd.B ≤ 2147483648) : Con P0 67 [eRoom ⟨es⟩] (.t (if roomB es = true then gT es else .np)) [] := by
  refine Con.intro (fn := Tryz.f67) [.tmp 2] (fun _ => (0, [])) mixed (by kernel_rfl) rfl (by decide) rfl (by rfl) (by kernel_rfl) ?_
  simp -implicitDefEqProofs (maxSteps := 2000000) only [push_cast, Nat.reduceEqDiff, Nat.reduceLT, Nat.reduceLeDiff, Nat.reduceAdd, Nat.reduceMul, Nat.reduceSub, Nat.reduceBEq, ↓reduceIte, reduceCtorEq, eRoom]
  refine Callx.closed newGraph rfl rfl (.inl rfl) ?_
  simp -implicitDefEqProofs (maxSteps := 2000000) only [push_cast, Nat.reduceEqDiff, Nat.reduceLT, Nat.reduceLeDiff, Nat.reduceAdd, Nat.reduceMul, Nat.reduceSub, Nat.reduceBEq, ↓reduceIte, reduceCtorEq, eRoom]
  intro hlen
  refine WL.loop (ι := Nat) (D := (fun _ => (0, []))) (fun i => i ≤ es.length ∧ ∀ (j : Nat) (e : Event), j < i → es[j]? = some e → codeE (es.take j) e = 0) (fun i => ⟨23, [(3, .rf 0 0), (8, .t (eEventS es)), (9, .t (.i .i64 es.length)), (10, .t (.i .i64 i))], [.box (.ag [.sr 1, .mr 2]), .arr 42 10 .clo ((es.take i).map eEvent), gmO (es.take i)]⟩) (fun i => es.length - i) mixed (by kernel_rfl) 0 ⟨by omega, fun j e hj => absurd hj (by omega)⟩ (Keep.wk (ids := [some 1, none, some 2]) ?_) ?_
  · simp only [push_cast, Nat.reduceEqDiff, Nat.reduceLT, Nat.reduceLeDiff, Nat.reduceAdd, Nat.reduceMul, Nat.reduceSub, Nat.reduceBEq, ↓reduceIte, reduceCtorEq, gmK, gmV, List.take_zero, List.map_nil, gm, gmFrom, gmO] <;> rfl
  · rintro i ⟨hi, hc⟩
    simp -implicitDefEqProofs (maxSteps := 2000000) only [push_cast, Nat.reduceEqDiff, Nat.reduceLT, Nat.reduceLeDiff, Nat.reduceAdd, Nat.reduceMul, Nat.reduceSub, Nat.reduceBEq, ↓reduceIte, reduceCtorEq, eEvent_len, eEvent_isAg, eEvent_ones, eEvent_one]
    have := Bd.hi
    refine iteI (fun h => ?_) (fun h => ?_)
    · refine ⟨by omega, fun a ha => ⟨rfl, ?_⟩⟩
      rw [Int.toNat_natCast] at ha
      refine Callx.closed (graphCode (es.take i) a hB) rfl rfl (.inr ⟨rfl, rfl⟩) ?_
      simp -implicitDefEqProofs (maxSteps := 2000000) only [push_cast, Nat.reduceEqDiff, Nat.reduceLT, Nat.reduceLeDiff, Nat.reduceAdd, Nat.reduceMul, Nat.reduceSub, Nat.reduceBEq, ↓reduceIte, reduceCtorEq, eEvent_len, eEvent_isAg, eEvent_ones, eEvent_one]
      refine iteI (fun h1 => ?_) (fun h1 => ?_)
      · have : roomB es = false := @decide_eq_false _ (Classical.propDecidable _) fun hv => h1 (valid_snoc ha hv)
        rw [this]; rfl
      · have h1 := Classical.not_not.1 h1
        have hl : (es.take i).length = i := by rw [List.length_take]; omega
        have hts : es.take (i + 1) = es.take i ++ [a] := by rw [List.take_add_one, ha]; rfl
        refine Callx.hand [0, 1, 2] (graphPut (es.take i) a hB (by omega)) (by decide) (by simp only [push_cast, Nat.reduceEqDiff, Nat.reduceLT, Nat.reduceLeDiff, Nat.reduceAdd, Nat.reduceMul, Nat.reduceSub, Nat.reduceBEq, ↓reduceIte, reduceCtorEq]) rfl rfl (by simp only [push_cast, Nat.reduceEqDiff, Nat.reduceLT, Nat.reduceLeDiff, Nat.reduceAdd, Nat.reduceMul, Nat.reduceSub, Nat.reduceBEq, ↓reduceIte, reduceCtorEq] <;> rfl) rfl (.inr ⟨rfl, by simp only [push_cast, Nat.reduceEqDiff, Nat.reduceLT, Nat.reduceLeDiff, Nat.reduceAdd, Nat.reduceMul, Nat.reduceSub, Nat.reduceBEq, ↓reduceIte, reduceCtorEq] <;> rfl⟩) ?_
        simp -implicitDefEqProofs (maxSteps := 2000000) only [push_cast, Nat.reduceEqDiff, Nat.reduceLT, Nat.reduceLeDiff, Nat.reduceAdd, Nat.reduceMul, Nat.reduceSub, Nat.reduceBEq, ↓reduceIte, reduceCtorEq]
        refine ⟨by unfold inI64; omega, i + 1, ⟨by omega, fun j e hj hje => ?_⟩, by omega, Keep.wk (ids := [some 0, some 4, some 2]) ?_⟩
        · rcases Nat.lt_or_ge j i with h' | h'
          · exact hc j e h' hje
          · have : j = i := by omega
            subst this
            rw [ha] at hje; cases hje; exact h1
        · simp only [push_cast, Nat.reduceEqDiff, Nat.reduceLT, Nat.reduceLeDiff, Nat.reduceAdd, Nat.reduceMul, Nat.reduceSub, Nat.reduceBEq, ↓reduceIte, reduceCtorEq, hts] <;> rfl
    · rw [List.take_of_length_le (by omega)] at *
      have : roomB es = true := @decide_eq_true _ (Classical.propDecidable _) fun i e he => hc i e (by have := (List.getElem?_eq_some_iff.1 he).1; omega) he
      rw [this]; rfl
end Go.Proofs.YtmgdkkhnjkepiaaGreat.BX
namespace Go.Proofs.YtmgdkkhnjkepiaaGreat.BX
set_option linter.unusedSectionVars false
set_option linter.unusedSimpArgs false
set_option linter.unusedVariables false
open Go Go.RowKit Go.Shelf Go.Sort
set_option maxRecDepth 20000
set_option maxHeartbeats 400000
section
variable [Bd]
theorem foot_texts {w : World} : ∀ {l : List (List UInt8)} {vs : List Value} {L : List Nat}, footTs w (l.map T.s) vs L → vs = l.map encStr ∧ ∀ x ∈ l, x.length < Bd.B
  | [], vs, L, h => by simp only [List.map_nil, footTs] at h; exact ⟨h.1, by simp⟩
  | e :: l, vs, L, h => by
    simp only [List.map_cons, footTs, footT] at h
    obtain ⟨v, vs', L1, L2, rfl, _, ⟨rfl, _, h1⟩, h2⟩ := h
    obtain ⟨rfl, h3⟩ := foot_texts h2
    exact ⟨rfl, by simpa using ⟨h1, h3⟩⟩
theorem texts_foot {w : World} : ∀ {l : List (List UInt8)}, (∀ x ∈ l, x.length < Bd.B) → footTs w (l.map T.s) (l.map encStr) []
  | [], _ => by simp [footTs]
  | x :: l, h => by
    simp only [List.map_cons, footTs, footT]
    exact ⟨_, _, [], [], rfl, rfl, ⟨rfl, rfl, h x (by simp)⟩, texts_foot fun y hy => h y (by simp [hy])⟩
theorem cellsL_texts {l : List (List UInt8)} : cellsL (l.map encStr) = l.map encStr := by
  induction l with
  | nil => rfl
  | cons x l ih => simp only [cellsL, List.map_cons, List.flatMap_cons] at ih ⊢; rw [ih]; rfl
end
end Go.Proofs.YtmgdkkhnjkepiaaGreat.BX
namespace Go.Proofs.YtmgdkkhnjkepiaaGreat.BX
set_option linter.unusedSectionVars false
set_option linter.unusedSimpArgs false
set_option linter.unusedVariables false
open Go Go.RowKit
set_option maxRecDepth 20000
set_option maxHeartbeats 400000
theorem setMapS {xs : List (List UInt8)} {i : Nat} {v : List UInt8} : (List.map T.s xs).set i (T.s v) = List.map T.s (xs.set i v) := List.map_set.symm
theorem mid_at {out : List (List UInt8)} {a : List UInt8} {j : Nat} (hj : j ≤ out.length) : (out.take j ++ a :: out.drop j)[j]? = some a := by
  rw [List.getElem?_append_right (by rw [List.length_take]; omega), List.length_take, show j - min j out.length = 0 by omega]; rfl
theorem mid_before {out : List (List UInt8)} {a : List UInt8} {j : Nat} (hj : j ≤ out.length) (h0 : 0 < j) : (out.take j ++ a :: out.drop j)[j - 1]? = out[j - 1]? := by
  rw [List.getElem?_append_left (by rw [List.length_take]; omega), List.getElem?_take_of_lt (by omega)]
theorem mid_swap {out : List (List UInt8)} {a b : List UInt8} {j : Nat} (hj : j ≤ out.length) (h0 : 0 < j) (hb : out[j - 1]? = some b) : ((out.take j ++ a :: out.drop j).set j b).set (j - 1) a = out.take (j - 1) ++ a :: out.drop (j - 1) := by
  obtain ⟨k, rfl⟩ : ∃ k, j = k + 1 := ⟨j - 1, by omega⟩
  simp only [Nat.add_sub_cancel] at *
  obtain ⟨hk, hb⟩ := List.getElem?_eq_some_iff.1 hb
  rw [List.set_append_right _ _ (by rw [List.length_take]; omega), List.length_take, show k + 1 - min (k + 1) out.length = 0 by omega, List.set_cons_zero]
  rw [List.take_succ_eq_append_getElem hk, hb, List.append_assoc, List.set_append_right _ _ (by rw [List.length_take]; omega), List.length_take, show k - min k out.length = 0 by omega]
  rw [List.drop_eq_getElem_cons hk, hb]
  rfl
variable [Bd]
end Go.Proofs.YtmgdkkhnjkepiaaGreat.BX
namespace Go.Proofs.YtmgdkkhnjkepiaaGreat.BX
set_option linter.unusedSectionVars false
set_option linter.unusedSimpArgs false
set_option linter.unusedVariables false
open Go Go.RowKit
set_option maxRecDepth 20000
set_option maxHeartbeats 400000
structure Good (es : List Event) (e : Event) : Prop where
  ok : evOk e = 0
  new : posOf e.id es = none
  prev : ∀ id ∈ e.prev, (posOf id es).isSome = true
  auth : ∀ id ∈ e.auth, (posOf id es).isSome = true
  first : es.length = 0 ↔ e.typ = sCreate
  hasPrev : es.length ≠ 0 → e.prev.length ≠ 0
  hasAuth : es.length ≠ 0 → e.auth.length ≠ 0
  room : es.length < 300
theorem good_of {es : List Event} {e : Event} (h : codeE es e = 0) : Good es e := by
  unfold codeE at h
  split at h
  · rename_i h1; exact absurd h h1
  rename_i h1
  have h1 := Classical.not_not.1 h1
  unfold cd2 at h
  split at h
  · cases h
  rename_i h2
  unfold cd3 at h
  split at h
  · cases h
  rename_i h3
  have h3 := Classical.not_not.1 h3
  unfold cd4 at h
  split at h
  · cases h
  rename_i h4
  unfold cd5 at h
  split at h
  · cases h
  rename_i h5
  have ha : ∀ {ids : List (List UInt8)}, allIn es ids = true → ∀ id ∈ ids, (posOf id es).isSome = true := fun h => by
    unfold allIn at h; exact of_decide_eq_true h
  simp only [not_or, not_and, Classical.not_not] at h4
  refine ⟨h1, by simpa using h2, ha h3.1, ha h3.2, ⟨fun hh => h4.1 (by omega), fun hh => Classical.byContradiction fun hn => ?_⟩, fun hn hh => ?_, fun hn hh => ?_, by omega⟩
  · exact (h4.2 (by omega)).1 hh
  · exact (h4.2 (by omega)).2.1 (by omega)
  · exact (h4.2 (by omega)).2.2 (by omega)
theorem Valid.good {es : List Event} (h : Valid es) {i : Nat} {e : Event} (he : es[i]? = some e) : Good (es.take i) e := good_of (h i e he)
theorem posOf_take {k : List UInt8} {es : List Event} {n i : Nat} (h : posOf k (es.take n) = some i) : posOf k es = some i := by
  obtain ⟨e, h1, h2, h3⟩ := posOf_some.1 h
  have hi := posOf_lt h
  rw [List.length_take] at hi
  refine posOf_some.2 ⟨e, ?_, h2, ?_⟩
  · rwa [List.getElem?_take_of_lt (by omega)] at h1
  · rwa [List.take_take, Nat.min_eq_left (by omega)] at h3
theorem pos_ref {es : List Event} {n : Nat} {id : List UInt8} (h : (posOf id (es.take n)).isSome = true) : ∃ k a, k < n ∧ es[k]? = some a ∧ a.id = id ∧ posOf id es = some k := by
  obtain ⟨k, hk⟩ := Option.isSome_iff_exists.1 h
  have hp := posOf_take hk
  have hl := posOf_lt hk
  rw [List.length_take] at hl
  obtain ⟨a, h1, h2, _⟩ := posOf_some.1 hp
  exact ⟨k, a, by omega, h1, h2, hp⟩
theorem Valid.pos {es : List Event} (h : Valid es) {i : Nat} {e : Event} (he : es[i]? = some e) : posOf e.id es = some i := by
  obtain ⟨hi, rfl⟩ := List.getElem?_eq_some_iff.1 he
  refine posOf_some.2 ⟨es[i], he, rfl, fun x hx => ?_⟩
  exact (posOf_none.1 (h.good he).new) x hx
theorem Valid.len {es : List Event} (h : Valid es) : es.length ≤ 300 := by
  rcases Nat.eq_zero_or_pos es.length with h0 | h0
  · omega
  have := (h.good (List.getElem?_eq_getElem (i := es.length - 1) (by omega))).room
  rw [List.length_take] at this
  omega
theorem room_valid {es : List Event} (h : roomB es = true) : Valid es := @of_decide_eq_true _ (Classical.propDecidable _) h
end Go.Proofs.YtmgdkkhnjkepiaaGreat.BX
namespace Go.Proofs.YtmgdkkhnjkepiaaGreat.BX
set_option linter.unusedSectionVars false
set_option linter.unusedSimpArgs false
set_option linter.unusedVariables false
open Go Go.RowKit
set_option maxRecDepth 20000
set_option maxHeartbeats 400000
def There (es : List Event) (x : List UInt8) : Prop := (posOf x es).isSome = true
theorem there_at {es : List Event} {x : List UInt8} (h : There es x) : ∃ k a, es[k]? = some a ∧ a.id = x ∧ posOf x es = some k := by
  obtain ⟨k, hk⟩ := Option.isSome_iff_exists.1 h
  obtain ⟨a, h1, h2, _⟩ := posOf_some.1 hk
  exact ⟨k, a, h1, h2, hk⟩
theorem len_sub {α : Type} [DecidableEq α] : ∀ {l m : List α}, l.Nodup → (∀ x ∈ l, x ∈ m) → l.length ≤ m.length
  | [], _, _, _ => by simp
  | x :: l, m, hn, hs => by
    rw [List.nodup_cons] at hn
    have hx : x ∈ m := hs x (by simp)
    have h := len_sub (l := l) (m := m.erase x) hn.2 fun y hy => (List.mem_erase_of_ne (by rintro rfl; exact hn.1 hy)).2 (hs y (by simp [hy]))
    rw [List.length_erase_of_mem hx] at h
    have := List.length_pos_of_mem hx
    simp only [List.length_cons]
    omega
end Go.Proofs.YtmgdkkhnjkepiaaGreat.BX
