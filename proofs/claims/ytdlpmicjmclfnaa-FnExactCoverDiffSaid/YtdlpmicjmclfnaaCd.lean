/-
  'CoverDiff', the document's and the program's.
-/
import Derived.Test.YtdlpmicjmclfnaaRe
import Derived.Test.YtdlpmicjmclfnaaMa
namespace Go.Proofs.Ytdlpmicjmclfnaa.BX
set_option linter.unusedSectionVars false
set_option linter.unusedSimpArgs false
set_option linter.unusedVariables false
open Go Go.RowKit
set_option maxRecDepth 20000
set_option maxHeartbeats 400000

/-! ### the plain law -/
def fromSet (c : Cover) (set : List Int) (p : Int) : Bool := set.any fun a => reaches c a p
def hits (c : Cover) (sets : List (List Int)) (p : Int) : Nat := (sets.filter fun s => fromSet c s p).length
def diffs (c : Cover) (sets : List (List Int)) (n : Nat) : List Int := ((List.range n).filter fun p : Nat => decide (0 < hits c sets p ∧ hits c sets p < sets.length)).map Int.ofNat
theorem hits_take {c : Cover} {sets : List (List Int)} {p : Int} {i : Nat} {s : List Int} (h : sets[i]? = some s) : hits c (sets.take (i + 1)) p = hits c (sets.take i) p + (if fromSet c s p = true then 1 else 0) := by
  unfold hits
  rw [List.take_add_one, h, List.filter_append, List.length_append]
  congr 1
  simp only [Option.toList_some, List.filter_cons, List.filter_nil]
  split <;> rfl
theorem hits_le {c : Cover} {sets : List (List Int)} {p : Int} : hits c sets p ≤ sets.length := List.length_filter_le _ _
theorem diffs_succ {c : Cover} {sets : List (List Int)} {n : Nat} : diffs c sets (n + 1) = diffs c sets n ++ (if 0 < hits c sets n ∧ hits c sets n < sets.length then [(n : Int)] else []) := by
  unfold diffs
  rw [List.range_succ, List.filter_append, List.map_append]
  congr 1
  simp only [List.filter_cons, List.filter_nil, decide_eq_true_eq]
  split <;> rfl
theorem diffs_le {c : Cover} {sets : List (List Int)} {n : Nat} : (diffs c sets n).length ≤ n := by
  unfold diffs
  rw [List.length_map]
  exact Nat.le_trans (List.length_filter_le _ _) (by simp)
theorem diffs_zero {c : Cover} {sets : List (List Int)} : diffs c sets 0 = [] := rfl

variable [Bd]

theorem l3FromSet (c : Cover) (set : List Int) (p : Int) : Con P0 49 [eCover c, eIntS set, .i .i64 p] (.t (.b (fromSet c set p))) [] := by
  refine Con.intro (fn := Try.f49) [.tmp 6] (fun i => if i = 4 then 7 else 0) mixed (by kernel_rfl) rfl (by decide) rfl (by rfl) (by kernel_rfl) ?_
  simp -implicitDefEqProofs (maxSteps := 2000000) only [push_cast, Nat.reduceEqDiff, Nat.reduceLT, Nat.reduceLeDiff, Nat.reduceAdd, Nat.reduceMul, Nat.reduceSub, Nat.reduceBEq, ↓reduceIte, reduceCtorEq, eCover_len, eCover_isAg, eCover_ones, eCover_one]
  refine WL.loop (ι := Nat) (D := (fun i => if i = 4 then 7 else 0)) (fun i => i ≤ set.length ∧ ∀ x ∈ set.take i, reaches c x p = false) (fun i => ⟨21, [(1, .t (eIntS set)), (2, .t (.i .i64 p)), (3, .rf 0 0), (7, .t (.i .i64 i))], [.box (.t (eCover c))]⟩) (fun i => set.length - i) mixed (by kernel_rfl) 0 ⟨by omega, by simp⟩ (Keep.wk (ids := [some 0]) ?_) ?_
  · simp only [push_cast, Nat.reduceEqDiff, Nat.reduceLT, Nat.reduceLeDiff, Nat.reduceAdd, Nat.reduceMul, Nat.reduceSub, Nat.reduceBEq, ↓reduceIte, reduceCtorEq] <;> rfl
  · rintro i ⟨hi, hc⟩
    simp -implicitDefEqProofs (maxSteps := 2000000) only [push_cast, Nat.reduceEqDiff, Nat.reduceLT, Nat.reduceLeDiff, Nat.reduceAdd, Nat.reduceMul, Nat.reduceSub, Nat.reduceBEq, ↓reduceIte, reduceCtorEq, eCover_len, eCover_isAg, eCover_ones, eCover_one]
    intro _
    have := Bd.hi
    split
    · rename_i h
      refine ⟨by omega, fun a ha => CallV.t (specReaches c a p) (.inl rfl) ?_⟩
      rw [Int.toNat_natCast] at ha
      simp -implicitDefEqProofs (maxSteps := 2000000) only [push_cast, Nat.reduceEqDiff, Nat.reduceLT, Nat.reduceLeDiff, Nat.reduceAdd, Nat.reduceMul, Nat.reduceSub, Nat.reduceBEq, ↓reduceIte, reduceCtorEq]
      split
      · rename_i hr
        refine congrArg T.b (Eq.symm ?_)
        exact List.any_eq_true.2 ⟨a, List.mem_of_getElem? ha, hr⟩
      · rename_i hr
        refine ⟨by unfold inI64; omega, i + 1, ⟨by omega, fun x hx => ?_⟩, by omega, Keep.wk (ids := [some 0]) ?_⟩
        · rw [List.take_add_one, ha] at hx
          rcases List.mem_append.1 hx with hx | hx
          · exact hc x hx
          · simp at hx; subst hx; simpa using hr
        · simp only [push_cast, Nat.reduceEqDiff, Nat.reduceLT, Nat.reduceLeDiff, Nat.reduceAdd, Nat.reduceMul, Nat.reduceSub, Nat.reduceBEq, ↓reduceIte, reduceCtorEq] <;> rfl
    · have hi : i = set.length := by omega
      subst hi
      rw [List.take_length] at hc
      refine congrArg T.b (Eq.symm ?_)
      unfold fromSet
      rw [List.any_eq_false]
      intro x hx
      rw [hc x hx]; simp

theorem specCoverDiff (c : Cover) (sets : List (List Int)) (hB : Bd.B ≤ 2147483648) : Con P0 22 [eCover c, eIntSS sets] (.sr 0) [.arr 3 1 (.own .leaf) ((diffs c sets c.spots.length).map (T.i .i64))] := by
  refine Con.intro (fn := Try.f22) [.tmp 4] (fun i => if i = 9 then 7 else 0) mixed (by kernel_rfl) rfl (by decide) rfl (by rfl) (by kernel_rfl) ?_
  simp -implicitDefEqProofs (maxSteps := 2000000) only [push_cast, Nat.reduceEqDiff, Nat.reduceLT, Nat.reduceLeDiff, Nat.reduceAdd, Nat.reduceMul, Nat.reduceSub, Nat.reduceBEq, ↓reduceIte, reduceCtorEq, eCover_len, eCover_isAg, eCover_ones, eCover_one]
  refine ⟨rfl, by have := Bd.lo; omega, ?_⟩
  refine WL.loop (ι := Nat) (D := (fun i => if i = 9 then 7 else 0)) (fun p => p ≤ c.spots.length) (fun p => ⟨45, [(1, .t (eIntSS sets)), (2, .rf 0 0), (5, .sr 1), (6, .t (.i .i64 p))], [.box (.t (eCover c)), .arr 3 1 (.own .leaf) ((diffs c sets p).map (T.i .i64))]⟩) (fun p => c.spots.length - p) mixed (by kernel_rfl) 0 (by omega) (Keep.wk (ids := [some 0, some 1]) ?_) ?_
  · simp only [push_cast, Nat.reduceEqDiff, Nat.reduceLT, Nat.reduceLeDiff, Nat.reduceAdd, Nat.reduceMul, Nat.reduceSub, Nat.reduceBEq, ↓reduceIte, reduceCtorEq, diffs_zero] <;> trivial
  · intro p hp
    simp -implicitDefEqProofs (maxSteps := 2000000) only [push_cast, Nat.reduceEqDiff, Nat.reduceLT, Nat.reduceLeDiff, Nat.reduceAdd, Nat.reduceMul, Nat.reduceSub, Nat.reduceBEq, ↓reduceIte, reduceCtorEq, eCover]
    intro hlp
    split
    case isFalse =>
      have hp : p = c.spots.length := by omega
      subst hp
      exact Close.of [some 1] rfl rfl rfl rfl (by simp only [push_cast, Nat.reduceEqDiff, Nat.reduceLT, Nat.reduceLeDiff, Nat.reduceAdd, Nat.reduceMul, Nat.reduceSub, Nat.reduceBEq, ↓reduceIte, reduceCtorEq] <;> rfl)
    rename_i hlt
    refine WL.loop (ι := Nat) (D := (fun i => if i = 9 then 7 else 0)) (fun i => i ≤ sets.length) (fun i => ⟨45, [(1, .t (eIntSS sets)), (2, .rf 0 0), (5, .sr 1), (6, .t (.i .i64 p)), (7, .t (.i .i64 (hits c (sets.take i) p))), (8, .t (.i .i64 i))], [.box (.t (eCover c)), .arr 3 1 (.own .leaf) ((diffs c sets p).map (T.i .i64))]⟩) (fun i => sets.length - i) mixed (by kernel_rfl) 0 (by omega) (Keep.wk (ids := [some 0, some 1]) ?_) ?_
    · simp only [push_cast, Nat.reduceEqDiff, Nat.reduceLT, Nat.reduceLeDiff, Nat.reduceAdd, Nat.reduceMul, Nat.reduceSub, Nat.reduceBEq, ↓reduceIte, reduceCtorEq, hits, List.filter_nil] <;> trivial
    · intro i hi
      simp -implicitDefEqProofs (maxSteps := 2000000) only [push_cast, Nat.reduceEqDiff, Nat.reduceLT, Nat.reduceLeDiff, Nat.reduceAdd, Nat.reduceMul, Nat.reduceSub, Nat.reduceBEq, ↓reduceIte, reduceCtorEq, eCover_len, eCover_isAg, eCover_ones, eCover_one]
      intro hls
      have hh := hits_le (c := c) (sets := sets.take i) (p := p)
      rw [List.length_take] at hh
      split
      · rename_i h
        refine ⟨by omega, fun a ha => CallV.t (l3FromSet c a p) (.inl rfl) ?_⟩
        rw [Int.toNat_natCast] at ha
        have ht := hits_take (c := c) (p := p) ha
        simp -implicitDefEqProofs (maxSteps := 2000000) only [push_cast, Nat.reduceEqDiff, Nat.reduceLT, Nat.reduceLeDiff, Nat.reduceAdd, Nat.reduceMul, Nat.reduceSub, Nat.reduceBEq, ↓reduceIte, reduceCtorEq]
        split
        · rename_i hr
          rw [if_pos hr] at ht
          refine ⟨by unfold inI64; omega, by unfold inI64; omega, i + 1, by omega, by omega, Keep.wk (ids := [some 0, some 1]) ?_⟩
          simp only [push_cast, Nat.reduceEqDiff, Nat.reduceLT, Nat.reduceLeDiff, Nat.reduceAdd, Nat.reduceMul, Nat.reduceSub, Nat.reduceBEq, ↓reduceIte, reduceCtorEq, eCover, T.i.injEq, AV.t.injEq]
          exact ⟨rfl, by omega⟩
        · rename_i hr
          rw [if_neg hr] at ht
          refine ⟨by unfold inI64; omega, i + 1, by omega, by omega, Keep.wk (ids := [some 0, some 1]) ?_⟩
          simp only [push_cast, Nat.reduceEqDiff, Nat.reduceLT, Nat.reduceLeDiff, Nat.reduceAdd, Nat.reduceMul, Nat.reduceSub, Nat.reduceBEq, ↓reduceIte, reduceCtorEq, eCover, T.i.injEq, AV.t.injEq]
          exact ⟨rfl, by omega⟩
      · have hi : i = sets.length := by omega
        subst hi
        rw [List.take_length] at hh ⊢
        have hds := diffs_succ (c := c) (sets := sets) (n := p)
        have hdl := diffs_le (c := c) (sets := sets) (n := p)
        split
        · rename_i h1
          intro _
          split
          · rename_i h2
            rw [if_pos ⟨by omega, by omega⟩] at hds
            refine ⟨rfl, by have := Bd.lo; omega, rfl, by omega, by omega, by unfold inI64; omega, p + 1, by omega, by omega, Keep.wk (ids := [some 0, some 3]) ?_⟩
            simp only [push_cast, Nat.reduceEqDiff, Nat.reduceLT, Nat.reduceLeDiff, Nat.reduceAdd, Nat.reduceMul, Nat.reduceSub, Nat.reduceBEq, ↓reduceIte, reduceCtorEq, eCover, hds, List.map_append]
            rfl
          · rename_i h2
            rw [if_neg (by omega), List.append_nil] at hds
            refine ⟨by unfold inI64; omega, p + 1, by omega, by omega, Keep.wk (ids := [some 0, some 1]) ?_⟩
            simp only [push_cast, Nat.reduceEqDiff, Nat.reduceLT, Nat.reduceLeDiff, Nat.reduceAdd, Nat.reduceMul, Nat.reduceSub, Nat.reduceBEq, ↓reduceIte, reduceCtorEq, eCover, hds] <;> trivial
        · rename_i h1
          rw [if_neg (by omega), List.append_nil] at hds
          refine ⟨by unfold inI64; omega, p + 1, by omega, by omega, Keep.wk (ids := [some 0, some 1]) ?_⟩
          simp only [push_cast, Nat.reduceEqDiff, Nat.reduceLT, Nat.reduceLeDiff, Nat.reduceAdd, Nat.reduceMul, Nat.reduceSub, Nat.reduceBEq, ↓reduceIte, reduceCtorEq, eCover, hds] <;> trivial

/-- the first hit ends the search in a set -/
theorem implCoverDiff (c : Cover) (sets : List (List Int)) (hB : Bd.B ≤ 2147483648) : Con P0 24 [eCover c, eIntSS sets] (.sr 0) [.arr 3 1 (.own .leaf) ((diffs c sets c.spots.length).map (T.i .i64))] := by
  refine Con.intro (fn := Try.f24) [.tmp 4] (fun _ => 0) mixed (by kernel_rfl) rfl (by decide) rfl (by rfl) (by kernel_rfl) ?_
  simp -implicitDefEqProofs (maxSteps := 2000000) only [push_cast, Nat.reduceEqDiff, Nat.reduceLT, Nat.reduceLeDiff, Nat.reduceAdd, Nat.reduceMul, Nat.reduceSub, Nat.reduceBEq, ↓reduceIte, reduceCtorEq, eCover]
  refine ⟨rfl, by have := Bd.lo; omega, fun hlp => ?_⟩
  refine WL.loop (ι := Nat) (D := (fun _ => 0)) (fun p => p ≤ c.spots.length) (fun p => ⟨53, [(1, .t (eIntSS sets)), (2, .rf 0 0), (5, .sr 1), (15, .t (.i .i64 c.spots.length)), (16, .t (.i .i64 p))], [.box (.t (eCover c)), .arr 3 1 (.own .leaf) ((diffs c sets p).map (T.i .i64))]⟩) (fun p => c.spots.length - p) mixed (by kernel_rfl) 0 (by omega) (Keep.wk (ids := [some 0, some 1]) ?_) ?_
  · simp only [push_cast, Nat.reduceEqDiff, Nat.reduceLT, Nat.reduceLeDiff, Nat.reduceAdd, Nat.reduceMul, Nat.reduceSub, Nat.reduceBEq, ↓reduceIte, reduceCtorEq, eCover, diffs_zero] <;> trivial
  · intro p hp
    simp -implicitDefEqProofs (maxSteps := 2000000) only [push_cast, Nat.reduceEqDiff, Nat.reduceLT, Nat.reduceLeDiff, Nat.reduceAdd, Nat.reduceMul, Nat.reduceSub, Nat.reduceBEq, ↓reduceIte, reduceCtorEq, eCover_len, eCover_isAg, eCover_ones, eCover_one]
    split
    case isFalse =>
      have hp : p = c.spots.length := by omega
      subst hp
      exact Close.of [some 1] rfl rfl rfl rfl (by simp only [push_cast, Nat.reduceEqDiff, Nat.reduceLT, Nat.reduceLeDiff, Nat.reduceAdd, Nat.reduceMul, Nat.reduceSub, Nat.reduceBEq, ↓reduceIte, reduceCtorEq] <;> rfl)
    rename_i hlt
    intro hls
    refine WL.loop (ι := Nat) (D := (fun _ => 0)) (fun i => i ≤ sets.length) (fun i => ⟨53, [(1, .t (eIntSS sets)), (2, .rf 0 0), (5, .sr 1), (6, .t (.i .i64 p)), (7, .t (.i .i64 (hits c (sets.take i) p))), (15, .t (.i .i64 c.spots.length)), (16, .t (.i .i64 p)), (19, .t (eIntSS sets)), (20, .t (.i .i64 sets.length)), (21, .t (.i .i64 i))], [.box (.t (eCover c)), .arr 3 1 (.own .leaf) ((diffs c sets p).map (T.i .i64))]⟩) (fun i => sets.length - i) mixed (by kernel_rfl) 0 (by omega) (Keep.wk (ids := [some 0, some 1]) ?_) ?_
    · simp only [push_cast, Nat.reduceEqDiff, Nat.reduceLT, Nat.reduceLeDiff, Nat.reduceAdd, Nat.reduceMul, Nat.reduceSub, Nat.reduceBEq, ↓reduceIte, reduceCtorEq, hits, List.filter_nil] <;> trivial
    · intro i hi
      simp -implicitDefEqProofs (maxSteps := 2000000) only [push_cast, Nat.reduceEqDiff, Nat.reduceLT, Nat.reduceLeDiff, Nat.reduceAdd, Nat.reduceMul, Nat.reduceSub, Nat.reduceBEq, ↓reduceIte, reduceCtorEq, eCover_len, eCover_isAg, eCover_ones, eCover_one]
      have hh := hits_le (c := c) (sets := sets.take i) (p := p)
      rw [List.length_take] at hh
      split
      · rename_i h
        refine ⟨by omega, fun a ha hla => ?_⟩
        rw [Int.toNat_natCast] at ha
        have ht := hits_take (c := c) (p := p) ha
        refine WL.loop (ι := Nat) (D := (fun _ => 0)) (fun j => j ≤ a.length ∧ ∀ x ∈ a.take j, reaches c x p = false) (fun j => ⟨53, [(1, .t (eIntSS sets)), (2, .rf 0 0), (5, .sr 1), (6, .t (.i .i64 p)), (7, .t (.i .i64 (hits c (sets.take i) p))), (15, .t (.i .i64 c.spots.length)), (16, .t (.i .i64 p)), (19, .t (eIntSS sets)), (20, .t (.i .i64 sets.length)), (21, .t (.i .i64 i)), (25, .t (eIntS a)), (26, .t (.i .i64 a.length)), (27, .t (.i .i64 j))], [.box (.t (eCover c)), .arr 3 1 (.own .leaf) ((diffs c sets p).map (T.i .i64))]⟩) (fun j => a.length - j) mixed (by kernel_rfl) 0 ⟨by omega, by simp⟩ (Keep.wk (ids := [some 0, some 1]) ?_) ?_
        · simp only [push_cast, Nat.reduceEqDiff, Nat.reduceLT, Nat.reduceLeDiff, Nat.reduceAdd, Nat.reduceMul, Nat.reduceSub, Nat.reduceBEq, ↓reduceIte, reduceCtorEq] <;> trivial
        · rintro j ⟨hj, hc⟩
          simp -implicitDefEqProofs (maxSteps := 2000000) only [push_cast, Nat.reduceEqDiff, Nat.reduceLT, Nat.reduceLeDiff, Nat.reduceAdd, Nat.reduceMul, Nat.reduceSub, Nat.reduceBEq, ↓reduceIte, reduceCtorEq, eCover_len, eCover_isAg, eCover_ones, eCover_one]
          split
          · rename_i hjl
            refine ⟨by omega, fun x hx => Callx.closed (implReaches c x p) rfl rfl (.inl rfl) ?_⟩
            rw [Int.toNat_natCast] at hx
            simp -implicitDefEqProofs (maxSteps := 2000000) only [push_cast, Nat.reduceEqDiff, Nat.reduceLT, Nat.reduceLeDiff, Nat.reduceAdd, Nat.reduceMul, Nat.reduceSub, Nat.reduceBEq, ↓reduceIte, reduceCtorEq]
            split
            · rename_i hr
              have hf : fromSet c a p = true := List.any_eq_true.2 ⟨x, List.mem_of_getElem? hx, hr⟩
              rw [if_pos hf] at ht
              refine ⟨by unfold inI64; omega, by unfold inI64; omega, i + 1, by omega, by omega, Keep.wk (ids := [some 0, some 1]) ?_⟩
              simp only [push_cast, Nat.reduceEqDiff, Nat.reduceLT, Nat.reduceLeDiff, Nat.reduceAdd, Nat.reduceMul, Nat.reduceSub, Nat.reduceBEq, ↓reduceIte, reduceCtorEq, T.i.injEq, AV.t.injEq]
              exact ⟨rfl, by omega⟩
            · rename_i hr
              refine ⟨by unfold inI64; omega, j + 1, ⟨by omega, fun y hy => ?_⟩, by omega, Keep.wk (ids := [some 0, some 1]) ?_⟩
              · rw [List.take_add_one, hx] at hy
                rcases List.mem_append.1 hy with hy | hy
                · exact hc y hy
                · simp at hy; subst hy; simpa using hr
              · simp only [push_cast, Nat.reduceEqDiff, Nat.reduceLT, Nat.reduceLeDiff, Nat.reduceAdd, Nat.reduceMul, Nat.reduceSub, Nat.reduceBEq, ↓reduceIte, reduceCtorEq] <;> rfl
          · have hj : j = a.length := by omega
            subst hj
            rw [List.take_length] at hc
            have hf : ¬ fromSet c a p = true := by
              unfold fromSet
              rw [List.any_eq_true]
              rintro ⟨x, hx, hr⟩
              rw [hc x hx] at hr
              cases hr
            rw [if_neg hf] at ht
            refine ⟨by unfold inI64; omega, i + 1, by omega, by omega, Keep.wk (ids := [some 0, some 1]) ?_⟩
            simp only [push_cast, Nat.reduceEqDiff, Nat.reduceLT, Nat.reduceLeDiff, Nat.reduceAdd, Nat.reduceMul, Nat.reduceSub, Nat.reduceBEq, ↓reduceIte, reduceCtorEq, T.i.injEq, AV.t.injEq]
            exact ⟨rfl, by omega⟩
      · have hi : i = sets.length := by omega
        subst hi
        rw [List.take_length] at hh ⊢
        have hds := diffs_succ (c := c) (sets := sets) (n := p)
        have hdl := diffs_le (c := c) (sets := sets) (n := p)
        split
        · rename_i h1
          intro _
          split
          · rename_i h2
            rw [if_pos ⟨by omega, by omega⟩] at hds
            refine ⟨rfl, by have := Bd.lo; omega, rfl, by omega, by omega, by unfold inI64; omega, p + 1, by omega, by omega, Keep.wk (ids := [some 0, some 3]) ?_⟩
            simp only [push_cast, Nat.reduceEqDiff, Nat.reduceLT, Nat.reduceLeDiff, Nat.reduceAdd, Nat.reduceMul, Nat.reduceSub, Nat.reduceBEq, ↓reduceIte, reduceCtorEq, eCover, hds, List.map_append]
            rfl
          · rename_i h2
            rw [if_neg (by omega), List.append_nil] at hds
            refine ⟨by unfold inI64; omega, p + 1, by omega, by omega, Keep.wk (ids := [some 0, some 1]) ?_⟩
            simp only [push_cast, Nat.reduceEqDiff, Nat.reduceLT, Nat.reduceLeDiff, Nat.reduceAdd, Nat.reduceMul, Nat.reduceSub, Nat.reduceBEq, ↓reduceIte, reduceCtorEq, eCover, hds] <;> trivial
        · rename_i h1
          rw [if_neg (by omega), List.append_nil] at hds
          refine ⟨by unfold inI64; omega, p + 1, by omega, by omega, Keep.wk (ids := [some 0, some 1]) ?_⟩
          simp only [push_cast, Nat.reduceEqDiff, Nat.reduceLT, Nat.reduceLeDiff, Nat.reduceAdd, Nat.reduceMul, Nat.reduceSub, Nat.reduceBEq, ↓reduceIte, reduceCtorEq, eCover, hds] <;> trivial

theorem wt_intS (xs : List Int) : (eIntS xs).wt = xs.length := by
  simp only [eIntS, T.wt, List.length_map, wts_zero (f := T.i .i64) (fun _ => rfl), Nat.add_zero]
theorem wt_intSS : ∀ (xs : List (List Int)), wts (xs.map eIntS) = tot xs
  | [] => rfl
  | x :: r => by simp only [List.map_cons, wts, wt_intS, tot, wt_intSS r]
theorem wt_spots (xs : List Spot) : (eSpotS xs).wt = xs.length := by
  simp only [eSpotS, T.wt, List.length_map, wts_zero (f := eSpot) (fun _ => rfl), Nat.add_zero]

theorem lawCoverDiff (c : Cover) (sets : List (List Int)) (hB : mxs [eCover c, eIntSS sets] ≤ 1048576 → Bd.B ≤ 2147483648) : Con P0 7 [eCover c, eIntSS sets] (.t (.b true)) [] := by
  refine Con.intro (fn := Try.f7) [.tmp 4] (fun i => if i = 14 then 5 else 0) mixed (by kernel_rfl) rfl (by decide) rfl (by rfl) (by kernel_rfl) ?_
  simp -implicitDefEqProofs (maxSteps := 2000000) only [push_cast, Nat.reduceEqDiff, Nat.reduceLT, Nat.reduceLeDiff, Nat.reduceAdd, Nat.reduceMul, Nat.reduceSub, Nat.reduceBEq, ↓reduceIte, reduceCtorEq]
  refine Callx.closed (szCover c _ (by omega) (by omega)) rfl rfl (.inl rfl) ?_
  simp -implicitDefEqProofs (maxSteps := 2000000) only [push_cast, Nat.reduceEqDiff, Nat.reduceLT, Nat.reduceLeDiff, Nat.reduceAdd, Nat.reduceMul, Nat.reduceSub, Nat.reduceBEq, ↓reduceIte, reduceCtorEq]
  rcases szR_cases (eCover c).wt 1048576 with ⟨g1, g2⟩ | ⟨g1, g2⟩
  rotate_left
  · simp only [g2]
    rw [if_pos (by omega)]
    trivial
  simp only [g2]
  rw [if_neg (by omega)]
  refine Callx.closed (szIntSS sets _ (by omega) (by omega)) rfl rfl (.inl rfl) ?_
  simp -implicitDefEqProofs (maxSteps := 2000000) only [push_cast, Nat.reduceEqDiff, Nat.reduceLT, Nat.reduceLeDiff, Nat.reduceAdd, Nat.reduceMul, Nat.reduceSub, Nat.reduceBEq, ↓reduceIte, reduceCtorEq]
  rcases szR_cases (eIntSS sets).wt (1048576 - (eCover c).wt) with ⟨g3, g4⟩ | ⟨g3, g4⟩
  rotate_left
  · simp only [g4]
    rw [if_pos (by omega)]
    trivial
  simp only [g4]
  rw [if_neg (by omega)]
  have hB := hB (mxs_cons (mx_of (by omega)) (mxs_cons (mx_of (by omega)) mxs_nil))
  refine Callx.closed (toCover hB c) rfl rfl (.inl rfl) ?_
  simp -implicitDefEqProofs (maxSteps := 2000000) only [push_cast, Nat.reduceEqDiff, Nat.reduceLT, Nat.reduceLeDiff, Nat.reduceAdd, Nat.reduceMul, Nat.reduceSub, Nat.reduceBEq, ↓reduceIte, reduceCtorEq]
  refine Callx.closed (toIntSS hB sets) rfl rfl (.inl rfl) ?_
  simp -implicitDefEqProofs (maxSteps := 2000000) only [push_cast, Nat.reduceEqDiff, Nat.reduceLT, Nat.reduceLeDiff, Nat.reduceAdd, Nat.reduceMul, Nat.reduceSub, Nat.reduceBEq, ↓reduceIte, reduceCtorEq]
  refine Callx.closed (specCoverDiff c sets hB) rfl rfl (.inr ⟨rfl, rfl⟩) ?_
  simp -implicitDefEqProofs (maxSteps := 2000000) only [push_cast, Nat.reduceEqDiff, Nat.reduceLT, Nat.reduceLeDiff, Nat.reduceAdd, Nat.reduceMul, Nat.reduceSub, Nat.reduceBEq, ↓reduceIte, reduceCtorEq]
  refine Callx.closed (toCover hB c) rfl rfl (.inl rfl) ?_
  simp -implicitDefEqProofs (maxSteps := 2000000) only [push_cast, Nat.reduceEqDiff, Nat.reduceLT, Nat.reduceLeDiff, Nat.reduceAdd, Nat.reduceMul, Nat.reduceSub, Nat.reduceBEq, ↓reduceIte, reduceCtorEq]
  refine Callx.closed (toIntSS hB sets) rfl rfl (.inl rfl) ?_
  simp -implicitDefEqProofs (maxSteps := 2000000) only [push_cast, Nat.reduceEqDiff, Nat.reduceLT, Nat.reduceLeDiff, Nat.reduceAdd, Nat.reduceMul, Nat.reduceSub, Nat.reduceBEq, ↓reduceIte, reduceCtorEq]
  refine Callx.closed (implCoverDiff c sets hB) rfl rfl (.inr ⟨rfl, rfl⟩) ?_
  simp -implicitDefEqProofs (maxSteps := 2000000) only [push_cast, Nat.reduceEqDiff, Nat.reduceLT, Nat.reduceLeDiff, Nat.reduceAdd, Nat.reduceMul, Nat.reduceSub, Nat.reduceBEq, ↓reduceIte, reduceCtorEq]
  generalize hd : diffs c sets c.spots.length = ds
  refine Callx.closed (eqIntS ds ds) rfl rfl (.inr ⟨rfl, rfl⟩) ?_
  simp -implicitDefEqProofs (maxSteps := 2000000) only [push_cast, Nat.reduceEqDiff, Nat.reduceLT, Nat.reduceLeDiff, Nat.reduceAdd, Nat.reduceMul, Nat.reduceSub, Nat.reduceBEq, ↓reduceIte, reduceCtorEq]
  refine CallV.of (r := eCover c) (toCover hB c) (by simp only [push_cast, Nat.reduceEqDiff, Nat.reduceLT, Nat.reduceLeDiff, Nat.reduceAdd, Nat.reduceMul, Nat.reduceSub, Nat.reduceBEq, ↓reduceIte, reduceCtorEq]; rfl) rfl (.inl rfl) ?_
  simp -implicitDefEqProofs (maxSteps := 2000000) only [push_cast, Nat.reduceEqDiff, Nat.reduceLT, Nat.reduceLeDiff, Nat.reduceAdd, Nat.reduceMul, Nat.reduceSub, Nat.reduceBEq, ↓reduceIte, reduceCtorEq]
  refine CallV.t (eqCover c c) (.inr rfl) ?_
  simp -implicitDefEqProofs (maxSteps := 2000000) only [push_cast, Nat.reduceEqDiff, Nat.reduceLT, Nat.reduceLeDiff, Nat.reduceAdd, Nat.reduceMul, Nat.reduceSub, Nat.reduceBEq, ↓reduceIte, reduceCtorEq]
  refine Callx.closed (toIntSS hB sets) rfl rfl (.inl rfl) ?_
  simp -implicitDefEqProofs (maxSteps := 2000000) only [push_cast, Nat.reduceEqDiff, Nat.reduceLT, Nat.reduceLeDiff, Nat.reduceAdd, Nat.reduceMul, Nat.reduceSub, Nat.reduceBEq, ↓reduceIte, reduceCtorEq]
  refine Callx.closed (eqIntSS sets sets) rfl rfl (.inr ⟨rfl, rfl⟩) ?_
  simp -implicitDefEqProofs (maxSteps := 2000000) only [push_cast, Nat.reduceEqDiff, Nat.reduceLT, Nat.reduceLeDiff, Nat.reduceAdd, Nat.reduceMul, Nat.reduceSub, Nat.reduceBEq, ↓reduceIte, reduceCtorEq]
  have w1 : (eIntSS sets).wt = sets.length + tot sets := by simp only [eIntSS, T.wt, List.length_map, wt_intSS]
  have w2 : (eCover c).wt = c.spots.length + (c.reach.length + tot c.reach) := by
    simp only [eCover, T.wt, wts, wt_spots, List.length_map, wt_intSS, Nat.add_zero]
    have := wt_spots c.spots
    simp only [eSpotS, T.wt, List.length_map] at this
    omega
  have hdl : ds.length ≤ c.spots.length := by rw [← hd]; exact diffs_le
  refine Callx.hand [5, 6] (markCover c 1 (by omega) (by omega)) (by decide) (by simp only [push_cast, Nat.reduceEqDiff, Nat.reduceLT, Nat.reduceLeDiff, Nat.reduceAdd, Nat.reduceMul, Nat.reduceSub, Nat.reduceBEq, ↓reduceIte, reduceCtorEq]) rfl rfl (by simp only [push_cast, Nat.reduceEqDiff, Nat.reduceLT, Nat.reduceLeDiff, Nat.reduceAdd, Nat.reduceMul, Nat.reduceSub, Nat.reduceBEq, ↓reduceIte, reduceCtorEq] <;> rfl) rfl (.inr ⟨rfl, by simp only [push_cast, Nat.reduceEqDiff, Nat.reduceLT, Nat.reduceLeDiff, Nat.reduceAdd, Nat.reduceMul, Nat.reduceSub, Nat.reduceBEq, ↓reduceIte, reduceCtorEq]⟩) ?_
  simp -implicitDefEqProofs (maxSteps := 2000000) only [push_cast, Nat.reduceEqDiff, Nat.reduceLT, Nat.reduceLeDiff, Nat.reduceAdd, Nat.reduceMul, Nat.reduceSub, Nat.reduceBEq, ↓reduceIte, reduceCtorEq]
  refine Callx.hand [8] (markIntSS sets (1 + 2 * c.spots.length + tot c.reach) (by omega) (by omega)) (by decide) (by simp only [push_cast, Nat.reduceEqDiff, Nat.reduceLT, Nat.reduceLeDiff, Nat.reduceAdd, Nat.reduceMul, Nat.reduceSub, Nat.reduceBEq, ↓reduceIte, reduceCtorEq]) rfl rfl (by simp only [push_cast, Nat.reduceEqDiff, Nat.reduceLT, Nat.reduceLeDiff, Nat.reduceAdd, Nat.reduceMul, Nat.reduceSub, Nat.reduceBEq, ↓reduceIte, reduceCtorEq] <;> rfl) rfl (.inr ⟨rfl, by simp only [push_cast, Nat.reduceEqDiff, Nat.reduceLT, Nat.reduceLeDiff, Nat.reduceAdd, Nat.reduceMul, Nat.reduceSub, Nat.reduceBEq, ↓reduceIte, reduceCtorEq]⟩) ?_
  simp -implicitDefEqProofs (maxSteps := 2000000) only [push_cast, Nat.reduceEqDiff, Nat.reduceLT, Nat.reduceLeDiff, Nat.reduceAdd, Nat.reduceMul, Nat.reduceSub, Nat.reduceBEq, ↓reduceIte, reduceCtorEq]
  rw [if_neg (by omega)]
  refine Callx.closed (eqIntS ds ds) rfl rfl (.inr ⟨rfl, rfl⟩) ?_
  simp -implicitDefEqProofs (maxSteps := 2000000) only [push_cast, Nat.reduceEqDiff, Nat.reduceLT, Nat.reduceLeDiff, Nat.reduceAdd, Nat.reduceMul, Nat.reduceSub, Nat.reduceBEq, ↓reduceIte, reduceCtorEq]
  refine Callx.hand [9] (markIntS ds 1 (by omega) (by omega)) (by decide) (by simp only [push_cast, Nat.reduceEqDiff, Nat.reduceLT, Nat.reduceLeDiff, Nat.reduceAdd, Nat.reduceMul, Nat.reduceSub, Nat.reduceBEq, ↓reduceIte, reduceCtorEq]) rfl rfl (by simp only [push_cast, Nat.reduceEqDiff, Nat.reduceLT, Nat.reduceLeDiff, Nat.reduceAdd, Nat.reduceMul, Nat.reduceSub, Nat.reduceBEq, ↓reduceIte, reduceCtorEq] <;> rfl) rfl (.inr ⟨rfl, by simp only [push_cast, Nat.reduceEqDiff, Nat.reduceLT, Nat.reduceLeDiff, Nat.reduceAdd, Nat.reduceMul, Nat.reduceSub, Nat.reduceBEq, ↓reduceIte, reduceCtorEq]⟩) ?_
  simp -implicitDefEqProofs (maxSteps := 2000000) only [push_cast, Nat.reduceEqDiff, Nat.reduceLT, Nat.reduceLeDiff, Nat.reduceAdd, Nat.reduceMul, Nat.reduceSub, Nat.reduceBEq, ↓reduceIte, reduceCtorEq]
  have held : Con P0 30 [eIntS (marked ds.length 1), .i .i64 1] (.t (.i .i64 (1 + ds.length))) [] := by
    have h := heldIntS (marked ds.length 1) 1 (by omega) (by rw [marked_len]; omega)
    rwa [marked_len, if_pos rfl] at h
  refine Callx.closed held rfl rfl (.inr ⟨rfl, rfl⟩) ?_
  simp -implicitDefEqProofs (maxSteps := 2000000) only [push_cast, Nat.reduceEqDiff, Nat.reduceLT, Nat.reduceLeDiff, Nat.reduceAdd, Nat.reduceMul, Nat.reduceSub, Nat.reduceBEq, ↓reduceIte, reduceCtorEq]
  rw [if_neg (by omega)]
  refine Callx.closed (toCover hB c) rfl rfl (.inl rfl) ?_
  simp -implicitDefEqProofs (maxSteps := 2000000) only [push_cast, Nat.reduceEqDiff, Nat.reduceLT, Nat.reduceLeDiff, Nat.reduceAdd, Nat.reduceMul, Nat.reduceSub, Nat.reduceBEq, ↓reduceIte, reduceCtorEq]
  refine Callx.closed (toIntSS hB sets) rfl rfl (.inl rfl) ?_
  simp -implicitDefEqProofs (maxSteps := 2000000) only [push_cast, Nat.reduceEqDiff, Nat.reduceLT, Nat.reduceLeDiff, Nat.reduceAdd, Nat.reduceMul, Nat.reduceSub, Nat.reduceBEq, ↓reduceIte, reduceCtorEq]
  refine Callx.closed (implCoverDiff c sets hB) rfl rfl (.inr ⟨rfl, rfl⟩) ?_
  rw [hd]
  simp -implicitDefEqProofs (maxSteps := 2000000) only [push_cast, Nat.reduceEqDiff, Nat.reduceLT, Nat.reduceLeDiff, Nat.reduceAdd, Nat.reduceMul, Nat.reduceSub, Nat.reduceBEq, ↓reduceIte, reduceCtorEq]
  refine Callx.closed (eqIntS ds ds) rfl rfl (.inr ⟨rfl, rfl⟩) ?_
  simp -implicitDefEqProofs (maxSteps := 2000000) only [push_cast, Nat.reduceEqDiff, Nat.reduceLT, Nat.reduceLeDiff, Nat.reduceAdd, Nat.reduceMul, Nat.reduceSub, Nat.reduceBEq, ↓reduceIte, reduceCtorEq]
  refine Callx.closed held rfl rfl (.inr ⟨rfl, rfl⟩) ?_
  simp -implicitDefEqProofs (maxSteps := 2000000) only [push_cast, Nat.reduceEqDiff, Nat.reduceLT, Nat.reduceLeDiff, Nat.reduceAdd, Nat.reduceMul, Nat.reduceSub, Nat.reduceBEq, ↓reduceIte, reduceCtorEq]
  rw [if_neg (by omega)]
  trivial

end Go.Proofs.Ytdlpmicjmclfnaa.BX
