/-
  The functions 'laws.sz..': how much is left behind a value's size.
-/
import Derived.Test.YtgblonnnojdneaaDa
namespace Go.Proofs.Ytgblonnnojdneaa.BX
set_option linter.unusedSectionVars false
set_option linter.unusedSimpArgs false
set_option linter.unusedVariables false
open Go Go.RowKit
variable [Bd]

theorem szEntry (x : Entry) (n : Int) (h0 : 0 ≤ n) (hn : n ≤ 1048576) : Con P0 15 [eEntry x, .i .i64 n] (.t (.i .i64 (szR (eEntry x).wt n))) [] := by
  refine Con.intro (fn := Try.f15) [.tmp 4] (fun _ => 0) mixed (by kernel_rfl) rfl (by decide) rfl (by rfl) (by kernel_rfl) ?_
  have hw : (eEntry x).wt = x.typ.length + x.key.length + x.id.length := by simp only [eEntry, T.wt, wts]; omega
  rw [hw]
  have := Bd.hi
  simp -implicitDefEqProofs (maxSteps := 2000000) only [push_cast, Nat.reduceEqDiff, Nat.reduceLT, Nat.reduceLeDiff, Nat.reduceAdd, Nat.reduceMul, Nat.reduceSub, Nat.reduceBEq, ↓reduceIte, reduceCtorEq, eEntry]
  intro _
  refine ⟨by unfold inI64; omega, ?_⟩
  split
  · exact congrArg (T.i .i64) (szR_neg (by omega)).symm
  intro _
  refine ⟨by unfold inI64; omega, ?_⟩
  split
  · exact congrArg (T.i .i64) (szR_neg (by omega)).symm
  intro _
  refine ⟨by unfold inI64; omega, ?_⟩
  split
  · exact congrArg (T.i .i64) (szR_neg (by omega)).symm
  first | trivial | exact congrArg (T.i .i64) (by rw [szR_pos (by omega)]; omega)

theorem szEntryS (x : List Entry) (n : Int) (h0 : 0 ≤ n) (hn : n ≤ 1048576) : Con P0 14 [eEntryS x, .i .i64 n] (.t (.i .i64 (szR (eEntryS x).wt n))) [] := by
  refine Con.intro (fn := Try.f14) [.tmp 4] (fun _ => 0) mixed (by kernel_rfl) rfl (by decide) rfl (by rfl) (by kernel_rfl) ?_
  have hw : (eEntryS x).wt = x.length + wts (x.map eEntry) := by simp only [eEntryS, T.wt, List.length_map]
  simp -implicitDefEqProofs (maxSteps := 2000000) only [push_cast, Nat.reduceEqDiff, Nat.reduceLT, Nat.reduceLeDiff, Nat.reduceAdd, Nat.reduceMul, Nat.reduceSub, Nat.reduceBEq, ↓reduceIte, reduceCtorEq]
  intro hl
  have := Bd.hi
  refine ⟨by unfold inI64; omega, ?_⟩
  split
  · rename_i h
    exact congrArg (T.i .i64) (szR_neg (by rw [hw]; omega)).symm
  rename_i h
  refine WL.loop (ι := Nat) (D := (fun _ => 0)) (fun i => i ≤ x.length ∧ (x.length : Int) + wts ((x.take i).map eEntry) ≤ n) (fun i => ⟨27, [(0, .t (eEntryS x)), (1, .t (.i .i64 (n - x.length - wts ((x.take i).map eEntry)))), (5, .t (.i .i64 i))], []⟩) (fun i => x.length - i) mixed (by kernel_rfl) 0 ⟨by omega, by simp [wts]; omega⟩ (Keep.wk (ids := []) ?_) ?_
  · simp only [push_cast, Nat.reduceEqDiff, Nat.reduceLT, Nat.reduceLeDiff, Nat.reduceAdd, Nat.reduceMul, Nat.reduceSub, Nat.reduceBEq, ↓reduceIte, reduceCtorEq, List.take_zero, wts]; simp
  · rintro i ⟨hi, hc⟩
    simp -implicitDefEqProofs (maxSteps := 2000000) only [push_cast, Nat.reduceEqDiff, Nat.reduceLT, Nat.reduceLeDiff, Nat.reduceAdd, Nat.reduceMul, Nat.reduceSub, Nat.reduceBEq, ↓reduceIte, reduceCtorEq, eEntry_len, eEntry_isAg, eEntry_ones, eEntry_flat, eEntry_one]
    intro _
    split
    · rename_i h
      refine ⟨by omega, ?_⟩
      rw [Int.toNat_natCast]
      intro a ha
      try dsimp only
      have hstep := wts_take (f := eEntry) ha
      have hle := wts_take_le (f := eEntry) x (i + 1)
      refine Callx.closed (szEntry a _ (by omega) (by omega)) rfl rfl (.inl rfl) ?_
      simp -implicitDefEqProofs (maxSteps := 2000000) only [push_cast, Nat.reduceEqDiff, Nat.reduceLT, Nat.reduceLeDiff, Nat.reduceAdd, Nat.reduceMul, Nat.reduceSub, Nat.reduceBEq, ↓reduceIte, reduceCtorEq]
      rcases szR_cases (eEntry a).wt (n - x.length - wts ((x.take i).map eEntry)) with ⟨g1, g2⟩ | ⟨g1, g2⟩
      · simp only [g2]
        rw [if_neg (by omega)]
        refine ⟨by unfold inI64; omega, i + 1, ⟨by omega, by omega⟩, by omega, Keep.wk (ids := []) ?_⟩
        simp only [push_cast, Nat.reduceEqDiff, Nat.reduceLT, Nat.reduceLeDiff, Nat.reduceAdd, Nat.reduceMul, Nat.reduceSub, Nat.reduceBEq, ↓reduceIte, reduceCtorEq, T.i.injEq, AV.t.injEq]
        first | exact ⟨by omega, by omega⟩ | omega
      · simp only [g2]
        rw [if_pos (by omega)]
        exact congrArg (T.i .i64) (szR_neg (by rw [hw]; omega)).symm
    · have hi : i = x.length := by omega
      subst hi
      rw [List.take_length] at hc ⊢
      exact congrArg (T.i .i64) (by rw [hw, szR_pos (by omega)]; omega)

theorem szGroup (x : Group) (n : Int) (h0 : 0 ≤ n) (hn : n ≤ 1048576) : Con P0 60 [eGroup x, .i .i64 n] (.t (.i .i64 (szR (eGroup x).wt n))) [] := by
  refine Con.intro (fn := Try.f60) [.tmp 4] (fun _ => 0) mixed (by kernel_rfl) rfl (by decide) rfl (by rfl) (by kernel_rfl) ?_
  have hw : (eGroup x).wt = (eEntryS x.sets).wt := by simp only [eGroup, T.wt, wts]; omega
  rw [hw]
  have := Bd.hi
  simp -implicitDefEqProofs (maxSteps := 2000000) only [push_cast, Nat.reduceEqDiff, Nat.reduceLT, Nat.reduceLeDiff, Nat.reduceAdd, Nat.reduceMul, Nat.reduceSub, Nat.reduceBEq, ↓reduceIte, reduceCtorEq, eGroup]
  refine Callx.closed (szEntryS x.sets _ (by omega) (by omega)) rfl rfl (.inl rfl) ?_
  simp -implicitDefEqProofs (maxSteps := 2000000) only [push_cast, Nat.reduceEqDiff, Nat.reduceLT, Nat.reduceLeDiff, Nat.reduceAdd, Nat.reduceMul, Nat.reduceSub, Nat.reduceBEq, ↓reduceIte, reduceCtorEq, eGroup]
  rcases szR_cases (eEntryS x.sets).wt (n) with ⟨g1, g2⟩ | ⟨g1, g2⟩
  rotate_left
  · simp only [g2]
    rw [if_pos (by omega)]
    first | trivial | exact congrArg (T.i .i64) (szR_neg (by omega)).symm
  simp only [g2]
  rw [if_neg (by omega)]
  clear g2
  first | trivial | exact congrArg (T.i .i64) (by rw [szR_pos (by omega)]; omega)

theorem szGroupS (x : List Group) (n : Int) (h0 : 0 ≤ n) (hn : n ≤ 1048576) : Con P0 33 [eGroupS x, .i .i64 n] (.t (.i .i64 (szR (eGroupS x).wt n))) [] := by
  refine Con.intro (fn := Try.f33) [.tmp 4] (fun _ => 0) mixed (by kernel_rfl) rfl (by decide) rfl (by rfl) (by kernel_rfl) ?_
  have hw : (eGroupS x).wt = x.length + wts (x.map eGroup) := by simp only [eGroupS, T.wt, List.length_map]
  simp -implicitDefEqProofs (maxSteps := 2000000) only [push_cast, Nat.reduceEqDiff, Nat.reduceLT, Nat.reduceLeDiff, Nat.reduceAdd, Nat.reduceMul, Nat.reduceSub, Nat.reduceBEq, ↓reduceIte, reduceCtorEq]
  intro hl
  have := Bd.hi
  refine ⟨by unfold inI64; omega, ?_⟩
  split
  · rename_i h
    exact congrArg (T.i .i64) (szR_neg (by rw [hw]; omega)).symm
  rename_i h
  refine WL.loop (ι := Nat) (D := (fun _ => 0)) (fun i => i ≤ x.length ∧ (x.length : Int) + wts ((x.take i).map eGroup) ≤ n) (fun i => ⟨27, [(0, .t (eGroupS x)), (1, .t (.i .i64 (n - x.length - wts ((x.take i).map eGroup)))), (5, .t (.i .i64 i))], []⟩) (fun i => x.length - i) mixed (by kernel_rfl) 0 ⟨by omega, by simp [wts]; omega⟩ (Keep.wk (ids := []) ?_) ?_
  · simp only [push_cast, Nat.reduceEqDiff, Nat.reduceLT, Nat.reduceLeDiff, Nat.reduceAdd, Nat.reduceMul, Nat.reduceSub, Nat.reduceBEq, ↓reduceIte, reduceCtorEq, List.take_zero, wts]; simp
  · rintro i ⟨hi, hc⟩
    simp -implicitDefEqProofs (maxSteps := 2000000) only [push_cast, Nat.reduceEqDiff, Nat.reduceLT, Nat.reduceLeDiff, Nat.reduceAdd, Nat.reduceMul, Nat.reduceSub, Nat.reduceBEq, ↓reduceIte, reduceCtorEq, eGroup_len, eGroup_isAg, eGroup_ones, eGroup_one]
    intro _
    split
    · rename_i h
      refine ⟨by omega, ?_⟩
      rw [Int.toNat_natCast]
      intro a ha
      try dsimp only
      have hstep := wts_take (f := eGroup) ha
      have hle := wts_take_le (f := eGroup) x (i + 1)
      refine Callx.closed (szGroup a _ (by omega) (by omega)) rfl rfl (.inl rfl) ?_
      simp -implicitDefEqProofs (maxSteps := 2000000) only [push_cast, Nat.reduceEqDiff, Nat.reduceLT, Nat.reduceLeDiff, Nat.reduceAdd, Nat.reduceMul, Nat.reduceSub, Nat.reduceBEq, ↓reduceIte, reduceCtorEq]
      rcases szR_cases (eGroup a).wt (n - x.length - wts ((x.take i).map eGroup)) with ⟨g1, g2⟩ | ⟨g1, g2⟩
      · simp only [g2]
        rw [if_neg (by omega)]
        refine ⟨by unfold inI64; omega, i + 1, ⟨by omega, by omega⟩, by omega, Keep.wk (ids := []) ?_⟩
        simp only [push_cast, Nat.reduceEqDiff, Nat.reduceLT, Nat.reduceLeDiff, Nat.reduceAdd, Nat.reduceMul, Nat.reduceSub, Nat.reduceBEq, ↓reduceIte, reduceCtorEq, T.i.injEq, AV.t.injEq]
        first | exact ⟨by omega, by omega⟩ | omega
      · simp only [g2]
        rw [if_pos (by omega)]
        exact congrArg (T.i .i64) (szR_neg (by rw [hw]; omega)).symm
    · have hi : i = x.length := by omega
      subst hi
      rw [List.take_length] at hc ⊢
      exact congrArg (T.i .i64) (by rw [hw, szR_pos (by omega)]; omega)

theorem szStore (x : Store) (n : Int) (h0 : 0 ≤ n) (hn : n ≤ 1048576) : Con P0 9 [eStore x, .i .i64 n] (.t (.i .i64 (szR (eStore x).wt n))) [] := by
  refine Con.intro (fn := Try.f9) [.tmp 4] (fun _ => 0) mixed (by kernel_rfl) rfl (by decide) rfl (by rfl) (by kernel_rfl) ?_
  have hw : (eStore x).wt = (eGroupS x.groups).wt := by simp only [eStore, T.wt, wts]; omega
  rw [hw]
  have := Bd.hi
  simp -implicitDefEqProofs (maxSteps := 2000000) only [push_cast, Nat.reduceEqDiff, Nat.reduceLT, Nat.reduceLeDiff, Nat.reduceAdd, Nat.reduceMul, Nat.reduceSub, Nat.reduceBEq, ↓reduceIte, reduceCtorEq, eStore]
  refine Callx.closed (szGroupS x.groups _ (by omega) (by omega)) rfl rfl (.inl rfl) ?_
  simp -implicitDefEqProofs (maxSteps := 2000000) only [push_cast, Nat.reduceEqDiff, Nat.reduceLT, Nat.reduceLeDiff, Nat.reduceAdd, Nat.reduceMul, Nat.reduceSub, Nat.reduceBEq, ↓reduceIte, reduceCtorEq, eStore]
  rcases szR_cases (eGroupS x.groups).wt (n) with ⟨g1, g2⟩ | ⟨g1, g2⟩
  rotate_left
  · simp only [g2]
    rw [if_pos (by omega)]
    first | trivial | exact congrArg (T.i .i64) (szR_neg (by omega)).symm
  simp only [g2]
  rw [if_neg (by omega)]
  clear g2
  first | trivial | exact congrArg (T.i .i64) (by rw [szR_pos (by omega)]; omega)

end Go.Proofs.Ytgblonnnojdneaa.BX
