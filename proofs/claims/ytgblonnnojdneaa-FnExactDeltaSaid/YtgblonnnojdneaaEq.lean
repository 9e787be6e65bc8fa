/-
  The functions 'laws.eq..': they tell whether two values are alike.
-/
import Derived.Test.YtgblonnnojdneaaDa
namespace Go.Proofs.Ytgblonnnojdneaa.BX
set_option linter.unusedSectionVars false
set_option linter.unusedSimpArgs false
set_option linter.unusedVariables false
open Go Go.RowKit
variable [Bd]

theorem eqEntry (a b : Entry) : Con P0 42 [eEntry a, eEntry b] (.t (.b (decide (a = b)))) [] := by
  refine Con.intro (fn := Try.f42) [.tmp 4] (fun _ => 0) mixed (by kernel_rfl) rfl (by decide) rfl (by rfl) (by kernel_rfl) ?_
  obtain ⟨a0, a1, a2⟩ := a
  obtain ⟨b0, b1, b2⟩ := b
  simp -implicitDefEqProofs (maxSteps := 2000000) only [push_cast, Nat.reduceEqDiff, Nat.reduceLT, Nat.reduceLeDiff, Nat.reduceAdd, Nat.reduceMul, Nat.reduceSub, Nat.reduceBEq, ↓reduceIte, reduceCtorEq, eEntry]
  split
  · simp_all
  rename_i h
  have h : a0 = b0 := by simpa using h
  subst h
  split
  · simp_all
  rename_i h
  have h : a1 = b1 := by simpa using h
  subst h
  split
  · simp_all
  rename_i h
  have h : a2 = b2 := by simpa using h
  subst h
  simp

theorem eqEntryS (xs ys : List Entry) : Con P0 20 [eEntryS xs, eEntryS ys] (.t (.b (decide (xs = ys)))) [] := by
  refine Con.intro (fn := Try.f20) [.tmp 4] (fun i => if i = 6 then 10 else 0) mixed (by kernel_rfl) rfl (by decide) rfl (by rfl) (by kernel_rfl) ?_
  simp -implicitDefEqProofs (maxSteps := 2000000) only [push_cast, Nat.reduceEqDiff, Nat.reduceLT, Nat.reduceLeDiff, Nat.reduceAdd, Nat.reduceMul, Nat.reduceSub, Nat.reduceBEq, ↓reduceIte, reduceCtorEq]
  intro _ _
  split
  · rename_i h
    exact congrArg T.b (decide_eq_false (fun e => h (by rw [e]))).symm
  · rename_i h
    have h : xs.length = ys.length := by omega
    refine WL.loop (ι := Nat) (D := (fun i => if i = 6 then 10 else 0)) (fun i => i ≤ xs.length ∧ xs.take i = ys.take i) (fun i => ⟨27, [(0, .t (eEntryS xs)), (1, .t (eEntryS ys)), (5, .t (.i .i64 i))], []⟩) (fun i => xs.length - i) mixed (by kernel_rfl) 0 ⟨by omega, by simp⟩ (Keep.wk (ids := []) ?_) ?_
    · simp only [push_cast, Nat.reduceEqDiff, Nat.reduceLT, Nat.reduceLeDiff, Nat.reduceAdd, Nat.reduceMul, Nat.reduceSub, Nat.reduceBEq, ↓reduceIte, reduceCtorEq] <;> rfl
    · rintro i ⟨h1, h2⟩
      simp -implicitDefEqProofs (maxSteps := 2000000) only [push_cast, Nat.reduceEqDiff, Nat.reduceLT, Nat.reduceLeDiff, Nat.reduceAdd, Nat.reduceMul, Nat.reduceSub, Nat.reduceBEq, ↓reduceIte, reduceCtorEq, eEntry_len, eEntry_isAg, eEntry_ones, eEntry_flat, eEntry_one]
      intro hB
      have := Bd.hi
      split
      · rename_i hi
        refine ⟨by omega, ?_⟩
        rw [Int.toNat_natCast]
        intro a ha
        try dsimp only
        refine ⟨by omega, ?_⟩
        intro b hb
        refine CallV.t (eqEntry a b) (.inl rfl) ?_
        simp -implicitDefEqProofs (maxSteps := 2000000) only [push_cast, Nat.reduceEqDiff, Nat.reduceLT, Nat.reduceLeDiff, Nat.reduceAdd, Nat.reduceMul, Nat.reduceSub, Nat.reduceBEq, ↓reduceIte, reduceCtorEq, eEntry_len, eEntry_isAg, eEntry_ones, eEntry_flat, eEntry_one]
        split
        · rename_i hne
          exact congrArg T.b (decide_eq_false (fun e => absurd hne (by rw [e, hb] at ha; simp [Option.some.inj ha]))).symm
        · rename_i he
          have he : a = b := by simpa using he
          subst he
          refine ⟨by unfold inI64; omega, i + 1, ⟨by omega, ?_⟩, by omega, Keep.wk (ids := []) ?_⟩
          · rw [List.take_add_one, List.take_add_one, h2, ha, hb]
          · simp only [push_cast, Nat.reduceEqDiff, Nat.reduceLT, Nat.reduceLeDiff, Nat.reduceAdd, Nat.reduceMul, Nat.reduceSub, Nat.reduceBEq, ↓reduceIte, reduceCtorEq] <;> rfl
      · have hi : i = xs.length := by omega
        subst hi
        rw [List.take_length, h, List.take_length] at h2
        exact congrArg T.b (decide_eq_true h2).symm

theorem eqGroup (a b : Group) : Con P0 64 [eGroup a, eGroup b] (.t (.b (decide (a = b)))) [] := by
  refine Con.intro (fn := Try.f64) [.tmp 4] (fun _ => 0) mixed (by kernel_rfl) rfl (by decide) rfl (by rfl) (by kernel_rfl) ?_
  obtain ⟨a0, a1⟩ := a
  obtain ⟨b0, b1⟩ := b
  simp -implicitDefEqProofs (maxSteps := 2000000) only [push_cast, Nat.reduceEqDiff, Nat.reduceLT, Nat.reduceLeDiff, Nat.reduceAdd, Nat.reduceMul, Nat.reduceSub, Nat.reduceBEq, ↓reduceIte, reduceCtorEq, eGroup]
  split
  · simp_all
  rename_i h
  have h : a0 = b0 := by simpa using h
  subst h
  refine Callx.closed (eqEntryS a1 b1) rfl rfl (.inl rfl) ?_
  simp -implicitDefEqProofs (maxSteps := 2000000) only [push_cast, Nat.reduceEqDiff, Nat.reduceLT, Nat.reduceLeDiff, Nat.reduceAdd, Nat.reduceMul, Nat.reduceSub, Nat.reduceBEq, ↓reduceIte, reduceCtorEq, eGroup]
  split
  · simp_all
  rename_i h
  have h : a1 = b1 := by simpa using h
  subst h
  simp

theorem eqGroupS (xs ys : List Group) : Con P0 39 [eGroupS xs, eGroupS ys] (.t (.b (decide (xs = ys)))) [] := by
  refine Con.intro (fn := Try.f39) [.tmp 4] (fun i => if i = 6 then 10 else 0) mixed (by kernel_rfl) rfl (by decide) rfl (by rfl) (by kernel_rfl) ?_
  simp -implicitDefEqProofs (maxSteps := 2000000) only [push_cast, Nat.reduceEqDiff, Nat.reduceLT, Nat.reduceLeDiff, Nat.reduceAdd, Nat.reduceMul, Nat.reduceSub, Nat.reduceBEq, ↓reduceIte, reduceCtorEq]
  intro _ _
  split
  · rename_i h
    exact congrArg T.b (decide_eq_false (fun e => h (by rw [e]))).symm
  · rename_i h
    have h : xs.length = ys.length := by omega
    refine WL.loop (ι := Nat) (D := (fun i => if i = 6 then 10 else 0)) (fun i => i ≤ xs.length ∧ xs.take i = ys.take i) (fun i => ⟨27, [(0, .t (eGroupS xs)), (1, .t (eGroupS ys)), (5, .t (.i .i64 i))], []⟩) (fun i => xs.length - i) mixed (by kernel_rfl) 0 ⟨by omega, by simp⟩ (Keep.wk (ids := []) ?_) ?_
    · simp only [push_cast, Nat.reduceEqDiff, Nat.reduceLT, Nat.reduceLeDiff, Nat.reduceAdd, Nat.reduceMul, Nat.reduceSub, Nat.reduceBEq, ↓reduceIte, reduceCtorEq] <;> rfl
    · rintro i ⟨h1, h2⟩
      simp -implicitDefEqProofs (maxSteps := 2000000) only [push_cast, Nat.reduceEqDiff, Nat.reduceLT, Nat.reduceLeDiff, Nat.reduceAdd, Nat.reduceMul, Nat.reduceSub, Nat.reduceBEq, ↓reduceIte, reduceCtorEq, eGroup_len, eGroup_isAg, eGroup_ones, eGroup_one]
      intro hB
      have := Bd.hi
      split
      · rename_i hi
        refine ⟨by omega, ?_⟩
        rw [Int.toNat_natCast]
        intro a ha
        try dsimp only
        refine ⟨by omega, ?_⟩
        intro b hb
        refine CallV.t (eqGroup a b) (.inl rfl) ?_
        simp -implicitDefEqProofs (maxSteps := 2000000) only [push_cast, Nat.reduceEqDiff, Nat.reduceLT, Nat.reduceLeDiff, Nat.reduceAdd, Nat.reduceMul, Nat.reduceSub, Nat.reduceBEq, ↓reduceIte, reduceCtorEq, eGroup_len, eGroup_isAg, eGroup_ones, eGroup_one]
        split
        · rename_i hne
          exact congrArg T.b (decide_eq_false (fun e => absurd hne (by rw [e, hb] at ha; simp [Option.some.inj ha]))).symm
        · rename_i he
          have he : a = b := by simpa using he
          subst he
          refine ⟨by unfold inI64; omega, i + 1, ⟨by omega, ?_⟩, by omega, Keep.wk (ids := []) ?_⟩
          · rw [List.take_add_one, List.take_add_one, h2, ha, hb]
          · simp only [push_cast, Nat.reduceEqDiff, Nat.reduceLT, Nat.reduceLeDiff, Nat.reduceAdd, Nat.reduceMul, Nat.reduceSub, Nat.reduceBEq, ↓reduceIte, reduceCtorEq] <;> rfl
      · have hi : i = xs.length := by omega
        subst hi
        rw [List.take_length, h, List.take_length] at h2
        exact congrArg T.b (decide_eq_true h2).symm

theorem eqStore (a b : Store) : Con P0 13 [eStore a, eStore b] (.t (.b (decide (a = b)))) [] := by
  refine Con.intro (fn := Try.f13) [.tmp 4] (fun _ => 0) mixed (by kernel_rfl) rfl (by decide) rfl (by rfl) (by kernel_rfl) ?_
  obtain ⟨a0⟩ := a
  obtain ⟨b0⟩ := b
  simp -implicitDefEqProofs (maxSteps := 2000000) only [push_cast, Nat.reduceEqDiff, Nat.reduceLT, Nat.reduceLeDiff, Nat.reduceAdd, Nat.reduceMul, Nat.reduceSub, Nat.reduceBEq, ↓reduceIte, reduceCtorEq, eStore]
  refine Callx.closed (eqGroupS a0 b0) rfl rfl (.inl rfl) ?_
  simp -implicitDefEqProofs (maxSteps := 2000000) only [push_cast, Nat.reduceEqDiff, Nat.reduceLT, Nat.reduceLeDiff, Nat.reduceAdd, Nat.reduceMul, Nat.reduceSub, Nat.reduceBEq, ↓reduceIte, reduceCtorEq, eStore]
  split
  · simp_all
  rename_i h
  have h : a0 = b0 := by simpa using h
  subst h
  simp

end Go.Proofs.Ytgblonnnojdneaa.BX
