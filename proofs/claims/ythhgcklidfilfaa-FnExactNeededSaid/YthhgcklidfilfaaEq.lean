/-
  The functions 'laws.eq..': they tell whether two values are alike.
-/
import Derived.Test.YthhgcklidfilfaaDa
namespace Go.Proofs.Ythhgcklidfilfaa.BX
set_option linter.unusedSectionVars false
set_option linter.unusedSimpArgs false
set_option linter.unusedVariables false
open Go Go.RowKit
set_option maxRecDepth 20000
set_option maxHeartbeats 400000
variable [Bd]

theorem eqIntS (xs ys : List Int) : Con P0 156 [eIntS xs, eIntS ys] (.t (.b (decide (xs = ys)))) [] := by
  refine Con.intro (fn := Try.f156) [.tmp 4] (fun i => if i = 6 then (9, []) else (0, [])) mixed (by kernel_rfl) rfl (by decide) rfl (by rfl) (by kernel_rfl) ?_
  simp -implicitDefEqProofs (maxSteps := 2000000) only [push_cast, Nat.reduceEqDiff, Nat.reduceLT, Nat.reduceLeDiff, Nat.reduceAdd, Nat.reduceMul, Nat.reduceSub, Nat.reduceBEq, ↓reduceIte, reduceCtorEq]
  intro _ _
  split
  · rename_i h
    exact congrArg T.b (decide_eq_false (fun e => h (by rw [e]))).symm
  · rename_i h
    have h : xs.length = ys.length := by omega
    refine WL.loop (ι := Nat) (D := (fun i => if i = 6 then (9, []) else (0, []))) (fun i => i ≤ xs.length ∧ xs.take i = ys.take i) (fun i => ⟨26, [(0, .t (eIntS xs)), (1, .t (eIntS ys)), (5, .t (.i .i64 i))], []⟩) (fun i => xs.length - i) mixed (by kernel_rfl) 0 ⟨by omega, by simp⟩ (Keep.wk (ids := []) ?_) ?_
    · simp only [push_cast, Nat.reduceEqDiff, Nat.reduceLT, Nat.reduceLeDiff, Nat.reduceAdd, Nat.reduceMul, Nat.reduceSub, Nat.reduceBEq, ↓reduceIte, reduceCtorEq] <;> rfl
    · rintro i ⟨h1, h2⟩
      simp -implicitDefEqProofs (maxSteps := 2000000) only [push_cast, Nat.reduceEqDiff, Nat.reduceLT, Nat.reduceLeDiff, Nat.reduceAdd, Nat.reduceMul, Nat.reduceSub, Nat.reduceBEq, ↓reduceIte, reduceCtorEq]
      intro hB
      have := Bd.hi
      split
      · rename_i hi
        refine ⟨by omega, ?_⟩
        rw [Int.toNat_natCast]
        intro a ha
        try dsimp only
        refine ⟨by omega, ?_⟩
        intro b hb
        try dsimp only
        split
        · rename_i hne
          exact congrArg T.b (decide_eq_false (fun e => absurd hne (by rw [e, hb] at ha; simp [Option.some.inj ha]))).symm
        · rename_i he
          have he : a = b := by simpa using he
          subst he
          refine ⟨by unfold inI64; omega, i + 1, ⟨by omega, ?_⟩, by omega, Keep.wk (ids := []) ?_⟩
          · rw [List.take_add_one, List.take_add_one, h2, ha, hb]
          · simp only [push_cast, Nat.reduceEqDiff, Nat.reduceLT, Nat.reduceLeDiff, Nat.reduceAdd, Nat.reduceMul, Nat.reduceSub, Nat.reduceBEq, ↓reduceIte, reduceCtorEq] <;> rfl
      · have hi : i = xs.length := by omega
        subst hi
        rw [List.take_length, h, List.take_length] at h2
        exact congrArg T.b (decide_eq_true h2).symm

theorem eqIntSS (xs ys : List (List Int)) : Con P0 107 [eIntSS xs, eIntSS ys] (.t (.b (decide (xs = ys)))) [] := by
  refine Con.intro (fn := Try.f107) [.tmp 4] (fun i => if i = 6 then (10, []) else (0, [])) mixed (by kernel_rfl) rfl (by decide) rfl (by rfl) (by kernel_rfl) ?_
  simp -implicitDefEqProofs (maxSteps := 2000000) only [push_cast, Nat.reduceEqDiff, Nat.reduceLT, Nat.reduceLeDiff, Nat.reduceAdd, Nat.reduceMul, Nat.reduceSub, Nat.reduceBEq, ↓reduceIte, reduceCtorEq]
  intro _ _
  split
  · rename_i h
    exact congrArg T.b (decide_eq_false (fun e => h (by rw [e]))).symm
  · rename_i h
    have h : xs.length = ys.length := by omega
    refine WL.loop (ι := Nat) (D := (fun i => if i = 6 then (10, []) else (0, []))) (fun i => i ≤ xs.length ∧ xs.take i = ys.take i) (fun i => ⟨27, [(0, .t (eIntSS xs)), (1, .t (eIntSS ys)), (5, .t (.i .i64 i))], []⟩) (fun i => xs.length - i) mixed (by kernel_rfl) 0 ⟨by omega, by simp⟩ (Keep.wk (ids := []) ?_) ?_
    · simp only [push_cast, Nat.reduceEqDiff, Nat.reduceLT, Nat.reduceLeDiff, Nat.reduceAdd, Nat.reduceMul, Nat.reduceSub, Nat.reduceBEq, ↓reduceIte, reduceCtorEq] <;> rfl
    · rintro i ⟨h1, h2⟩
      simp -implicitDefEqProofs (maxSteps := 2000000) only [push_cast, Nat.reduceEqDiff, Nat.reduceLT, Nat.reduceLeDiff, Nat.reduceAdd, Nat.reduceMul, Nat.reduceSub, Nat.reduceBEq, ↓reduceIte, reduceCtorEq]
      intro hB
      have := Bd.hi
      split
      · rename_i hi
        refine ⟨by omega, ?_⟩
        rw [Int.toNat_natCast]
        intro a ha
        try dsimp only
        refine ⟨by omega, fun b hb => CallV.t (eqIntS a b) (.inl rfl) ?_⟩
        simp -implicitDefEqProofs (maxSteps := 2000000) only [push_cast, Nat.reduceEqDiff, Nat.reduceLT, Nat.reduceLeDiff, Nat.reduceAdd, Nat.reduceMul, Nat.reduceSub, Nat.reduceBEq, ↓reduceIte, reduceCtorEq]
        split
        · rename_i hne
          exact congrArg T.b (decide_eq_false (fun e => absurd hne (by rw [e, hb] at ha; simp [Option.some.inj ha]))).symm
        · rename_i he
          have he : a = b := by simpa using he
          subst he
          refine ⟨by unfold inI64; omega, i + 1, ⟨by omega, ?_⟩, by omega, Keep.wk (ids := []) ?_⟩
          · rw [List.take_add_one, List.take_add_one, h2, ha, hb]
          · simp only [push_cast, Nat.reduceEqDiff, Nat.reduceLT, Nat.reduceLeDiff, Nat.reduceAdd, Nat.reduceMul, Nat.reduceSub, Nat.reduceBEq, ↓reduceIte, reduceCtorEq] <;> rfl
      · have hi : i = xs.length := by omega
        subst hi
        rw [List.take_length, h, List.take_length] at h2
        exact congrArg T.b (decide_eq_true h2).symm

theorem eqStringS (xs ys : List (List UInt8)) : Con P0 56 [eStringS xs, eStringS ys] (.t (.b (decide (xs = ys)))) [] := by
  refine Con.intro (fn := Try.f56) [.tmp 4] (fun i => if i = 6 then (9, []) else (0, [])) mixed (by kernel_rfl) rfl (by decide) rfl (by rfl) (by kernel_rfl) ?_
  simp -implicitDefEqProofs (maxSteps := 2000000) only [push_cast, Nat.reduceEqDiff, Nat.reduceLT, Nat.reduceLeDiff, Nat.reduceAdd, Nat.reduceMul, Nat.reduceSub, Nat.reduceBEq, ↓reduceIte, reduceCtorEq]
  intro _ _
  split
  · rename_i h
    exact congrArg T.b (decide_eq_false (fun e => h (by rw [e]))).symm
  · rename_i h
    have h : xs.length = ys.length := by omega
    refine WL.loop (ι := Nat) (D := (fun i => if i = 6 then (9, []) else (0, []))) (fun i => i ≤ xs.length ∧ xs.take i = ys.take i) (fun i => ⟨26, [(0, .t (eStringS xs)), (1, .t (eStringS ys)), (5, .t (.i .i64 i))], []⟩) (fun i => xs.length - i) mixed (by kernel_rfl) 0 ⟨by omega, by simp⟩ (Keep.wk (ids := []) ?_) ?_
    · simp only [push_cast, Nat.reduceEqDiff, Nat.reduceLT, Nat.reduceLeDiff, Nat.reduceAdd, Nat.reduceMul, Nat.reduceSub, Nat.reduceBEq, ↓reduceIte, reduceCtorEq] <;> rfl
    · rintro i ⟨h1, h2⟩
      simp -implicitDefEqProofs (maxSteps := 2000000) only [push_cast, Nat.reduceEqDiff, Nat.reduceLT, Nat.reduceLeDiff, Nat.reduceAdd, Nat.reduceMul, Nat.reduceSub, Nat.reduceBEq, ↓reduceIte, reduceCtorEq]
      intro hB
      have := Bd.hi
      split
      · rename_i hi
        refine ⟨by omega, ?_⟩
        rw [Int.toNat_natCast]
        intro a ha
        try dsimp only
        refine ⟨by omega, ?_⟩
        intro b hb
        try dsimp only
        split
        · rename_i hne
          exact congrArg T.b (decide_eq_false (fun e => absurd hne (by rw [e, hb] at ha; simp [Option.some.inj ha]))).symm
        · rename_i he
          have he : a = b := by simpa using he
          subst he
          refine ⟨by unfold inI64; omega, i + 1, ⟨by omega, ?_⟩, by omega, Keep.wk (ids := []) ?_⟩
          · rw [List.take_add_one, List.take_add_one, h2, ha, hb]
          · simp only [push_cast, Nat.reduceEqDiff, Nat.reduceLT, Nat.reduceLeDiff, Nat.reduceAdd, Nat.reduceMul, Nat.reduceSub, Nat.reduceBEq, ↓reduceIte, reduceCtorEq] <;> rfl
      · have hi : i = xs.length := by omega
        subst hi
        rw [List.take_length, h, List.take_length] at h2
        exact congrArg T.b (decide_eq_true h2).symm

theorem eqGrant (a b : Grant) : Con P0 171 [eGrant a, eGrant b] (.t (.b (decide (a = b)))) [] := by
  refine Con.intro (fn := Try.f171) [.tmp 4] (fun _ => (0, [])) mixed (by kernel_rfl) rfl (by decide) rfl (by rfl) (by kernel_rfl) ?_
  obtain ⟨a0, a1⟩ := a
  obtain ⟨b0, b1⟩ := b
  simp -implicitDefEqProofs (maxSteps := 2000000) only [push_cast, Nat.reduceEqDiff, Nat.reduceLT, Nat.reduceLeDiff, Nat.reduceAdd, Nat.reduceMul, Nat.reduceSub, Nat.reduceBEq, ↓reduceIte, reduceCtorEq, eGrant]
  split
  · simp_all
  rename_i h
  have h : a0 = b0 := by simpa using h
  subst h
  split
  · simp_all
  rename_i h
  have h : a1 = b1 := by simpa using h
  subst h
  simp

theorem eqGrantS (xs ys : List Grant) : Con P0 127 [eGrantS xs, eGrantS ys] (.t (.b (decide (xs = ys)))) [] := by
  refine Con.intro (fn := Try.f127) [.tmp 4] (fun i => if i = 6 then (10, []) else (0, [])) mixed (by kernel_rfl) rfl (by decide) rfl (by rfl) (by kernel_rfl) ?_
  simp -implicitDefEqProofs (maxSteps := 2000000) only [push_cast, Nat.reduceEqDiff, Nat.reduceLT, Nat.reduceLeDiff, Nat.reduceAdd, Nat.reduceMul, Nat.reduceSub, Nat.reduceBEq, ↓reduceIte, reduceCtorEq]
  intro _ _
  split
  · rename_i h
    exact congrArg T.b (decide_eq_false (fun e => h (by rw [e]))).symm
  · rename_i h
    have h : xs.length = ys.length := by omega
    refine WL.loop (ι := Nat) (D := (fun i => if i = 6 then (10, []) else (0, []))) (fun i => i ≤ xs.length ∧ xs.take i = ys.take i) (fun i => ⟨27, [(0, .t (eGrantS xs)), (1, .t (eGrantS ys)), (5, .t (.i .i64 i))], []⟩) (fun i => xs.length - i) mixed (by kernel_rfl) 0 ⟨by omega, by simp⟩ (Keep.wk (ids := []) ?_) ?_
    · simp only [push_cast, Nat.reduceEqDiff, Nat.reduceLT, Nat.reduceLeDiff, Nat.reduceAdd, Nat.reduceMul, Nat.reduceSub, Nat.reduceBEq, ↓reduceIte, reduceCtorEq] <;> rfl
    · rintro i ⟨h1, h2⟩
      simp -implicitDefEqProofs (maxSteps := 2000000) only [push_cast, Nat.reduceEqDiff, Nat.reduceLT, Nat.reduceLeDiff, Nat.reduceAdd, Nat.reduceMul, Nat.reduceSub, Nat.reduceBEq, ↓reduceIte, reduceCtorEq, eGrant_len, eGrant_isAg, eGrant_ones, eGrant_flat, eGrant_one]
      intro hB
      have := Bd.hi
      split
      · rename_i hi
        refine ⟨by omega, ?_⟩
        rw [Int.toNat_natCast]
        intro a ha
        try dsimp only
        refine ⟨by omega, ?_⟩
        intro b hb
        refine CallV.t (eqGrant a b) (.inl rfl) ?_
        simp -implicitDefEqProofs (maxSteps := 2000000) only [push_cast, Nat.reduceEqDiff, Nat.reduceLT, Nat.reduceLeDiff, Nat.reduceAdd, Nat.reduceMul, Nat.reduceSub, Nat.reduceBEq, ↓reduceIte, reduceCtorEq, eGrant_len, eGrant_isAg, eGrant_ones, eGrant_flat, eGrant_one]
        split
        · rename_i hne
          exact congrArg T.b (decide_eq_false (fun e => absurd hne (by rw [e, hb] at ha; simp [Option.some.inj ha]))).symm
        · rename_i he
          have he : a = b := by simpa using he
          subst he
          refine ⟨by unfold inI64; omega, i + 1, ⟨by omega, ?_⟩, by omega, Keep.wk (ids := []) ?_⟩
          · rw [List.take_add_one, List.take_add_one, h2, ha, hb]
          · simp only [push_cast, Nat.reduceEqDiff, Nat.reduceLT, Nat.reduceLeDiff, Nat.reduceAdd, Nat.reduceMul, Nat.reduceSub, Nat.reduceBEq, ↓reduceIte, reduceCtorEq] <;> rfl
      · have hi : i = xs.length := by omega
        subst hi
        rw [List.take_length, h, List.take_length] at h2
        exact congrArg T.b (decide_eq_true h2).symm

theorem eqEvent (a b : Event) : Con P0 48 [eEvent a, eEvent b] (.t (.b (decide (a = b)))) [] := by
  refine Con.intro (fn := Try.f48) [.tmp 4] (fun _ => (0, [])) mixed (by kernel_rfl) rfl (by decide) rfl (by rfl) (by kernel_rfl) ?_
  obtain ⟨a0, a1, a2, a3, a4, a5, a6, a7, a8, a9⟩ := a
  obtain ⟨b0, b1, b2, b3, b4, b5, b6, b7, b8, b9⟩ := b
  simp -implicitDefEqProofs (maxSteps := 2000000) only [push_cast, Nat.reduceEqDiff, Nat.reduceLT, Nat.reduceLeDiff, Nat.reduceAdd, Nat.reduceMul, Nat.reduceSub, Nat.reduceBEq, ↓reduceIte, reduceCtorEq, eEvent]
  split
  · simp_all
  rename_i h
  have h : a0 = b0 := by simpa using h
  subst h
  split
  · simp_all
  rename_i h
  have h : a1 = b1 := by simpa using h
  subst h
  split
  · simp_all
  rename_i h
  have h : a2 = b2 := by simpa using h
  subst h
  split
  · simp_all
  rename_i h
  have h : a3 = b3 := by simpa using h
  subst h
  split
  · simp_all
  rename_i h
  have h : a4 = b4 := by simpa using h
  subst h
  split
  · simp_all
  rename_i h
  have h : a5 = b5 := by simpa using h
  subst h
  refine Callx.closed (eqStringS a6 b6) rfl rfl (.inl rfl) ?_
  simp -implicitDefEqProofs (maxSteps := 2000000) only [push_cast, Nat.reduceEqDiff, Nat.reduceLT, Nat.reduceLeDiff, Nat.reduceAdd, Nat.reduceMul, Nat.reduceSub, Nat.reduceBEq, ↓reduceIte, reduceCtorEq, eEvent]
  split
  · simp_all
  rename_i h
  have h : a6 = b6 := by simpa using h
  subst h
  refine Callx.closed (eqStringS a7 b7) rfl rfl (.inl rfl) ?_
  simp -implicitDefEqProofs (maxSteps := 2000000) only [push_cast, Nat.reduceEqDiff, Nat.reduceLT, Nat.reduceLeDiff, Nat.reduceAdd, Nat.reduceMul, Nat.reduceSub, Nat.reduceBEq, ↓reduceIte, reduceCtorEq, eEvent]
  split
  · simp_all
  rename_i h
  have h : a7 = b7 := by simpa using h
  subst h
  split
  · simp_all
  rename_i h
  have h : a8 = b8 := by simpa using h
  subst h
  refine Callx.closed (eqGrantS a9 b9) rfl rfl (.inl rfl) ?_
  simp -implicitDefEqProofs (maxSteps := 2000000) only [push_cast, Nat.reduceEqDiff, Nat.reduceLT, Nat.reduceLeDiff, Nat.reduceAdd, Nat.reduceMul, Nat.reduceSub, Nat.reduceBEq, ↓reduceIte, reduceCtorEq, eEvent]
  split
  · simp_all
  rename_i h
  have h : a9 = b9 := by simpa using h
  subst h
  simp

theorem eqEventS (xs ys : List Event) : Con P0 108 [eEventS xs, eEventS ys] (.t (.b (decide (xs = ys)))) [] := by
  refine Con.intro (fn := Try.f108) [.tmp 4] (fun i => if i = 6 then (10, []) else (0, [])) mixed (by kernel_rfl) rfl (by decide) rfl (by rfl) (by kernel_rfl) ?_
  simp -implicitDefEqProofs (maxSteps := 2000000) only [push_cast, Nat.reduceEqDiff, Nat.reduceLT, Nat.reduceLeDiff, Nat.reduceAdd, Nat.reduceMul, Nat.reduceSub, Nat.reduceBEq, ↓reduceIte, reduceCtorEq]
  intro _ _
  split
  · rename_i h
    exact congrArg T.b (decide_eq_false (fun e => h (by rw [e]))).symm
  · rename_i h
    have h : xs.length = ys.length := by omega
    refine WL.loop (ι := Nat) (D := (fun i => if i = 6 then (10, []) else (0, []))) (fun i => i ≤ xs.length ∧ xs.take i = ys.take i) (fun i => ⟨27, [(0, .t (eEventS xs)), (1, .t (eEventS ys)), (5, .t (.i .i64 i))], []⟩) (fun i => xs.length - i) mixed (by kernel_rfl) 0 ⟨by omega, by simp⟩ (Keep.wk (ids := []) ?_) ?_
    · simp only [push_cast, Nat.reduceEqDiff, Nat.reduceLT, Nat.reduceLeDiff, Nat.reduceAdd, Nat.reduceMul, Nat.reduceSub, Nat.reduceBEq, ↓reduceIte, reduceCtorEq] <;> rfl
    · rintro i ⟨h1, h2⟩
      simp -implicitDefEqProofs (maxSteps := 2000000) only [push_cast, Nat.reduceEqDiff, Nat.reduceLT, Nat.reduceLeDiff, Nat.reduceAdd, Nat.reduceMul, Nat.reduceSub, Nat.reduceBEq, ↓reduceIte, reduceCtorEq, eEvent_len, eEvent_isAg, eEvent_ones, eEvent_one]
      intro hB
      have := Bd.hi
      split
      · rename_i hi
        refine ⟨by omega, ?_⟩
        rw [Int.toNat_natCast]
        intro a ha
        try dsimp only
        refine ⟨by omega, ?_⟩
        intro b hb
        refine CallV.t (eqEvent a b) (.inl rfl) ?_
        simp -implicitDefEqProofs (maxSteps := 2000000) only [push_cast, Nat.reduceEqDiff, Nat.reduceLT, Nat.reduceLeDiff, Nat.reduceAdd, Nat.reduceMul, Nat.reduceSub, Nat.reduceBEq, ↓reduceIte, reduceCtorEq, eEvent_len, eEvent_isAg, eEvent_ones, eEvent_one]
        split
        · rename_i hne
          exact congrArg T.b (decide_eq_false (fun e => absurd hne (by rw [e, hb] at ha; simp [Option.some.inj ha]))).symm
        · rename_i he
          have he : a = b := by simpa using he
          subst he
          refine ⟨by unfold inI64; omega, i + 1, ⟨by omega, ?_⟩, by omega, Keep.wk (ids := []) ?_⟩
          · rw [List.take_add_one, List.take_add_one, h2, ha, hb]
          · simp only [push_cast, Nat.reduceEqDiff, Nat.reduceLT, Nat.reduceLeDiff, Nat.reduceAdd, Nat.reduceMul, Nat.reduceSub, Nat.reduceBEq, ↓reduceIte, reduceCtorEq] <;> rfl
      · have hi : i = xs.length := by omega
        subst hi
        rw [List.take_length, h, List.take_length] at h2
        exact congrArg T.b (decide_eq_true h2).symm

theorem eqRoom (a b : Room) : Con P0 39 [eRoom a, eRoom b] (.t (.b (decide (a = b)))) [] := by
  refine Con.intro (fn := Try.f39) [.tmp 4] (fun _ => (0, [])) mixed (by kernel_rfl) rfl (by decide) rfl (by rfl) (by kernel_rfl) ?_
  obtain ⟨a0⟩ := a
  obtain ⟨b0⟩ := b
  simp -implicitDefEqProofs (maxSteps := 2000000) only [push_cast, Nat.reduceEqDiff, Nat.reduceLT, Nat.reduceLeDiff, Nat.reduceAdd, Nat.reduceMul, Nat.reduceSub, Nat.reduceBEq, ↓reduceIte, reduceCtorEq, eRoom]
  refine Callx.closed (eqEventS a0 b0) rfl rfl (.inl rfl) ?_
  simp -implicitDefEqProofs (maxSteps := 2000000) only [push_cast, Nat.reduceEqDiff, Nat.reduceLT, Nat.reduceLeDiff, Nat.reduceAdd, Nat.reduceMul, Nat.reduceSub, Nat.reduceBEq, ↓reduceIte, reduceCtorEq, eRoom]
  split
  · simp_all
  rename_i h
  have h : a0 = b0 := by simpa using h
  subst h
  simp

theorem eqSpot (a b : Spot) : Con P0 155 [eSpot a, eSpot b] (.t (.b (decide (a = b)))) [] := by
  refine Con.intro (fn := Try.f155) [.tmp 4] (fun _ => (0, [])) mixed (by kernel_rfl) rfl (by decide) rfl (by rfl) (by kernel_rfl) ?_
  obtain ⟨a0, a1⟩ := a
  obtain ⟨b0, b1⟩ := b
  simp -implicitDefEqProofs (maxSteps := 2000000) only [push_cast, Nat.reduceEqDiff, Nat.reduceLT, Nat.reduceLeDiff, Nat.reduceAdd, Nat.reduceMul, Nat.reduceSub, Nat.reduceBEq, ↓reduceIte, reduceCtorEq, eSpot]
  split
  · simp_all
  rename_i h
  have h : a0 = b0 := by simpa using h
  subst h
  split
  · simp_all
  rename_i h
  have h : a1 = b1 := by simpa using h
  subst h
  simp

theorem eqSpotS (xs ys : List Spot) : Con P0 106 [eSpotS xs, eSpotS ys] (.t (.b (decide (xs = ys)))) [] := by
  refine Con.intro (fn := Try.f106) [.tmp 4] (fun i => if i = 6 then (10, []) else (0, [])) mixed (by kernel_rfl) rfl (by decide) rfl (by rfl) (by kernel_rfl) ?_
  simp -implicitDefEqProofs (maxSteps := 2000000) only [push_cast, Nat.reduceEqDiff, Nat.reduceLT, Nat.reduceLeDiff, Nat.reduceAdd, Nat.reduceMul, Nat.reduceSub, Nat.reduceBEq, ↓reduceIte, reduceCtorEq]
  intro _ _
  split
  · rename_i h
    exact congrArg T.b (decide_eq_false (fun e => h (by rw [e]))).symm
  · rename_i h
    have h : xs.length = ys.length := by omega
    refine WL.loop (ι := Nat) (D := (fun i => if i = 6 then (10, []) else (0, []))) (fun i => i ≤ xs.length ∧ xs.take i = ys.take i) (fun i => ⟨27, [(0, .t (eSpotS xs)), (1, .t (eSpotS ys)), (5, .t (.i .i64 i))], []⟩) (fun i => xs.length - i) mixed (by kernel_rfl) 0 ⟨by omega, by simp⟩ (Keep.wk (ids := []) ?_) ?_
    · simp only [push_cast, Nat.reduceEqDiff, Nat.reduceLT, Nat.reduceLeDiff, Nat.reduceAdd, Nat.reduceMul, Nat.reduceSub, Nat.reduceBEq, ↓reduceIte, reduceCtorEq] <;> rfl
    · rintro i ⟨h1, h2⟩
      simp -implicitDefEqProofs (maxSteps := 2000000) only [push_cast, Nat.reduceEqDiff, Nat.reduceLT, Nat.reduceLeDiff, Nat.reduceAdd, Nat.reduceMul, Nat.reduceSub, Nat.reduceBEq, ↓reduceIte, reduceCtorEq, eSpot_len, eSpot_isAg, eSpot_ones, eSpot_flat, eSpot_one]
      intro hB
      have := Bd.hi
      split
      · rename_i hi
        refine ⟨by omega, ?_⟩
        rw [Int.toNat_natCast]
        intro a ha
        try dsimp only
        refine ⟨by omega, ?_⟩
        intro b hb
        refine CallV.t (eqSpot a b) (.inl rfl) ?_
        simp -implicitDefEqProofs (maxSteps := 2000000) only [push_cast, Nat.reduceEqDiff, Nat.reduceLT, Nat.reduceLeDiff, Nat.reduceAdd, Nat.reduceMul, Nat.reduceSub, Nat.reduceBEq, ↓reduceIte, reduceCtorEq, eSpot_len, eSpot_isAg, eSpot_ones, eSpot_flat, eSpot_one]
        split
        · rename_i hne
          exact congrArg T.b (decide_eq_false (fun e => absurd hne (by rw [e, hb] at ha; simp [Option.some.inj ha]))).symm
        · rename_i he
          have he : a = b := by simpa using he
          subst he
          refine ⟨by unfold inI64; omega, i + 1, ⟨by omega, ?_⟩, by omega, Keep.wk (ids := []) ?_⟩
          · rw [List.take_add_one, List.take_add_one, h2, ha, hb]
          · simp only [push_cast, Nat.reduceEqDiff, Nat.reduceLT, Nat.reduceLeDiff, Nat.reduceAdd, Nat.reduceMul, Nat.reduceSub, Nat.reduceBEq, ↓reduceIte, reduceCtorEq] <;> rfl
      · have hi : i = xs.length := by omega
        subst hi
        rw [List.take_length, h, List.take_length] at h2
        exact congrArg T.b (decide_eq_true h2).symm

theorem eqCover (a b : Cover) : Con P0 38 [eCover a, eCover b] (.t (.b (decide (a = b)))) [] := by
  refine Con.intro (fn := Try.f38) [.tmp 4] (fun _ => (0, [])) mixed (by kernel_rfl) rfl (by decide) rfl (by rfl) (by kernel_rfl) ?_
  obtain ⟨a0, a1⟩ := a
  obtain ⟨b0, b1⟩ := b
  simp -implicitDefEqProofs (maxSteps := 2000000) only [push_cast, Nat.reduceEqDiff, Nat.reduceLT, Nat.reduceLeDiff, Nat.reduceAdd, Nat.reduceMul, Nat.reduceSub, Nat.reduceBEq, ↓reduceIte, reduceCtorEq, eCover]
  refine Callx.closed (eqSpotS a0 b0) rfl rfl (.inl rfl) ?_
  simp -implicitDefEqProofs (maxSteps := 2000000) only [push_cast, Nat.reduceEqDiff, Nat.reduceLT, Nat.reduceLeDiff, Nat.reduceAdd, Nat.reduceMul, Nat.reduceSub, Nat.reduceBEq, ↓reduceIte, reduceCtorEq, eCover]
  split
  · simp_all
  rename_i h
  have h : a0 = b0 := by simpa using h
  subst h
  refine Callx.closed (eqIntSS a1 b1) rfl rfl (.inl rfl) ?_
  simp -implicitDefEqProofs (maxSteps := 2000000) only [push_cast, Nat.reduceEqDiff, Nat.reduceLT, Nat.reduceLeDiff, Nat.reduceAdd, Nat.reduceMul, Nat.reduceSub, Nat.reduceBEq, ↓reduceIte, reduceCtorEq, eCover]
  split
  · simp_all
  rename_i h
  have h : a1 = b1 := by simpa using h
  subst h
  simp

theorem eqEntry (a b : Entry) : Con P0 93 [eEntry a, eEntry b] (.t (.b (decide (a = b)))) [] := by
  refine Con.intro (fn := Try.f93) [.tmp 4] (fun _ => (0, [])) mixed (by kernel_rfl) rfl (by decide) rfl (by rfl) (by kernel_rfl) ?_
  obtain ⟨a0, a1, a2⟩ := a
  obtain ⟨b0, b1, b2⟩ := b
  simp -implicitDefEqProofs (maxSteps := 2000000) only [push_cast, Nat.reduceEqDiff, Nat.reduceLT, Nat.reduceLeDiff, Nat.reduceAdd, Nat.reduceMul, Nat.reduceSub, Nat.reduceBEq, ↓reduceIte, reduceCtorEq, eEntry]
  split
  · simp_all
  rename_i h
  have h : a0 = b0 := by simpa using h
  subst h
  split
  · simp_all
  rename_i h
  have h : a1 = b1 := by simpa using h
  subst h
  split
  · simp_all
  rename_i h
  have h : a2 = b2 := by simpa using h
  subst h
  simp

theorem eqEntryS (xs ys : List Entry) : Con P0 30 [eEntryS xs, eEntryS ys] (.t (.b (decide (xs = ys)))) [] := by
  refine Con.intro (fn := Try.f30) [.tmp 4] (fun i => if i = 6 then (10, []) else (0, [])) mixed (by kernel_rfl) rfl (by decide) rfl (by rfl) (by kernel_rfl) ?_
  simp -implicitDefEqProofs (maxSteps := 2000000) only [push_cast, Nat.reduceEqDiff, Nat.reduceLT, Nat.reduceLeDiff, Nat.reduceAdd, Nat.reduceMul, Nat.reduceSub, Nat.reduceBEq, ↓reduceIte, reduceCtorEq]
  intro _ _
  split
  · rename_i h
    exact congrArg T.b (decide_eq_false (fun e => h (by rw [e]))).symm
  · rename_i h
    have h : xs.length = ys.length := by omega
    refine WL.loop (ι := Nat) (D := (fun i => if i = 6 then (10, []) else (0, []))) (fun i => i ≤ xs.length ∧ xs.take i = ys.take i) (fun i => ⟨27, [(0, .t (eEntryS xs)), (1, .t (eEntryS ys)), (5, .t (.i .i64 i))], []⟩) (fun i => xs.length - i) mixed (by kernel_rfl) 0 ⟨by omega, by simp⟩ (Keep.wk (ids := []) ?_) ?_
    · simp only [push_cast, Nat.reduceEqDiff, Nat.reduceLT, Nat.reduceLeDiff, Nat.reduceAdd, Nat.reduceMul, Nat.reduceSub, Nat.reduceBEq, ↓reduceIte, reduceCtorEq] <;> rfl
    · rintro i ⟨h1, h2⟩
      simp -implicitDefEqProofs (maxSteps := 2000000) only [push_cast, Nat.reduceEqDiff, Nat.reduceLT, Nat.reduceLeDiff, Nat.reduceAdd, Nat.reduceMul, Nat.reduceSub, Nat.reduceBEq, ↓reduceIte, reduceCtorEq, eEntry_len, eEntry_isAg, eEntry_ones, eEntry_flat, eEntry_one]
      intro hB
      have := Bd.hi
      split
      · rename_i hi
        refine ⟨by omega, ?_⟩
        rw [Int.toNat_natCast]
        intro a ha
        try dsimp only
        refine ⟨by omega, ?_⟩
        intro b hb
        refine CallV.t (eqEntry a b) (.inl rfl) ?_
        simp -implicitDefEqProofs (maxSteps := 2000000) only [push_cast, Nat.reduceEqDiff, Nat.reduceLT, Nat.reduceLeDiff, Nat.reduceAdd, Nat.reduceMul, Nat.reduceSub, Nat.reduceBEq, ↓reduceIte, reduceCtorEq, eEntry_len, eEntry_isAg, eEntry_ones, eEntry_flat, eEntry_one]
        split
        · rename_i hne
          exact congrArg T.b (decide_eq_false (fun e => absurd hne (by rw [e, hb] at ha; simp [Option.some.inj ha]))).symm
        · rename_i he
          have he : a = b := by simpa using he
          subst he
          refine ⟨by unfold inI64; omega, i + 1, ⟨by omega, ?_⟩, by omega, Keep.wk (ids := []) ?_⟩
          · rw [List.take_add_one, List.take_add_one, h2, ha, hb]
          · simp only [push_cast, Nat.reduceEqDiff, Nat.reduceLT, Nat.reduceLeDiff, Nat.reduceAdd, Nat.reduceMul, Nat.reduceSub, Nat.reduceBEq, ↓reduceIte, reduceCtorEq] <;> rfl
      · have hi : i = xs.length := by omega
        subst hi
        rw [List.take_length, h, List.take_length] at h2
        exact congrArg T.b (decide_eq_true h2).symm

theorem eqEntrySS (xs ys : List (List Entry)) : Con P0 57 [eEntrySS xs, eEntrySS ys] (.t (.b (decide (xs = ys)))) [] := by
  refine Con.intro (fn := Try.f57) [.tmp 4] (fun i => if i = 6 then (10, []) else (0, [])) mixed (by kernel_rfl) rfl (by decide) rfl (by rfl) (by kernel_rfl) ?_
  simp -implicitDefEqProofs (maxSteps := 2000000) only [push_cast, Nat.reduceEqDiff, Nat.reduceLT, Nat.reduceLeDiff, Nat.reduceAdd, Nat.reduceMul, Nat.reduceSub, Nat.reduceBEq, ↓reduceIte, reduceCtorEq]
  intro _ _
  split
  · rename_i h
    exact congrArg T.b (decide_eq_false (fun e => h (by rw [e]))).symm
  · rename_i h
    have h : xs.length = ys.length := by omega
    refine WL.loop (ι := Nat) (D := (fun i => if i = 6 then (10, []) else (0, []))) (fun i => i ≤ xs.length ∧ xs.take i = ys.take i) (fun i => ⟨27, [(0, .t (eEntrySS xs)), (1, .t (eEntrySS ys)), (5, .t (.i .i64 i))], []⟩) (fun i => xs.length - i) mixed (by kernel_rfl) 0 ⟨by omega, by simp⟩ (Keep.wk (ids := []) ?_) ?_
    · simp only [push_cast, Nat.reduceEqDiff, Nat.reduceLT, Nat.reduceLeDiff, Nat.reduceAdd, Nat.reduceMul, Nat.reduceSub, Nat.reduceBEq, ↓reduceIte, reduceCtorEq] <;> rfl
    · rintro i ⟨h1, h2⟩
      simp -implicitDefEqProofs (maxSteps := 2000000) only [push_cast, Nat.reduceEqDiff, Nat.reduceLT, Nat.reduceLeDiff, Nat.reduceAdd, Nat.reduceMul, Nat.reduceSub, Nat.reduceBEq, ↓reduceIte, reduceCtorEq]
      intro hB
      have := Bd.hi
      split
      · rename_i hi
        refine ⟨by omega, ?_⟩
        rw [Int.toNat_natCast]
        intro a ha
        try dsimp only
        refine ⟨by omega, fun b hb => CallV.t (eqEntryS a b) (.inl rfl) ?_⟩
        simp -implicitDefEqProofs (maxSteps := 2000000) only [push_cast, Nat.reduceEqDiff, Nat.reduceLT, Nat.reduceLeDiff, Nat.reduceAdd, Nat.reduceMul, Nat.reduceSub, Nat.reduceBEq, ↓reduceIte, reduceCtorEq]
        split
        · rename_i hne
          exact congrArg T.b (decide_eq_false (fun e => absurd hne (by rw [e, hb] at ha; simp [Option.some.inj ha]))).symm
        · rename_i he
          have he : a = b := by simpa using he
          subst he
          refine ⟨by unfold inI64; omega, i + 1, ⟨by omega, ?_⟩, by omega, Keep.wk (ids := []) ?_⟩
          · rw [List.take_add_one, List.take_add_one, h2, ha, hb]
          · simp only [push_cast, Nat.reduceEqDiff, Nat.reduceLT, Nat.reduceLeDiff, Nat.reduceAdd, Nat.reduceMul, Nat.reduceSub, Nat.reduceBEq, ↓reduceIte, reduceCtorEq] <;> rfl
      · have hi : i = xs.length := by omega
        subst hi
        rw [List.take_length, h, List.take_length] at h2
        exact congrArg T.b (decide_eq_true h2).symm

theorem eqGroup (a b : Group) : Con P0 148 [eGroup a, eGroup b] (.t (.b (decide (a = b)))) [] := by
  refine Con.intro (fn := Try.f148) [.tmp 4] (fun _ => (0, [])) mixed (by kernel_rfl) rfl (by decide) rfl (by rfl) (by kernel_rfl) ?_
  obtain ⟨a0, a1⟩ := a
  obtain ⟨b0, b1⟩ := b
  simp -implicitDefEqProofs (maxSteps := 2000000) only [push_cast, Nat.reduceEqDiff, Nat.reduceLT, Nat.reduceLeDiff, Nat.reduceAdd, Nat.reduceMul, Nat.reduceSub, Nat.reduceBEq, ↓reduceIte, reduceCtorEq, eGroup]
  split
  · simp_all
  rename_i h
  have h : a0 = b0 := by simpa using h
  subst h
  refine Callx.closed (eqEntryS a1 b1) rfl rfl (.inl rfl) ?_
  simp -implicitDefEqProofs (maxSteps := 2000000) only [push_cast, Nat.reduceEqDiff, Nat.reduceLT, Nat.reduceLeDiff, Nat.reduceAdd, Nat.reduceMul, Nat.reduceSub, Nat.reduceBEq, ↓reduceIte, reduceCtorEq, eGroup]
  split
  · simp_all
  rename_i h
  have h : a1 = b1 := by simpa using h
  subst h
  simp

theorem eqGroupS (xs ys : List Group) : Con P0 92 [eGroupS xs, eGroupS ys] (.t (.b (decide (xs = ys)))) [] := by
  refine Con.intro (fn := Try.f92) [.tmp 4] (fun i => if i = 6 then (10, []) else (0, [])) mixed (by kernel_rfl) rfl (by decide) rfl (by rfl) (by kernel_rfl) ?_
  simp -implicitDefEqProofs (maxSteps := 2000000) only [push_cast, Nat.reduceEqDiff, Nat.reduceLT, Nat.reduceLeDiff, Nat.reduceAdd, Nat.reduceMul, Nat.reduceSub, Nat.reduceBEq, ↓reduceIte, reduceCtorEq]
  intro _ _
  split
  · rename_i h
    exact congrArg T.b (decide_eq_false (fun e => h (by rw [e]))).symm
  · rename_i h
    have h : xs.length = ys.length := by omega
    refine WL.loop (ι := Nat) (D := (fun i => if i = 6 then (10, []) else (0, []))) (fun i => i ≤ xs.length ∧ xs.take i = ys.take i) (fun i => ⟨27, [(0, .t (eGroupS xs)), (1, .t (eGroupS ys)), (5, .t (.i .i64 i))], []⟩) (fun i => xs.length - i) mixed (by kernel_rfl) 0 ⟨by omega, by simp⟩ (Keep.wk (ids := []) ?_) ?_
    · simp only [push_cast, Nat.reduceEqDiff, Nat.reduceLT, Nat.reduceLeDiff, Nat.reduceAdd, Nat.reduceMul, Nat.reduceSub, Nat.reduceBEq, ↓reduceIte, reduceCtorEq] <;> rfl
    · rintro i ⟨h1, h2⟩
      simp -implicitDefEqProofs (maxSteps := 2000000) only [push_cast, Nat.reduceEqDiff, Nat.reduceLT, Nat.reduceLeDiff, Nat.reduceAdd, Nat.reduceMul, Nat.reduceSub, Nat.reduceBEq, ↓reduceIte, reduceCtorEq, eGroup_len, eGroup_isAg, eGroup_ones, eGroup_one]
      intro hB
      have := Bd.hi
      split
      · rename_i hi
        refine ⟨by omega, ?_⟩
        rw [Int.toNat_natCast]
        intro a ha
        try dsimp only
        refine ⟨by omega, ?_⟩
        intro b hb
        refine CallV.t (eqGroup a b) (.inl rfl) ?_
        simp -implicitDefEqProofs (maxSteps := 2000000) only [push_cast, Nat.reduceEqDiff, Nat.reduceLT, Nat.reduceLeDiff, Nat.reduceAdd, Nat.reduceMul, Nat.reduceSub, Nat.reduceBEq, ↓reduceIte, reduceCtorEq, eGroup_len, eGroup_isAg, eGroup_ones, eGroup_one]
        split
        · rename_i hne
          exact congrArg T.b (decide_eq_false (fun e => absurd hne (by rw [e, hb] at ha; simp [Option.some.inj ha]))).symm
        · rename_i he
          have he : a = b := by simpa using he
          subst he
          refine ⟨by unfold inI64; omega, i + 1, ⟨by omega, ?_⟩, by omega, Keep.wk (ids := []) ?_⟩
          · rw [List.take_add_one, List.take_add_one, h2, ha, hb]
          · simp only [push_cast, Nat.reduceEqDiff, Nat.reduceLT, Nat.reduceLeDiff, Nat.reduceAdd, Nat.reduceMul, Nat.reduceSub, Nat.reduceBEq, ↓reduceIte, reduceCtorEq] <;> rfl
      · have hi : i = xs.length := by omega
        subst hi
        rw [List.take_length, h, List.take_length] at h2
        exact congrArg T.b (decide_eq_true h2).symm

theorem eqStore (a b : Store) : Con P0 29 [eStore a, eStore b] (.t (.b (decide (a = b)))) [] := by
  refine Con.intro (fn := Try.f29) [.tmp 4] (fun _ => (0, [])) mixed (by kernel_rfl) rfl (by decide) rfl (by rfl) (by kernel_rfl) ?_
  obtain ⟨a0⟩ := a
  obtain ⟨b0⟩ := b
  simp -implicitDefEqProofs (maxSteps := 2000000) only [push_cast, Nat.reduceEqDiff, Nat.reduceLT, Nat.reduceLeDiff, Nat.reduceAdd, Nat.reduceMul, Nat.reduceSub, Nat.reduceBEq, ↓reduceIte, reduceCtorEq, eStore]
  refine Callx.closed (eqGroupS a0 b0) rfl rfl (.inl rfl) ?_
  simp -implicitDefEqProofs (maxSteps := 2000000) only [push_cast, Nat.reduceEqDiff, Nat.reduceLT, Nat.reduceLeDiff, Nat.reduceAdd, Nat.reduceMul, Nat.reduceSub, Nat.reduceBEq, ↓reduceIte, reduceCtorEq, eStore]
  split
  · simp_all
  rename_i h
  have h : a0 = b0 := by simpa using h
  subst h
  simp

theorem eqSlot (a b : Slot) : Con P0 126 [eSlot a, eSlot b] (.t (.b (decide (a = b)))) [] := by
  refine Con.intro (fn := Try.f126) [.tmp 4] (fun _ => (0, [])) mixed (by kernel_rfl) rfl (by decide) rfl (by rfl) (by kernel_rfl) ?_
  obtain ⟨a0, a1⟩ := a
  obtain ⟨b0, b1⟩ := b
  simp -implicitDefEqProofs (maxSteps := 2000000) only [push_cast, Nat.reduceEqDiff, Nat.reduceLT, Nat.reduceLeDiff, Nat.reduceAdd, Nat.reduceMul, Nat.reduceSub, Nat.reduceBEq, ↓reduceIte, reduceCtorEq, eSlot]
  split
  · simp_all
  rename_i h
  have h : a0 = b0 := by simpa using h
  subst h
  split
  · simp_all
  rename_i h
  have h : a1 = b1 := by simpa using h
  subst h
  simp

theorem eqSlotS (xs ys : List Slot) : Con P0 47 [eSlotS xs, eSlotS ys] (.t (.b (decide (xs = ys)))) [] := by
  refine Con.intro (fn := Try.f47) [.tmp 4] (fun i => if i = 6 then (10, []) else (0, [])) mixed (by kernel_rfl) rfl (by decide) rfl (by rfl) (by kernel_rfl) ?_
  simp -implicitDefEqProofs (maxSteps := 2000000) only [push_cast, Nat.reduceEqDiff, Nat.reduceLT, Nat.reduceLeDiff, Nat.reduceAdd, Nat.reduceMul, Nat.reduceSub, Nat.reduceBEq, ↓reduceIte, reduceCtorEq]
  intro _ _
  split
  · rename_i h
    exact congrArg T.b (decide_eq_false (fun e => h (by rw [e]))).symm
  · rename_i h
    have h : xs.length = ys.length := by omega
    refine WL.loop (ι := Nat) (D := (fun i => if i = 6 then (10, []) else (0, []))) (fun i => i ≤ xs.length ∧ xs.take i = ys.take i) (fun i => ⟨27, [(0, .t (eSlotS xs)), (1, .t (eSlotS ys)), (5, .t (.i .i64 i))], []⟩) (fun i => xs.length - i) mixed (by kernel_rfl) 0 ⟨by omega, by simp⟩ (Keep.wk (ids := []) ?_) ?_
    · simp only [push_cast, Nat.reduceEqDiff, Nat.reduceLT, Nat.reduceLeDiff, Nat.reduceAdd, Nat.reduceMul, Nat.reduceSub, Nat.reduceBEq, ↓reduceIte, reduceCtorEq] <;> rfl
    · rintro i ⟨h1, h2⟩
      simp -implicitDefEqProofs (maxSteps := 2000000) only [push_cast, Nat.reduceEqDiff, Nat.reduceLT, Nat.reduceLeDiff, Nat.reduceAdd, Nat.reduceMul, Nat.reduceSub, Nat.reduceBEq, ↓reduceIte, reduceCtorEq, eSlot_len, eSlot_isAg, eSlot_ones, eSlot_flat, eSlot_one]
      intro hB
      have := Bd.hi
      split
      · rename_i hi
        refine ⟨by omega, ?_⟩
        rw [Int.toNat_natCast]
        intro a ha
        try dsimp only
        refine ⟨by omega, ?_⟩
        intro b hb
        refine CallV.t (eqSlot a b) (.inl rfl) ?_
        simp -implicitDefEqProofs (maxSteps := 2000000) only [push_cast, Nat.reduceEqDiff, Nat.reduceLT, Nat.reduceLeDiff, Nat.reduceAdd, Nat.reduceMul, Nat.reduceSub, Nat.reduceBEq, ↓reduceIte, reduceCtorEq, eSlot_len, eSlot_isAg, eSlot_ones, eSlot_flat, eSlot_one]
        split
        · rename_i hne
          exact congrArg T.b (decide_eq_false (fun e => absurd hne (by rw [e, hb] at ha; simp [Option.some.inj ha]))).symm
        · rename_i he
          have he : a = b := by simpa using he
          subst he
          refine ⟨by unfold inI64; omega, i + 1, ⟨by omega, ?_⟩, by omega, Keep.wk (ids := []) ?_⟩
          · rw [List.take_add_one, List.take_add_one, h2, ha, hb]
          · simp only [push_cast, Nat.reduceEqDiff, Nat.reduceLT, Nat.reduceLeDiff, Nat.reduceAdd, Nat.reduceMul, Nat.reduceSub, Nat.reduceBEq, ↓reduceIte, reduceCtorEq] <;> rfl
      · have hi : i = xs.length := by omega
        subst hi
        rw [List.take_length, h, List.take_length] at h2
        exact congrArg T.b (decide_eq_true h2).symm

end Go.Proofs.Ythhgcklidfilfaa.BX
