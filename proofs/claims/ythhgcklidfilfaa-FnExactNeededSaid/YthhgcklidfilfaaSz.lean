/-
  The functions 'laws.sz..': how much is left behind a value's size.
-/
import Derived.Test.YthhgcklidfilfaaDa
namespace Go.Proofs.Ythhgcklidfilfaa.BX
set_option linter.unusedSectionVars false
set_option linter.unusedSimpArgs false
set_option linter.unusedVariables false
open Go Go.RowKit
set_option maxRecDepth 20000
set_option maxHeartbeats 400000
variable [Bd]

theorem szStringS (x : List (List UInt8)) (n : Int) (h0 : 0 ≤ n) (hn : n ≤ 1048576) : Con P0 114 [eStringS x, .i .i64 n] (.t (.i .i64 (szR (eStringS x).wt n))) [] := by
  refine Con.intro (fn := Try.f114) [.tmp 4] (fun _ => (0, [])) mixed (by kernel_rfl) rfl (by decide) rfl (by rfl) (by kernel_rfl) ?_
  have hw : (eStringS x).wt = x.length + wts (x.map T.s) := by simp only [eStringS, T.wt, List.length_map]
  simp -implicitDefEqProofs (maxSteps := 2000000) only [push_cast, Nat.reduceEqDiff, Nat.reduceLT, Nat.reduceLeDiff, Nat.reduceAdd, Nat.reduceMul, Nat.reduceSub, Nat.reduceBEq, ↓reduceIte, reduceCtorEq]
  intro hl
  have := Bd.hi
  refine ⟨by unfold inI64; omega, ?_⟩
  split
  · rename_i h
    exact congrArg (T.i .i64) (szR_neg (by rw [hw]; omega)).symm
  rename_i h
  refine WL.loop (ι := Nat) (D := (fun _ => (0, []))) (fun i => i ≤ x.length ∧ (x.length : Int) + wts ((x.take i).map T.s) ≤ n) (fun i => ⟨28, [(0, .t (eStringS x)), (1, .t (.i .i64 (n - x.length - wts ((x.take i).map T.s)))), (5, .t (.i .i64 i))], []⟩) (fun i => x.length - i) mixed (by kernel_rfl) 0 ⟨by omega, by simp [wts]; omega⟩ (Keep.wk (ids := []) ?_) ?_
  · simp only [push_cast, Nat.reduceEqDiff, Nat.reduceLT, Nat.reduceLeDiff, Nat.reduceAdd, Nat.reduceMul, Nat.reduceSub, Nat.reduceBEq, ↓reduceIte, reduceCtorEq, List.take_zero, wts]; simp
  · rintro i ⟨hi, hc⟩
    simp -implicitDefEqProofs (maxSteps := 2000000) only [push_cast, Nat.reduceEqDiff, Nat.reduceLT, Nat.reduceLeDiff, Nat.reduceAdd, Nat.reduceMul, Nat.reduceSub, Nat.reduceBEq, ↓reduceIte, reduceCtorEq]
    intro _
    split
    · rename_i h
      refine ⟨by omega, ?_⟩
      rw [Int.toNat_natCast]
      intro a ha
      try dsimp only
      intro hal
      have hstep := wts_take (f := T.s) ha
      have hle := wts_take_le (f := T.s) x (i + 1)
      refine ⟨by unfold inI64; omega, ?_⟩
      split
      · rename_i hneg
        exact congrArg (T.i .i64) (szR_neg (by rw [hw]; simp only [T.wt] at hstep; omega)).symm
      rename_i hneg
      simp only [T.wt] at hstep
      refine ⟨by unfold inI64; omega, i + 1, ⟨by omega, by omega⟩, by omega, Keep.wk (ids := []) ?_⟩
      simp only [push_cast, Nat.reduceEqDiff, Nat.reduceLT, Nat.reduceLeDiff, Nat.reduceAdd, Nat.reduceMul, Nat.reduceSub, Nat.reduceBEq, ↓reduceIte, reduceCtorEq, T.i.injEq, AV.t.injEq]
      first | exact ⟨by omega, by omega⟩ | omega
    · have hi : i = x.length := by omega
      subst hi
      rw [List.take_length] at hc ⊢
      exact congrArg (T.i .i64) (by rw [hw, szR_pos (by omega)] <;> omega)

theorem szGrant (x : Grant) (n : Int) (h0 : 0 ≤ n) (hn : n ≤ 1048576) : Con P0 159 [eGrant x, .i .i64 n] (.t (.i .i64 (szR (eGrant x).wt n))) [] := by
  refine Con.intro (fn := Try.f159) [.tmp 4] (fun _ => (0, [])) mixed (by kernel_rfl) rfl (by decide) rfl (by rfl) (by kernel_rfl) ?_
  have hw : (eGrant x).wt = x.name.length := by simp only [eGrant, T.wt, wts] <;> omega
  rw [hw]
  have := Bd.hi
  simp -implicitDefEqProofs (maxSteps := 2000000) only [push_cast, Nat.reduceEqDiff, Nat.reduceLT, Nat.reduceLeDiff, Nat.reduceAdd, Nat.reduceMul, Nat.reduceSub, Nat.reduceBEq, ↓reduceIte, reduceCtorEq, eGrant]
  intro _
  refine ⟨by unfold inI64; omega, ?_⟩
  split
  · exact congrArg (T.i .i64) (szR_neg (by omega)).symm
  first | trivial | exact congrArg (T.i .i64) (by rw [szR_pos (by omega)] <;> omega)

theorem szGrantS (x : List Grant) (n : Int) (h0 : 0 ≤ n) (hn : n ≤ 1048576) : Con P0 115 [eGrantS x, .i .i64 n] (.t (.i .i64 (szR (eGrantS x).wt n))) [] := by
  refine Con.intro (fn := Try.f115) [.tmp 4] (fun _ => (0, [])) mixed (by kernel_rfl) rfl (by decide) rfl (by rfl) (by kernel_rfl) ?_
  have hw : (eGrantS x).wt = x.length + wts (x.map eGrant) := by simp only [eGrantS, T.wt, List.length_map]
  simp -implicitDefEqProofs (maxSteps := 2000000) only [push_cast, Nat.reduceEqDiff, Nat.reduceLT, Nat.reduceLeDiff, Nat.reduceAdd, Nat.reduceMul, Nat.reduceSub, Nat.reduceBEq, ↓reduceIte, reduceCtorEq]
  intro hl
  have := Bd.hi
  refine ⟨by unfold inI64; omega, ?_⟩
  split
  · rename_i h
    exact congrArg (T.i .i64) (szR_neg (by rw [hw]; omega)).symm
  rename_i h
  refine WL.loop (ι := Nat) (D := (fun _ => (0, []))) (fun i => i ≤ x.length ∧ (x.length : Int) + wts ((x.take i).map eGrant) ≤ n) (fun i => ⟨27, [(0, .t (eGrantS x)), (1, .t (.i .i64 (n - x.length - wts ((x.take i).map eGrant)))), (5, .t (.i .i64 i))], []⟩) (fun i => x.length - i) mixed (by kernel_rfl) 0 ⟨by omega, by simp [wts]; omega⟩ (Keep.wk (ids := []) ?_) ?_
  · simp only [push_cast, Nat.reduceEqDiff, Nat.reduceLT, Nat.reduceLeDiff, Nat.reduceAdd, Nat.reduceMul, Nat.reduceSub, Nat.reduceBEq, ↓reduceIte, reduceCtorEq, List.take_zero, wts]; simp
  · rintro i ⟨hi, hc⟩
    simp -implicitDefEqProofs (maxSteps := 2000000) only [push_cast, Nat.reduceEqDiff, Nat.reduceLT, Nat.reduceLeDiff, Nat.reduceAdd, Nat.reduceMul, Nat.reduceSub, Nat.reduceBEq, ↓reduceIte, reduceCtorEq, eGrant_len, eGrant_isAg, eGrant_ones, eGrant_flat, eGrant_one]
    intro _
    split
    · rename_i h
      refine ⟨by omega, ?_⟩
      rw [Int.toNat_natCast]
      intro a ha
      try dsimp only
      have hstep := wts_take (f := eGrant) ha
      have hle := wts_take_le (f := eGrant) x (i + 1)
      refine Callx.closed (szGrant a _ (by omega) (by omega)) rfl rfl (.inl rfl) ?_
      simp -implicitDefEqProofs (maxSteps := 2000000) only [push_cast, Nat.reduceEqDiff, Nat.reduceLT, Nat.reduceLeDiff, Nat.reduceAdd, Nat.reduceMul, Nat.reduceSub, Nat.reduceBEq, ↓reduceIte, reduceCtorEq]
      rcases szR_cases (eGrant a).wt (n - x.length - wts ((x.take i).map eGrant)) with ⟨g1, g2⟩ | ⟨g1, g2⟩
      · simp only [g2]
        rw [if_neg (by omega)]
        refine ⟨by unfold inI64; omega, i + 1, ⟨by omega, by omega⟩, by omega, Keep.wk (ids := []) ?_⟩
        simp only [push_cast, Nat.reduceEqDiff, Nat.reduceLT, Nat.reduceLeDiff, Nat.reduceAdd, Nat.reduceMul, Nat.reduceSub, Nat.reduceBEq, ↓reduceIte, reduceCtorEq, T.i.injEq, AV.t.injEq]
        first | exact ⟨by omega, by omega⟩ | omega
      · simp only [g2]
        rw [if_pos (by omega)]
        exact congrArg (T.i .i64) (szR_neg (by rw [hw]; omega)).symm
    · have hi : i = x.length := by omega
      subst hi
      rw [List.take_length] at hc ⊢
      exact congrArg (T.i .i64) (by rw [hw, szR_pos (by omega)] <;> omega)

theorem szEvent (x : Event) (n : Int) (h0 : 0 ≤ n) (hn : n ≤ 1048576) : Con P0 43 [eEvent x, .i .i64 n] (.t (.i .i64 (szR (eEvent x).wt n))) [] := by
  refine Con.intro (fn := Try.f43) [.tmp 4] (fun _ => (0, [])) mixed (by kernel_rfl) rfl (by decide) rfl (by rfl) (by kernel_rfl) ?_
  have hw : (eEvent x).wt = x.id.length + x.sender.length + x.typ.length + x.key.length + (eStringS x.prev).wt + (eStringS x.auth).wt + x.value.length + (eGrantS x.grants).wt := by simp only [eEvent, T.wt, wts] <;> omega
  rw [hw]
  have := Bd.hi
  simp -implicitDefEqProofs (maxSteps := 2000000) only [push_cast, Nat.reduceEqDiff, Nat.reduceLT, Nat.reduceLeDiff, Nat.reduceAdd, Nat.reduceMul, Nat.reduceSub, Nat.reduceBEq, ↓reduceIte, reduceCtorEq, eEvent]
  intro _
  refine ⟨by unfold inI64; omega, ?_⟩
  split
  · exact congrArg (T.i .i64) (szR_neg (by omega)).symm
  intro _
  refine ⟨by unfold inI64; omega, ?_⟩
  split
  · exact congrArg (T.i .i64) (szR_neg (by omega)).symm
  intro _
  refine ⟨by unfold inI64; omega, ?_⟩
  split
  · exact congrArg (T.i .i64) (szR_neg (by omega)).symm
  intro _
  refine ⟨by unfold inI64; omega, ?_⟩
  split
  · exact congrArg (T.i .i64) (szR_neg (by omega)).symm
  refine Callx.closed (szStringS x.prev _ (by omega) (by omega)) rfl rfl (.inl rfl) ?_
  simp -implicitDefEqProofs (maxSteps := 2000000) only [push_cast, Nat.reduceEqDiff, Nat.reduceLT, Nat.reduceLeDiff, Nat.reduceAdd, Nat.reduceMul, Nat.reduceSub, Nat.reduceBEq, ↓reduceIte, reduceCtorEq, eEvent]
  rcases szR_cases (eStringS x.prev).wt (n - x.id.length - x.sender.length - x.typ.length - x.key.length) with ⟨g1, g2⟩ | ⟨g1, g2⟩
  rotate_left
  · simp only [g2]
    rw [if_pos (by omega)]
    first | trivial | exact congrArg (T.i .i64) (szR_neg (by omega)).symm
  simp only [g2]
  rw [if_neg (by omega)]
  clear g2
  refine Callx.closed (szStringS x.auth _ (by omega) (by omega)) rfl rfl (.inl rfl) ?_
  simp -implicitDefEqProofs (maxSteps := 2000000) only [push_cast, Nat.reduceEqDiff, Nat.reduceLT, Nat.reduceLeDiff, Nat.reduceAdd, Nat.reduceMul, Nat.reduceSub, Nat.reduceBEq, ↓reduceIte, reduceCtorEq, eEvent]
  rcases szR_cases (eStringS x.auth).wt (n - x.id.length - x.sender.length - x.typ.length - x.key.length - (eStringS x.prev).wt) with ⟨g1, g2⟩ | ⟨g1, g2⟩
  rotate_left
  · simp only [g2]
    rw [if_pos (by omega)]
    first | trivial | exact congrArg (T.i .i64) (szR_neg (by omega)).symm
  simp only [g2]
  rw [if_neg (by omega)]
  clear g2
  intro _
  refine ⟨by unfold inI64; omega, ?_⟩
  split
  · exact congrArg (T.i .i64) (szR_neg (by omega)).symm
  refine Callx.closed (szGrantS x.grants _ (by omega) (by omega)) rfl rfl (.inl rfl) ?_
  simp -implicitDefEqProofs (maxSteps := 2000000) only [push_cast, Nat.reduceEqDiff, Nat.reduceLT, Nat.reduceLeDiff, Nat.reduceAdd, Nat.reduceMul, Nat.reduceSub, Nat.reduceBEq, ↓reduceIte, reduceCtorEq, eEvent]
  rcases szR_cases (eGrantS x.grants).wt (n - x.id.length - x.sender.length - x.typ.length - x.key.length - (eStringS x.prev).wt - (eStringS x.auth).wt - x.value.length) with ⟨g1, g2⟩ | ⟨g1, g2⟩
  rotate_left
  · simp only [g2]
    rw [if_pos (by omega)]
    first | trivial | exact congrArg (T.i .i64) (szR_neg (by omega)).symm
  simp only [g2]
  rw [if_neg (by omega)]
  clear g2
  first | trivial | exact congrArg (T.i .i64) (by rw [szR_pos (by omega)] <;> omega)

theorem szEventS (x : List Event) (n : Int) (h0 : 0 ≤ n) (hn : n ≤ 1048576) : Con P0 97 [eEventS x, .i .i64 n] (.t (.i .i64 (szR (eEventS x).wt n))) [] := by
  refine Con.intro (fn := Try.f97) [.tmp 4] (fun _ => (0, [])) mixed (by kernel_rfl) rfl (by decide) rfl (by rfl) (by kernel_rfl) ?_
  have hw : (eEventS x).wt = x.length + wts (x.map eEvent) := by simp only [eEventS, T.wt, List.length_map]
  simp -implicitDefEqProofs (maxSteps := 2000000) only [push_cast, Nat.reduceEqDiff, Nat.reduceLT, Nat.reduceLeDiff, Nat.reduceAdd, Nat.reduceMul, Nat.reduceSub, Nat.reduceBEq, ↓reduceIte, reduceCtorEq]
  intro hl
  have := Bd.hi
  refine ⟨by unfold inI64; omega, ?_⟩
  split
  · rename_i h
    exact congrArg (T.i .i64) (szR_neg (by rw [hw]; omega)).symm
  rename_i h
  refine WL.loop (ι := Nat) (D := (fun _ => (0, []))) (fun i => i ≤ x.length ∧ (x.length : Int) + wts ((x.take i).map eEvent) ≤ n) (fun i => ⟨27, [(0, .t (eEventS x)), (1, .t (.i .i64 (n - x.length - wts ((x.take i).map eEvent)))), (5, .t (.i .i64 i))], []⟩) (fun i => x.length - i) mixed (by kernel_rfl) 0 ⟨by omega, by simp [wts]; omega⟩ (Keep.wk (ids := []) ?_) ?_
  · simp only [push_cast, Nat.reduceEqDiff, Nat.reduceLT, Nat.reduceLeDiff, Nat.reduceAdd, Nat.reduceMul, Nat.reduceSub, Nat.reduceBEq, ↓reduceIte, reduceCtorEq, List.take_zero, wts]; simp
  · rintro i ⟨hi, hc⟩
    simp -implicitDefEqProofs (maxSteps := 2000000) only [push_cast, Nat.reduceEqDiff, Nat.reduceLT, Nat.reduceLeDiff, Nat.reduceAdd, Nat.reduceMul, Nat.reduceSub, Nat.reduceBEq, ↓reduceIte, reduceCtorEq, eEvent_len, eEvent_isAg, eEvent_ones, eEvent_one]
    intro _
    split
    · rename_i h
      refine ⟨by omega, ?_⟩
      rw [Int.toNat_natCast]
      intro a ha
      try dsimp only
      have hstep := wts_take (f := eEvent) ha
      have hle := wts_take_le (f := eEvent) x (i + 1)
      refine Callx.closed (szEvent a _ (by omega) (by omega)) rfl rfl (.inl rfl) ?_
      simp -implicitDefEqProofs (maxSteps := 2000000) only [push_cast, Nat.reduceEqDiff, Nat.reduceLT, Nat.reduceLeDiff, Nat.reduceAdd, Nat.reduceMul, Nat.reduceSub, Nat.reduceBEq, ↓reduceIte, reduceCtorEq]
      rcases szR_cases (eEvent a).wt (n - x.length - wts ((x.take i).map eEvent)) with ⟨g1, g2⟩ | ⟨g1, g2⟩
      · simp only [g2]
        rw [if_neg (by omega)]
        refine ⟨by unfold inI64; omega, i + 1, ⟨by omega, by omega⟩, by omega, Keep.wk (ids := []) ?_⟩
        simp only [push_cast, Nat.reduceEqDiff, Nat.reduceLT, Nat.reduceLeDiff, Nat.reduceAdd, Nat.reduceMul, Nat.reduceSub, Nat.reduceBEq, ↓reduceIte, reduceCtorEq, T.i.injEq, AV.t.injEq]
        first | exact ⟨by omega, by omega⟩ | omega
      · simp only [g2]
        rw [if_pos (by omega)]
        exact congrArg (T.i .i64) (szR_neg (by rw [hw]; omega)).symm
    · have hi : i = x.length := by omega
      subst hi
      rw [List.take_length] at hc ⊢
      exact congrArg (T.i .i64) (by rw [hw, szR_pos (by omega)] <;> omega)

theorem szRoom (x : Room) (n : Int) (h0 : 0 ≤ n) (hn : n ≤ 1048576) : Con P0 34 [eRoom x, .i .i64 n] (.t (.i .i64 (szR (eRoom x).wt n))) [] := by
  refine Con.intro (fn := Try.f34) [.tmp 4] (fun _ => (0, [])) mixed (by kernel_rfl) rfl (by decide) rfl (by rfl) (by kernel_rfl) ?_
  have hw : (eRoom x).wt = (eEventS x.events).wt := by simp only [eRoom, T.wt, wts] <;> omega
  rw [hw]
  have := Bd.hi
  simp -implicitDefEqProofs (maxSteps := 2000000) only [push_cast, Nat.reduceEqDiff, Nat.reduceLT, Nat.reduceLeDiff, Nat.reduceAdd, Nat.reduceMul, Nat.reduceSub, Nat.reduceBEq, ↓reduceIte, reduceCtorEq, eRoom]
  refine Callx.closed (szEventS x.events _ (by omega) (by omega)) rfl rfl (.inl rfl) ?_
  simp -implicitDefEqProofs (maxSteps := 2000000) only [push_cast, Nat.reduceEqDiff, Nat.reduceLT, Nat.reduceLeDiff, Nat.reduceAdd, Nat.reduceMul, Nat.reduceSub, Nat.reduceBEq, ↓reduceIte, reduceCtorEq, eRoom]
  rcases szR_cases (eEventS x.events).wt (n) with ⟨g1, g2⟩ | ⟨g1, g2⟩
  rotate_left
  · simp only [g2]
    rw [if_pos (by omega)]
    first | trivial | exact congrArg (T.i .i64) (szR_neg (by omega)).symm
  simp only [g2]
  rw [if_neg (by omega)]
  clear g2
  first | trivial | exact congrArg (T.i .i64) (by rw [szR_pos (by omega)] <;> omega)

theorem szEntry (x : Entry) (n : Int) (h0 : 0 ≤ n) (hn : n ≤ 1048576) : Con P0 89 [eEntry x, .i .i64 n] (.t (.i .i64 (szR (eEntry x).wt n))) [] := by
  refine Con.intro (fn := Try.f89) [.tmp 4] (fun _ => (0, [])) mixed (by kernel_rfl) rfl (by decide) rfl (by rfl) (by kernel_rfl) ?_
  have hw : (eEntry x).wt = x.typ.length + x.key.length + x.id.length := by simp only [eEntry, T.wt, wts] <;> omega
  rw [hw]
  have := Bd.hi
  simp -implicitDefEqProofs (maxSteps := 2000000) only [push_cast, Nat.reduceEqDiff, Nat.reduceLT, Nat.reduceLeDiff, Nat.reduceAdd, Nat.reduceMul, Nat.reduceSub, Nat.reduceBEq, ↓reduceIte, reduceCtorEq, eEntry]
  intro _
  refine ⟨by unfold inI64; omega, ?_⟩
  split
  · exact congrArg (T.i .i64) (szR_neg (by omega)).symm
  intro _
  refine ⟨by unfold inI64; omega, ?_⟩
  split
  · exact congrArg (T.i .i64) (szR_neg (by omega)).symm
  intro _
  refine ⟨by unfold inI64; omega, ?_⟩
  split
  · exact congrArg (T.i .i64) (szR_neg (by omega)).symm
  first | trivial | exact congrArg (T.i .i64) (by rw [szR_pos (by omega)] <;> omega)

theorem szEntryS (x : List Entry) (n : Int) (h0 : 0 ≤ n) (hn : n ≤ 1048576) : Con P0 26 [eEntryS x, .i .i64 n] (.t (.i .i64 (szR (eEntryS x).wt n))) [] := by
  refine Con.intro (fn := Try.f26) [.tmp 4] (fun _ => (0, [])) mixed (by kernel_rfl) rfl (by decide) rfl (by rfl) (by kernel_rfl) ?_
  have hw : (eEntryS x).wt = x.length + wts (x.map eEntry) := by simp only [eEntryS, T.wt, List.length_map]
  simp -implicitDefEqProofs (maxSteps := 2000000) only [push_cast, Nat.reduceEqDiff, Nat.reduceLT, Nat.reduceLeDiff, Nat.reduceAdd, Nat.reduceMul, Nat.reduceSub, Nat.reduceBEq, ↓reduceIte, reduceCtorEq]
  intro hl
  have := Bd.hi
  refine ⟨by unfold inI64; omega, ?_⟩
  split
  · rename_i h
    exact congrArg (T.i .i64) (szR_neg (by rw [hw]; omega)).symm
  rename_i h
  refine WL.loop (ι := Nat) (D := (fun _ => (0, []))) (fun i => i ≤ x.length ∧ (x.length : Int) + wts ((x.take i).map eEntry) ≤ n) (fun i => ⟨27, [(0, .t (eEntryS x)), (1, .t (.i .i64 (n - x.length - wts ((x.take i).map eEntry)))), (5, .t (.i .i64 i))], []⟩) (fun i => x.length - i) mixed (by kernel_rfl) 0 ⟨by omega, by simp [wts]; omega⟩ (Keep.wk (ids := []) ?_) ?_
  · simp only [push_cast, Nat.reduceEqDiff, Nat.reduceLT, Nat.reduceLeDiff, Nat.reduceAdd, Nat.reduceMul, Nat.reduceSub, Nat.reduceBEq, ↓reduceIte, reduceCtorEq, List.take_zero, wts]; simp
  · rintro i ⟨hi, hc⟩
    simp -implicitDefEqProofs (maxSteps := 2000000) only [push_cast, Nat.reduceEqDiff, Nat.reduceLT, Nat.reduceLeDiff, Nat.reduceAdd, Nat.reduceMul, Nat.reduceSub, Nat.reduceBEq, ↓reduceIte, reduceCtorEq, eEntry_len, eEntry_isAg, eEntry_ones, eEntry_flat, eEntry_one]
    intro _
    split
    · rename_i h
      refine ⟨by omega, ?_⟩
      rw [Int.toNat_natCast]
      intro a ha
      try dsimp only
      have hstep := wts_take (f := eEntry) ha
      have hle := wts_take_le (f := eEntry) x (i + 1)
      refine Callx.closed (szEntry a _ (by omega) (by omega)) rfl rfl (.inl rfl) ?_
      simp -implicitDefEqProofs (maxSteps := 2000000) only [push_cast, Nat.reduceEqDiff, Nat.reduceLT, Nat.reduceLeDiff, Nat.reduceAdd, Nat.reduceMul, Nat.reduceSub, Nat.reduceBEq, ↓reduceIte, reduceCtorEq]
      rcases szR_cases (eEntry a).wt (n - x.length - wts ((x.take i).map eEntry)) with ⟨g1, g2⟩ | ⟨g1, g2⟩
      · simp only [g2]
        rw [if_neg (by omega)]
        refine ⟨by unfold inI64; omega, i + 1, ⟨by omega, by omega⟩, by omega, Keep.wk (ids := []) ?_⟩
        simp only [push_cast, Nat.reduceEqDiff, Nat.reduceLT, Nat.reduceLeDiff, Nat.reduceAdd, Nat.reduceMul, Nat.reduceSub, Nat.reduceBEq, ↓reduceIte, reduceCtorEq, T.i.injEq, AV.t.injEq]
        first | exact ⟨by omega, by omega⟩ | omega
      · simp only [g2]
        rw [if_pos (by omega)]
        exact congrArg (T.i .i64) (szR_neg (by rw [hw]; omega)).symm
    · have hi : i = x.length := by omega
      subst hi
      rw [List.take_length] at hc ⊢
      exact congrArg (T.i .i64) (by rw [hw, szR_pos (by omega)] <;> omega)

theorem szEntrySS (x : List (List Entry)) (n : Int) (h0 : 0 ≤ n) (hn : n ≤ 1048576) : Con P0 52 [eEntrySS x, .i .i64 n] (.t (.i .i64 (szR (eEntrySS x).wt n))) [] := by
  refine Con.intro (fn := Try.f52) [.tmp 4] (fun _ => (0, [])) mixed (by kernel_rfl) rfl (by decide) rfl (by rfl) (by kernel_rfl) ?_
  have hw : (eEntrySS x).wt = x.length + wts (x.map eEntryS) := by simp only [eEntrySS, T.wt, List.length_map]
  simp -implicitDefEqProofs (maxSteps := 2000000) only [push_cast, Nat.reduceEqDiff, Nat.reduceLT, Nat.reduceLeDiff, Nat.reduceAdd, Nat.reduceMul, Nat.reduceSub, Nat.reduceBEq, ↓reduceIte, reduceCtorEq]
  intro hl
  have := Bd.hi
  refine ⟨by unfold inI64; omega, ?_⟩
  split
  · rename_i h
    exact congrArg (T.i .i64) (szR_neg (by rw [hw]; omega)).symm
  rename_i h
  refine WL.loop (ι := Nat) (D := (fun _ => (0, []))) (fun i => i ≤ x.length ∧ (x.length : Int) + wts ((x.take i).map eEntryS) ≤ n) (fun i => ⟨27, [(0, .t (eEntrySS x)), (1, .t (.i .i64 (n - x.length - wts ((x.take i).map eEntryS)))), (5, .t (.i .i64 i))], []⟩) (fun i => x.length - i) mixed (by kernel_rfl) 0 ⟨by omega, by simp [wts]; omega⟩ (Keep.wk (ids := []) ?_) ?_
  · simp only [push_cast, Nat.reduceEqDiff, Nat.reduceLT, Nat.reduceLeDiff, Nat.reduceAdd, Nat.reduceMul, Nat.reduceSub, Nat.reduceBEq, ↓reduceIte, reduceCtorEq, List.take_zero, wts]; simp
  · rintro i ⟨hi, hc⟩
    simp -implicitDefEqProofs (maxSteps := 2000000) only [push_cast, Nat.reduceEqDiff, Nat.reduceLT, Nat.reduceLeDiff, Nat.reduceAdd, Nat.reduceMul, Nat.reduceSub, Nat.reduceBEq, ↓reduceIte, reduceCtorEq]
    intro _
    split
    · rename_i h
      refine ⟨by omega, ?_⟩
      rw [Int.toNat_natCast]
      intro a ha
      try dsimp only
      have hstep := wts_take (f := eEntryS) ha
      have hle := wts_take_le (f := eEntryS) x (i + 1)
      refine Callx.closed (szEntryS a _ (by omega) (by omega)) rfl rfl (.inl rfl) ?_
      simp -implicitDefEqProofs (maxSteps := 2000000) only [push_cast, Nat.reduceEqDiff, Nat.reduceLT, Nat.reduceLeDiff, Nat.reduceAdd, Nat.reduceMul, Nat.reduceSub, Nat.reduceBEq, ↓reduceIte, reduceCtorEq]
      rcases szR_cases (eEntryS a).wt (n - x.length - wts ((x.take i).map eEntryS)) with ⟨g1, g2⟩ | ⟨g1, g2⟩
      · simp only [g2]
        rw [if_neg (by omega)]
        refine ⟨by unfold inI64; omega, i + 1, ⟨by omega, by omega⟩, by omega, Keep.wk (ids := []) ?_⟩
        simp only [push_cast, Nat.reduceEqDiff, Nat.reduceLT, Nat.reduceLeDiff, Nat.reduceAdd, Nat.reduceMul, Nat.reduceSub, Nat.reduceBEq, ↓reduceIte, reduceCtorEq, T.i.injEq, AV.t.injEq]
        first | exact ⟨by omega, by omega⟩ | omega
      · simp only [g2]
        rw [if_pos (by omega)]
        exact congrArg (T.i .i64) (szR_neg (by rw [hw]; omega)).symm
    · have hi : i = x.length := by omega
      subst hi
      rw [List.take_length] at hc ⊢
      exact congrArg (T.i .i64) (by rw [hw, szR_pos (by omega)] <;> omega)

theorem szGroup (x : Group) (n : Int) (h0 : 0 ≤ n) (hn : n ≤ 1048576) : Con P0 146 [eGroup x, .i .i64 n] (.t (.i .i64 (szR (eGroup x).wt n))) [] := by
  refine Con.intro (fn := Try.f146) [.tmp 4] (fun _ => (0, [])) mixed (by kernel_rfl) rfl (by decide) rfl (by rfl) (by kernel_rfl) ?_
  have hw : (eGroup x).wt = (eEntryS x.sets).wt := by simp only [eGroup, T.wt, wts] <;> omega
  rw [hw]
  have := Bd.hi
  simp -implicitDefEqProofs (maxSteps := 2000000) only [push_cast, Nat.reduceEqDiff, Nat.reduceLT, Nat.reduceLeDiff, Nat.reduceAdd, Nat.reduceMul, Nat.reduceSub, Nat.reduceBEq, ↓reduceIte, reduceCtorEq, eGroup]
  refine Callx.closed (szEntryS x.sets _ (by omega) (by omega)) rfl rfl (.inl rfl) ?_
  simp -implicitDefEqProofs (maxSteps := 2000000) only [push_cast, Nat.reduceEqDiff, Nat.reduceLT, Nat.reduceLeDiff, Nat.reduceAdd, Nat.reduceMul, Nat.reduceSub, Nat.reduceBEq, ↓reduceIte, reduceCtorEq, eGroup]
  rcases szR_cases (eEntryS x.sets).wt (n) with ⟨g1, g2⟩ | ⟨g1, g2⟩
  rotate_left
  · simp only [g2]
    rw [if_pos (by omega)]
    first | trivial | exact congrArg (T.i .i64) (szR_neg (by omega)).symm
  simp only [g2]
  rw [if_neg (by omega)]
  clear g2
  first | trivial | exact congrArg (T.i .i64) (by rw [szR_pos (by omega)] <;> omega)

theorem szGroupS (x : List Group) (n : Int) (h0 : 0 ≤ n) (hn : n ≤ 1048576) : Con P0 88 [eGroupS x, .i .i64 n] (.t (.i .i64 (szR (eGroupS x).wt n))) [] := by
  refine Con.intro (fn := Try.f88) [.tmp 4] (fun _ => (0, [])) mixed (by kernel_rfl) rfl (by decide) rfl (by rfl) (by kernel_rfl) ?_
  have hw : (eGroupS x).wt = x.length + wts (x.map eGroup) := by simp only [eGroupS, T.wt, List.length_map]
  simp -implicitDefEqProofs (maxSteps := 2000000) only [push_cast, Nat.reduceEqDiff, Nat.reduceLT, Nat.reduceLeDiff, Nat.reduceAdd, Nat.reduceMul, Nat.reduceSub, Nat.reduceBEq, ↓reduceIte, reduceCtorEq]
  intro hl
  have := Bd.hi
  refine ⟨by unfold inI64; omega, ?_⟩
  split
  · rename_i h
    exact congrArg (T.i .i64) (szR_neg (by rw [hw]; omega)).symm
  rename_i h
  refine WL.loop (ι := Nat) (D := (fun _ => (0, []))) (fun i => i ≤ x.length ∧ (x.length : Int) + wts ((x.take i).map eGroup) ≤ n) (fun i => ⟨27, [(0, .t (eGroupS x)), (1, .t (.i .i64 (n - x.length - wts ((x.take i).map eGroup)))), (5, .t (.i .i64 i))], []⟩) (fun i => x.length - i) mixed (by kernel_rfl) 0 ⟨by omega, by simp [wts]; omega⟩ (Keep.wk (ids := []) ?_) ?_
  · simp only [push_cast, Nat.reduceEqDiff, Nat.reduceLT, Nat.reduceLeDiff, Nat.reduceAdd, Nat.reduceMul, Nat.reduceSub, Nat.reduceBEq, ↓reduceIte, reduceCtorEq, List.take_zero, wts]; simp
  · rintro i ⟨hi, hc⟩
    simp -implicitDefEqProofs (maxSteps := 2000000) only [push_cast, Nat.reduceEqDiff, Nat.reduceLT, Nat.reduceLeDiff, Nat.reduceAdd, Nat.reduceMul, Nat.reduceSub, Nat.reduceBEq, ↓reduceIte, reduceCtorEq, eGroup_len, eGroup_isAg, eGroup_ones, eGroup_one]
    intro _
    split
    · rename_i h
      refine ⟨by omega, ?_⟩
      rw [Int.toNat_natCast]
      intro a ha
      try dsimp only
      have hstep := wts_take (f := eGroup) ha
      have hle := wts_take_le (f := eGroup) x (i + 1)
      refine Callx.closed (szGroup a _ (by omega) (by omega)) rfl rfl (.inl rfl) ?_
      simp -implicitDefEqProofs (maxSteps := 2000000) only [push_cast, Nat.reduceEqDiff, Nat.reduceLT, Nat.reduceLeDiff, Nat.reduceAdd, Nat.reduceMul, Nat.reduceSub, Nat.reduceBEq, ↓reduceIte, reduceCtorEq]
      rcases szR_cases (eGroup a).wt (n - x.length - wts ((x.take i).map eGroup)) with ⟨g1, g2⟩ | ⟨g1, g2⟩
      · simp only [g2]
        rw [if_neg (by omega)]
        refine ⟨by unfold inI64; omega, i + 1, ⟨by omega, by omega⟩, by omega, Keep.wk (ids := []) ?_⟩
        simp only [push_cast, Nat.reduceEqDiff, Nat.reduceLT, Nat.reduceLeDiff, Nat.reduceAdd, Nat.reduceMul, Nat.reduceSub, Nat.reduceBEq, ↓reduceIte, reduceCtorEq, T.i.injEq, AV.t.injEq]
        first | exact ⟨by omega, by omega⟩ | omega
      · simp only [g2]
        rw [if_pos (by omega)]
        exact congrArg (T.i .i64) (szR_neg (by rw [hw]; omega)).symm
    · have hi : i = x.length := by omega
      subst hi
      rw [List.take_length] at hc ⊢
      exact congrArg (T.i .i64) (by rw [hw, szR_pos (by omega)] <;> omega)

theorem szStore (x : Store) (n : Int) (h0 : 0 ≤ n) (hn : n ≤ 1048576) : Con P0 25 [eStore x, .i .i64 n] (.t (.i .i64 (szR (eStore x).wt n))) [] := by
  refine Con.intro (fn := Try.f25) [.tmp 4] (fun _ => (0, [])) mixed (by kernel_rfl) rfl (by decide) rfl (by rfl) (by kernel_rfl) ?_
  have hw : (eStore x).wt = (eGroupS x.groups).wt := by simp only [eStore, T.wt, wts] <;> omega
  rw [hw]
  have := Bd.hi
  simp -implicitDefEqProofs (maxSteps := 2000000) only [push_cast, Nat.reduceEqDiff, Nat.reduceLT, Nat.reduceLeDiff, Nat.reduceAdd, Nat.reduceMul, Nat.reduceSub, Nat.reduceBEq, ↓reduceIte, reduceCtorEq, eStore]
  refine Callx.closed (szGroupS x.groups _ (by omega) (by omega)) rfl rfl (.inl rfl) ?_
  simp -implicitDefEqProofs (maxSteps := 2000000) only [push_cast, Nat.reduceEqDiff, Nat.reduceLT, Nat.reduceLeDiff, Nat.reduceAdd, Nat.reduceMul, Nat.reduceSub, Nat.reduceBEq, ↓reduceIte, reduceCtorEq, eStore]
  rcases szR_cases (eGroupS x.groups).wt (n) with ⟨g1, g2⟩ | ⟨g1, g2⟩
  rotate_left
  · simp only [g2]
    rw [if_pos (by omega)]
    first | trivial | exact congrArg (T.i .i64) (szR_neg (by omega)).symm
  simp only [g2]
  rw [if_neg (by omega)]
  clear g2
  first | trivial | exact congrArg (T.i .i64) (by rw [szR_pos (by omega)] <;> omega)

end Go.Proofs.Ythhgcklidfilfaa.BX
