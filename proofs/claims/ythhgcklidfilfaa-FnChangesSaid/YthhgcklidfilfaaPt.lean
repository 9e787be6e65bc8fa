/-
  'Patch' and 'Put', the document's and the program's.
-/
import Derived.Test.YthhgcklidfilfaaLs
import Derived.Test.YthhgcklidfilfaaMk
namespace Go.Proofs.Ythhgcklidfilfaa.BX
set_option linter.unusedSectionVars false
set_option linter.unusedSimpArgs false
set_option linter.unusedVariables false
open Go Go.RowKit
set_option maxRecDepth 20000
set_option maxHeartbeats 400000

noncomputable def pOk (a ch : List Entry) : Bool := stateOk a && (decide ((ch.length : Int) ≤ 600) && inOrd ch) && decide ((patchL a ch).length ≤ 300)
noncomputable def pRes (a ch : List Entry) : List Entry := if pOk a ch = true then patchL a ch else []
theorem patchL_one {s : List Entry} {e : Entry} : patchL s [e] = setL s e false := rfl
theorem inOrd_one {e : Entry} : inOrd [e] = true := by
  unfold inOrd
  refine @decide_eq_true _ (Classical.propDecidable _) fun i a b ha hb => ?_
  simp at hb
theorem live_patch {s : List Entry} (h : stateOk s = true) : live s = patchM [] s := (patchM_live (stateOk_ord h).2.2).symm

variable [Bd]

abbrev enO (s : List Entry) : Ob := .arr 32 3 (.own (.ag [.leaf, .leaf, .leaf])) (s.map eEntry)

theorem implPatch (a ch : List Entry) (hB : Bd.B ≤ 2147483648) : Con P0 13 [eEntryS a, eEntryS ch] (.tp [.sr 0, .t (.b (pOk a ch))]) [enO (pRes a ch)] := by
  refine Con.intro (fn := Try.f13) [.tmp 4, .tmp 5] (fun _ => (0, [])) mixed (by kernel_rfl) rfl (by decide) rfl (by rfl) (by kernel_rfl) ?_
  simp -implicitDefEqProofs (maxSteps := 2000000) only [push_cast, Nat.reduceEqDiff, Nat.reduceLT, Nat.reduceLeDiff, Nat.reduceAdd, Nat.reduceMul, Nat.reduceSub, Nat.reduceBEq, ↓reduceIte, reduceCtorEq]
  have := Bd.lo
  refine Callx.closed (implStateOk a) rfl rfl (.inl rfl) ?_
  simp -implicitDefEqProofs (maxSteps := 2000000) only [push_cast, Nat.reduceEqDiff, Nat.reduceLT, Nat.reduceLeDiff, Nat.reduceAdd, Nat.reduceMul, Nat.reduceSub, Nat.reduceBEq, ↓reduceIte, reduceCtorEq]
  cases hok : stateOk a with
  | false =>
    have hp : pOk a ch = false := by simp [pOk, hok]
    have hr : pRes a ch = [] := by simp [pRes, hp]
    rw [hp, hr]
    simp only [Bool.not_false, if_true]
    exact Close.of [none] rfl rfl rfl (by simp only [push_cast, Nat.reduceEqDiff, Nat.reduceLT, Nat.reduceLeDiff, Nat.reduceAdd, Nat.reduceMul, Nat.reduceSub, Nat.reduceBEq, ↓reduceIte, reduceCtorEq] <;> rfl) (by simp only [push_cast, Nat.reduceEqDiff, Nat.reduceLT, Nat.reduceLeDiff, Nat.reduceAdd, Nat.reduceMul, Nat.reduceSub, Nat.reduceBEq, ↓reduceIte, reduceCtorEq, List.map_nil] <;> rfl)
  | true =>
  obtain ⟨ho1, ho2, ho3⟩ := stateOk_ord hok
  simp only [Bool.not_true, Bool.false_eq_true, if_false]
  refine Callx.closed (implChangesOk ch) rfl rfl (.inl rfl) ?_
  simp -implicitDefEqProofs (maxSteps := 2000000) only [push_cast, Nat.reduceEqDiff, Nat.reduceLT, Nat.reduceLeDiff, Nat.reduceAdd, Nat.reduceMul, Nat.reduceSub, Nat.reduceBEq, ↓reduceIte, reduceCtorEq]
  split
  · rename_i h1
    have hp : pOk a ch = false := by
      simp only [pOk, hok, Bool.true_and]
      simp only [Bool.not_eq_true'] at h1
      rw [h1]; rfl
    have hr : pRes a ch = [] := by simp [pRes, hp]
    rw [hp, hr]
    exact Close.of [none] rfl rfl rfl (by simp only [push_cast, Nat.reduceEqDiff, Nat.reduceLT, Nat.reduceLeDiff, Nat.reduceAdd, Nat.reduceMul, Nat.reduceSub, Nat.reduceBEq, ↓reduceIte, reduceCtorEq] <;> rfl) (by simp only [push_cast, Nat.reduceEqDiff, Nat.reduceLT, Nat.reduceLeDiff, Nat.reduceAdd, Nat.reduceMul, Nat.reduceSub, Nat.reduceBEq, ↓reduceIte, reduceCtorEq, List.map_nil] <;> rfl)
  rename_i h1
  have hc : (ch.length : Int) ≤ 600 ∧ inOrd ch = true := by simpa using h1
  refine Callx.closed (liveOf a) rfl rfl (.inl rfl) ?_
  simp -implicitDefEqProofs (maxSteps := 2000000) only [push_cast, Nat.reduceEqDiff, Nat.reduceLT, Nat.reduceLeDiff, Nat.reduceAdd, Nat.reduceMul, Nat.reduceSub, Nat.reduceBEq, ↓reduceIte, reduceCtorEq]
  have hlv := live_patch hok
  have his := Is.base hok
  have hll := live_len a
  refine Callx.hand [0] (livePatch (live a) ch (by omega)) (by decide) (by simp only [push_cast, Nat.reduceEqDiff, Nat.reduceLT, Nat.reduceLeDiff, Nat.reduceAdd, Nat.reduceMul, Nat.reduceSub, Nat.reduceBEq, ↓reduceIte, reduceCtorEq]) rfl rfl (by simp only [push_cast, Nat.reduceEqDiff, Nat.reduceLT, Nat.reduceLeDiff, Nat.reduceAdd, Nat.reduceMul, Nat.reduceSub, Nat.reduceBEq, ↓reduceIte, reduceCtorEq] <;> rfl) rfl (.inr ⟨rfl, by simp only [push_cast, Nat.reduceEqDiff, Nat.reduceLT, Nat.reduceLeDiff, Nat.reduceAdd, Nat.reduceMul, Nat.reduceSub, Nat.reduceBEq, ↓reduceIte, reduceCtorEq]⟩) ?_
  simp -implicitDefEqProofs (maxSteps := 2000000) only [push_cast, Nat.reduceEqDiff, Nat.reduceLT, Nat.reduceLeDiff, Nat.reduceAdd, Nat.reduceMul, Nat.reduceSub, Nat.reduceBEq, ↓reduceIte, reduceCtorEq]
  intro _
  have hpa := his.patch (ch := ch)
  rw [← hlv] at hpa
  have hpl := hpa.len
  split
  · rename_i h2
    have hp : pOk a ch = false := by
      unfold pOk
      rw [decide_eq_false (show ¬ (patchL a ch).length ≤ 300 by omega), Bool.and_false]
    have hr : pRes a ch = [] := by simp [pRes, hp]
    rw [hp, hr]
    exact Close.of [none] rfl rfl rfl (by simp only [push_cast, Nat.reduceEqDiff, Nat.reduceLT, Nat.reduceLeDiff, Nat.reduceAdd, Nat.reduceMul, Nat.reduceSub, Nat.reduceBEq, ↓reduceIte, reduceCtorEq] <;> rfl) (by simp only [push_cast, Nat.reduceEqDiff, Nat.reduceLT, Nat.reduceLeDiff, Nat.reduceAdd, Nat.reduceMul, Nat.reduceSub, Nat.reduceBEq, ↓reduceIte, reduceCtorEq, List.map_nil] <;> rfl)
  · rename_i h2
    have hp : pOk a ch = true := by
      simp only [pOk, hok, hc.2, decide_eq_true hc.1, decide_eq_true (show (patchL a ch).length ≤ 300 by omega)]; rfl
    have hr : pRes a ch = patchL a ch := by simp [pRes, hp]
    rw [hp, hr]
    refine Callx.closed (liveList (patchM (live a) ch) (patchL a ch) hB (by omega) hpa) rfl rfl (.inr ⟨rfl, rfl⟩) ?_
    simp -implicitDefEqProofs (maxSteps := 2000000) only [push_cast, Nat.reduceEqDiff, Nat.reduceLT, Nat.reduceLeDiff, Nat.reduceAdd, Nat.reduceMul, Nat.reduceSub, Nat.reduceBEq, ↓reduceIte, reduceCtorEq]
    exact Close.of [some 1] rfl rfl rfl (by simp only [push_cast, Nat.reduceEqDiff, Nat.reduceLT, Nat.reduceLeDiff, Nat.reduceAdd, Nat.reduceMul, Nat.reduceSub, Nat.reduceBEq, ↓reduceIte, reduceCtorEq] <;> rfl) (by simp only [push_cast, Nat.reduceEqDiff, Nat.reduceLT, Nat.reduceLeDiff, Nat.reduceAdd, Nat.reduceMul, Nat.reduceSub, Nat.reduceBEq, ↓reduceIte, reduceCtorEq, List.map_nil] <;> rfl)

theorem specPut (s : List Entry) (e : Entry) (hB : Bd.B ≤ 2147483648) : Con P0 15 [eEntryS s, eEntry e] (.tp [.sr 0, .t (.b (decide (¬ e.id = []) && pOk s [e]))]) [enO (if e.id = [] then [] else pRes s [e])] := by
  refine Con.intro (fn := Try.f15) [.tmp 4, .tmp 5] (fun _ => (0, [])) mixed (by kernel_rfl) rfl (by decide) rfl (by rfl) (by kernel_rfl) ?_
  simp -implicitDefEqProofs (maxSteps := 2000000) only [push_cast, Nat.reduceEqDiff, Nat.reduceLT, Nat.reduceLeDiff, Nat.reduceAdd, Nat.reduceMul, Nat.reduceSub, Nat.reduceBEq, ↓reduceIte, reduceCtorEq, eEntry]
  have := Bd.lo
  refine Callx.closed (specStateOk s) rfl rfl (.inl rfl) ?_
  simp -implicitDefEqProofs (maxSteps := 2000000) only [push_cast, Nat.reduceEqDiff, Nat.reduceLT, Nat.reduceLeDiff, Nat.reduceAdd, Nat.reduceMul, Nat.reduceSub, Nat.reduceBEq, ↓reduceIte, reduceCtorEq, eEntry]
  by_cases he : e.id = []
  · have hr : (if e.id = [] then [] else pRes s [e]) = [] := if_pos he
    have hd : (decide (¬ e.id = []) && pOk s [e]) = false := by simp [he]
    rw [hr, hd]
    split
    · exact ⟨rfl, by omega, Close.of [some 1] rfl rfl rfl (by simp only [push_cast, Nat.reduceEqDiff, Nat.reduceLT, Nat.reduceLeDiff, Nat.reduceAdd, Nat.reduceMul, Nat.reduceSub, Nat.reduceBEq, ↓reduceIte, reduceCtorEq] <;> rfl) (by simp only [push_cast, Nat.reduceEqDiff, Nat.reduceLT, Nat.reduceLeDiff, Nat.reduceAdd, Nat.reduceMul, Nat.reduceSub, Nat.reduceBEq, ↓reduceIte, reduceCtorEq, List.map_nil] <;> rfl)⟩
    · exact ⟨rfl, by omega, Close.of [some 1] rfl rfl rfl (by simp only [push_cast, Nat.reduceEqDiff, Nat.reduceLT, Nat.reduceLeDiff, Nat.reduceAdd, Nat.reduceMul, Nat.reduceSub, Nat.reduceBEq, ↓reduceIte, reduceCtorEq] <;> rfl) (by simp only [push_cast, Nat.reduceEqDiff, Nat.reduceLT, Nat.reduceLeDiff, Nat.reduceAdd, Nat.reduceMul, Nat.reduceSub, Nat.reduceBEq, ↓reduceIte, reduceCtorEq, List.map_nil] <;> rfl)⟩
  have hr : (if e.id = [] then [] else pRes s [e]) = pRes s [e] := if_neg he
  have hd : (decide (¬ e.id = []) && pOk s [e]) = pOk s [e] := by simp [he]
  rw [hr, hd]
  cases hok : stateOk s with
  | false =>
    have hp : pOk s [e] = false := by simp [pOk, hok]
    have hr : pRes s [e] = [] := by simp [pRes, hp]
    rw [hp, hr]
    simp only [Bool.not_false, if_true]
    exact ⟨rfl, by omega, Close.of [some 1] rfl rfl rfl (by simp only [push_cast, Nat.reduceEqDiff, Nat.reduceLT, Nat.reduceLeDiff, Nat.reduceAdd, Nat.reduceMul, Nat.reduceSub, Nat.reduceBEq, ↓reduceIte, reduceCtorEq] <;> rfl) (by simp only [push_cast, Nat.reduceEqDiff, Nat.reduceLT, Nat.reduceLeDiff, Nat.reduceAdd, Nat.reduceMul, Nat.reduceSub, Nat.reduceBEq, ↓reduceIte, reduceCtorEq, List.map_nil] <;> rfl)⟩
  | true =>
  obtain ⟨ho1, ho2, ho3⟩ := stateOk_ord hok
  simp only [Bool.not_true, Bool.false_eq_true, if_false]
  rw [if_neg he]
  refine Callx.closed (l4Set s e false hB (by omega)) rfl rfl (.inl rfl) ?_
  simp -implicitDefEqProofs (maxSteps := 2000000) only [push_cast, Nat.reduceEqDiff, Nat.reduceLT, Nat.reduceLeDiff, Nat.reduceAdd, Nat.reduceMul, Nat.reduceSub, Nat.reduceBEq, ↓reduceIte, reduceCtorEq]
  intro _
  rw [← patchL_one]
  split
  · rename_i h2
    have hp : pOk s [e] = false := by
      unfold pOk
      rw [decide_eq_false (show ¬ (patchL s [e]).length ≤ 300 by omega), Bool.and_false]
    have hr : pRes s [e] = [] := by simp [pRes, hp]
    rw [hp, hr]
    exact ⟨rfl, by omega, Close.of [some 2] rfl rfl rfl (by simp only [push_cast, Nat.reduceEqDiff, Nat.reduceLT, Nat.reduceLeDiff, Nat.reduceAdd, Nat.reduceMul, Nat.reduceSub, Nat.reduceBEq, ↓reduceIte, reduceCtorEq] <;> rfl) (by simp only [push_cast, Nat.reduceEqDiff, Nat.reduceLT, Nat.reduceLeDiff, Nat.reduceAdd, Nat.reduceMul, Nat.reduceSub, Nat.reduceBEq, ↓reduceIte, reduceCtorEq, List.map_nil] <;> rfl)⟩
  · rename_i h2
    have hp : pOk s [e] = true := by
      simp only [pOk, hok, inOrd_one, decide_eq_true (show (([e] : List Entry).length : Int) ≤ 600 by simp), decide_eq_true (show (patchL s [e]).length ≤ 300 by omega)]; rfl
    have hr : pRes s [e] = patchL s [e] := by simp [pRes, hp]
    rw [hp, hr]
    exact Close.of [some 1] rfl rfl rfl (by simp only [push_cast, Nat.reduceEqDiff, Nat.reduceLT, Nat.reduceLeDiff, Nat.reduceAdd, Nat.reduceMul, Nat.reduceSub, Nat.reduceBEq, ↓reduceIte, reduceCtorEq] <;> rfl) (by simp only [push_cast, Nat.reduceEqDiff, Nat.reduceLT, Nat.reduceLeDiff, Nat.reduceAdd, Nat.reduceMul, Nat.reduceSub, Nat.reduceBEq, ↓reduceIte, reduceCtorEq, List.map_nil] <;> rfl)

theorem implPut (s : List Entry) (e : Entry) (hB : Bd.B ≤ 2147483648) : Con P0 16 [eEntryS s, eEntry e] (.tp [.sr 0, .t (.b (decide (¬ e.id = []) && pOk s [e]))]) [enO (if e.id = [] then [] else pRes s [e])] := by
  refine Con.intro (fn := Try.f16) [.tmp 4, .tmp 5] (fun _ => (0, [])) mixed (by kernel_rfl) rfl (by decide) rfl (by rfl) (by kernel_rfl) ?_
  simp -implicitDefEqProofs (maxSteps := 2000000) only [push_cast, Nat.reduceEqDiff, Nat.reduceLT, Nat.reduceLeDiff, Nat.reduceAdd, Nat.reduceMul, Nat.reduceSub, Nat.reduceBEq, ↓reduceIte, reduceCtorEq, eEntry]
  have := Bd.lo
  split
  · rename_i he
    have hd : (decide (¬ e.id = []) && pOk s [e]) = false := by simp [he]
    rw [hd]
    exact Close.of [none] rfl rfl rfl (by simp only [push_cast, Nat.reduceEqDiff, Nat.reduceLT, Nat.reduceLeDiff, Nat.reduceAdd, Nat.reduceMul, Nat.reduceSub, Nat.reduceBEq, ↓reduceIte, reduceCtorEq] <;> rfl) (by simp only [push_cast, Nat.reduceEqDiff, Nat.reduceLT, Nat.reduceLeDiff, Nat.reduceAdd, Nat.reduceMul, Nat.reduceSub, Nat.reduceBEq, ↓reduceIte, reduceCtorEq, List.map_nil] <;> rfl)
  rename_i he
  have hd : (decide (¬ e.id = []) && pOk s [e]) = pOk s [e] := by simp [he]
  rw [hd]
  refine ⟨rfl, by omega, Callx.closed (implPatch s [e] hB) rfl rfl (.inr ⟨rfl, rfl⟩) ?_⟩
  simp -implicitDefEqProofs (maxSteps := 2000000) only [push_cast, Nat.reduceEqDiff, Nat.reduceLT, Nat.reduceLeDiff, Nat.reduceAdd, Nat.reduceMul, Nat.reduceSub, Nat.reduceBEq, ↓reduceIte, reduceCtorEq]
  exact Close.of [some 2] rfl rfl rfl (by simp only [push_cast, Nat.reduceEqDiff, Nat.reduceLT, Nat.reduceLeDiff, Nat.reduceAdd, Nat.reduceMul, Nat.reduceSub, Nat.reduceBEq, ↓reduceIte, reduceCtorEq] <;> rfl) (by simp only [push_cast, Nat.reduceEqDiff, Nat.reduceLT, Nat.reduceLeDiff, Nat.reduceAdd, Nat.reduceMul, Nat.reduceSub, Nat.reduceBEq, ↓reduceIte, reduceCtorEq, List.map_nil] <;> rfl)

end Go.Proofs.Ythhgcklidfilfaa.BX
