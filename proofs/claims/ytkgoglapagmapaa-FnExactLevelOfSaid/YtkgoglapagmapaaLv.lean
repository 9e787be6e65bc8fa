/-
  The level of a sender at a state of a room.
-/
import Derived.Test.YtkgoglapagmapaaBs
namespace Go.Proofs.Ytkgoglapagmapaa.BX
set_option linter.unusedSectionVars false
set_option linter.unusedSimpArgs false
set_option linter.unusedVariables false
open Go Go.RowKit
set_option maxRecDepth 20000
set_option maxHeartbeats 400000
/-- the entry names an event of the room, as it is -/
def fitE (es : List Event) (x : Entry) : Bool := match posOf x.id es with
  | some j => match es[j]? with
    | some a => a.isState && decide (a.typ = x.typ) && decide (a.key = x.key)
    | none => false
  | none => false
noncomputable def fitsB (es : List Event) (s : List Entry) : Bool := s.all (fitE es) && stateOk s
theorem fit_no {es : List Event} {s : List Entry} {x : Entry} (hx : x ∈ s) (h : fitE es x = false) : fitsB es s = false := by
  unfold fitsB
  rw [Bool.and_eq_false_iff]
  refine .inl ?_
  rw [List.all_eq_false]
  exact ⟨x, hx, by simp [h]⟩
theorem fit_all {es : List Event} {s : List Entry} (h : ∀ x ∈ s, fitE es x = true) : fitsB es s = stateOk s := by
  unfold fitsB
  rw [List.all_eq_true.2 h, Bool.true_and]
variable [Bd]
theorem l5Fits (es : List Event) (s : List Entry) : Con P0 104 [eRoom ⟨es⟩, eEntryS s] (.t (.b (fitsB es s))) [] := by
  refine Con.intro (fn := Try.f104) [.tmp 4] (fun i => if i = 5 then (39, []) else if i = 4 then (8, []) else (0, [])) mixed (by kernel_rfl) rfl (by decide) rfl (by rfl) (by kernel_rfl) ?_
  simp -implicitDefEqProofs (maxSteps := 2000000) only [push_cast, Nat.reduceEqDiff, Nat.reduceLT, Nat.reduceLeDiff, Nat.reduceAdd, Nat.reduceMul, Nat.reduceSub, Nat.reduceBEq, ↓reduceIte, reduceCtorEq, eRoom]
  refine WL.loop (ι := Nat) (D := (fun i => if i = 5 then (39, []) else if i = 4 then (8, []) else (0, []))) (fun i => i ≤ s.length ∧ ∀ x ∈ s.take i, fitE es x = true) (fun i => ⟨61, [(1, .t (eEntryS s)), (2, .rf 0 0), (5, .t (.i .i64 i))], [.box (.t (eRoom ⟨es⟩))]⟩) (fun i => s.length - i) mixed (by kernel_rfl) 0 ⟨by omega, by simp⟩ (Keep.wk (ids := [some 0]) ?_) ?_
  · simp only [push_cast, Nat.reduceEqDiff, Nat.reduceLT, Nat.reduceLeDiff, Nat.reduceAdd, Nat.reduceMul, Nat.reduceSub, Nat.reduceBEq, ↓reduceIte, reduceCtorEq, eRoom] <;> rfl
  · rintro i ⟨hi, hc⟩
    simp -implicitDefEqProofs (maxSteps := 2000000) only [push_cast, Nat.reduceEqDiff, Nat.reduceLT, Nat.reduceLeDiff, Nat.reduceAdd, Nat.reduceMul, Nat.reduceSub, Nat.reduceBEq, ↓reduceIte, reduceCtorEq, eRoom]
    intro _
    have hhi := Bd.hi
    refine iteI (fun h => ⟨by omega, fun x hx => ?_⟩) (fun h => ?_)
    · rw [Int.toNat_natCast] at hx
      simp -implicitDefEqProofs (maxSteps := 2000000) only [push_cast, Nat.reduceEqDiff, Nat.reduceLT, Nat.reduceLeDiff, Nat.reduceAdd, Nat.reduceMul, Nat.reduceSub, Nat.reduceBEq, ↓reduceIte, reduceCtorEq, eRoom, eEntry]
      refine CallV.t (l2At es x.id) (.inl rfl) ?_
      simp -implicitDefEqProofs (maxSteps := 2000000) only [push_cast, Nat.reduceEqDiff, Nat.reduceLT, Nat.reduceLeDiff, Nat.reduceAdd, Nat.reduceMul, Nat.reduceSub, Nat.reduceBEq, ↓reduceIte, reduceCtorEq, eRoom, eEntry, eEvent]
      have hxm := List.mem_of_getElem? hx
      have no : fitE es x = false → T.b false = T.b (fitsB es s) := fun h => by rw [fit_no hxm h]
      cases hp : posOf x.id es with
      | none =>
        have hat : atI es x.id = -1 := by unfold atI; rw [hp]
        rw [hat, if_pos (by omega)]
        exact no (by unfold fitE; rw [hp])
      | some j =>
        obtain ⟨a, ha, _⟩ := posOf_some.1 hp
        have hjl := (List.getElem?_eq_some_iff.1 ha).1
        have hat : atI es x.id = j := by unfold atI; rw [hp]
        have hfe : fitE es x = (a.isState && decide (a.typ = x.typ) && decide (a.key = x.key)) := by unfold fitE; rw [hp]; dsimp only; rw [ha]
        rw [hat, if_neg (by omega)]
        have e1 : (Int.toNat (j : Int)) = j := Int.toNat_natCast _
        have e2 : (Int.toNat (i : Int)) = i := Int.toNat_natCast _
        simp only [e1, e2]
        refine ⟨by omega, fun a' ha' => ?_⟩
        rw [ha] at ha'; cases ha'
        refine iteI (fun q => no (by rw [hfe, show a.isState = false by simpa using q]; rfl)) (fun q1 => ⟨by omega, fun a' ha' => ⟨by omega, fun x' hx' => ?_⟩⟩)
        rw [ha] at ha'; cases ha'
        rw [hx] at hx'; cases hx'
        refine iteI (fun q => no (by rw [hfe, decide_eq_false q, Bool.and_false]; rfl)) (fun q2 => ⟨by omega, fun a' ha' => ⟨by omega, fun x' hx' => ?_⟩⟩)
        rw [ha] at ha'; cases ha'
        rw [hx] at hx'; cases hx'
        refine iteI (fun q => no (by rw [hfe, decide_eq_false q, Bool.and_false])) (fun q3 => ?_)
        have hyes : fitE es x = true := by
          rw [hfe, show a.isState = true by simpa using q1, decide_eq_true (Classical.not_not.1 q2), decide_eq_true (Classical.not_not.1 q3)]; rfl
        refine ⟨by unfold inI64; omega, i + 1, ⟨by omega, take_snoc hx hc hyes⟩, by omega, Keep.wk (ids := [some 0]) ?_⟩
        simp only [push_cast, Nat.reduceEqDiff, Nat.reduceLT, Nat.reduceLeDiff, Nat.reduceAdd, Nat.reduceMul, Nat.reduceSub, Nat.reduceBEq, ↓reduceIte, reduceCtorEq, eRoom] <;> rfl
    · rw [List.take_of_length_le (by omega)] at hc
      refine Callx.closed (specStateOk s) rfl rfl (.inl rfl) ?_
      simp -implicitDefEqProofs (maxSteps := 2000000) only [push_cast, Nat.reduceEqDiff, Nat.reduceLT, Nat.reduceLeDiff, Nat.reduceAdd, Nat.reduceMul, Nat.reduceSub, Nat.reduceBEq, ↓reduceIte, reduceCtorEq, eRoom]
      rw [fit_all hc]
theorem graphFitsNil (s : List Entry) : Con P0 107 [.np, eEntryS s] (.t (.b false)) [] := by
  refine Con.intro (fn := Try.f107) [.tmp 4] (fun i => if i = 7 then (39, []) else if i = 6 then (12, []) else (0, [])) mixed (by kernel_rfl) rfl (by decide) rfl (by rfl) (by kernel_rfl) ?_
  simp -implicitDefEqProofs (maxSteps := 2000000) only [push_cast, Nat.reduceEqDiff, Nat.reduceLT, Nat.reduceLeDiff, Nat.reduceAdd, Nat.reduceMul, Nat.reduceSub, Nat.reduceBEq, ↓reduceIte, reduceCtorEq]
theorem graphFits (es : List Event) (s : List Entry) : Con P0 107 [gT es, eEntryS s] (.t (.b (fitsB es s))) [] := by
  refine Con.intro (fn := Try.f107) [.tmp 4] (fun i => if i = 7 then (39, []) else if i = 6 then (12, []) else (0, [])) mixed (by kernel_rfl) rfl (by decide) rfl (by rfl) (by kernel_rfl) ?_
  simp -implicitDefEqProofs (maxSteps := 2000000) only [push_cast, Nat.reduceEqDiff, Nat.reduceLT, Nat.reduceLeDiff, Nat.reduceAdd, Nat.reduceMul, Nat.reduceSub, Nat.reduceBEq, ↓reduceIte, reduceCtorEq, gT]
  refine Callx.closed (implStateOk s) rfl rfl (.inl rfl) ?_
  simp -implicitDefEqProofs (maxSteps := 2000000) only [push_cast, Nat.reduceEqDiff, Nat.reduceLT, Nat.reduceLeDiff, Nat.reduceAdd, Nat.reduceMul, Nat.reduceSub, Nat.reduceBEq, ↓reduceIte, reduceCtorEq, gT]
  refine iteI (fun hs => ?_) (fun hs => ?_)
  · unfold fitsB
    rw [show stateOk s = false by simpa using hs, Bool.and_false]
  have hs : stateOk s = true := by simpa using hs
  intro hlen
  refine WL.loop (ι := Nat) (D := (fun i => if i = 7 then (39, []) else if i = 6 then (12, []) else (0, []))) (fun i => i ≤ s.length ∧ ∀ x ∈ s.take i, fitE es x = true) (fun i => ⟨72, [(0, .t (gT es)), (16, .t (eEntryS s)), (17, .t (.i .i64 s.length)), (18, .t (.i .i64 i))], []⟩) (fun i => s.length - i) mixed (by kernel_rfl) 0 ⟨by omega, by simp⟩ (Keep.wk (ids := []) ?_) ?_
  · simp only [push_cast, Nat.reduceEqDiff, Nat.reduceLT, Nat.reduceLeDiff, Nat.reduceAdd, Nat.reduceMul, Nat.reduceSub, Nat.reduceBEq, ↓reduceIte, reduceCtorEq, gT] <;> rfl
  · rintro i ⟨hi, hc⟩
    simp -implicitDefEqProofs (maxSteps := 2000000) only [push_cast, Nat.reduceEqDiff, Nat.reduceLT, Nat.reduceLeDiff, Nat.reduceAdd, Nat.reduceMul, Nat.reduceSub, Nat.reduceBEq, ↓reduceIte, reduceCtorEq, gT, eEntry, eEvent]
    have hhi := Bd.hi
    refine iteI (fun h => ⟨by omega, fun x hx => ?_⟩) (fun h => ?_)
    · rw [Int.toNat_natCast] at hx
      have hxm := List.mem_of_getElem? hx
      have no : fitE es x = false → T.b false = T.b (fitsB es s) := fun h => by rw [fit_no hxm h]
      refine gLook rfl (fun j hj => ?_) (fun hj => ?_)
      · simp -implicitDefEqProofs (maxSteps := 2000000) only [push_cast, Nat.reduceEqDiff, Nat.reduceLT, Nat.reduceLeDiff, Nat.reduceAdd, Nat.reduceMul, Nat.reduceSub, Nat.reduceBEq, ↓reduceIte, reduceCtorEq, gT, eEntry, eEvent]
        obtain ⟨a, ha, _⟩ := posOf_some.1 hj
        have hjl := (List.getElem?_eq_some_iff.1 ha).1
        have hfe : fitE es x = (a.isState && decide (a.typ = x.typ) && decide (a.key = x.key)) := by unfold fitE; rw [hj]; dsimp only; rw [ha]
        have e1 : (Int.toNat (j : Int)) = j := Int.toNat_natCast _
        simp only [e1]
        refine ⟨by omega, fun a' ha' => ?_⟩
        rw [ha] at ha'; cases ha'
        refine iteI (fun q => no (by rw [hfe, show a.isState = false by simpa using q]; rfl)) (fun q1 => ⟨by omega, fun a' ha' => ?_⟩)
        rw [ha] at ha'; cases ha'
        refine iteI (fun q => no (by rw [hfe, decide_eq_false q, Bool.and_false]; rfl)) (fun q2 => ⟨by omega, fun a' ha' => ?_⟩)
        rw [ha] at ha'; cases ha'
        refine iteI (fun q => no (by rw [hfe, decide_eq_false q, Bool.and_false])) (fun q3 => ?_)
        have hyes : fitE es x = true := by
          rw [hfe, show a.isState = true by simpa using q1, decide_eq_true (Classical.not_not.1 q2), decide_eq_true (Classical.not_not.1 q3)]; rfl
        refine ⟨by unfold inI64; omega, i + 1, ⟨by omega, take_snoc hx hc hyes⟩, by omega, Keep.wk (ids := []) ?_⟩
        simp only [push_cast, Nat.reduceEqDiff, Nat.reduceLT, Nat.reduceLeDiff, Nat.reduceAdd, Nat.reduceMul, Nat.reduceSub, Nat.reduceBEq, ↓reduceIte, reduceCtorEq, gT] <;> rfl
      · simp -implicitDefEqProofs (maxSteps := 2000000) only [push_cast, Nat.reduceEqDiff, Nat.reduceLT, Nat.reduceLeDiff, Nat.reduceAdd, Nat.reduceMul, Nat.reduceSub, Nat.reduceBEq, ↓reduceIte, reduceCtorEq, gT, eEntry, eEvent]
        exact no (by unfold fitE; rw [hj])
    · rw [List.take_of_length_le (by omega)] at hc
      rw [fit_all hc, hs]
end Go.Proofs.Ytkgoglapagmapaa.BX
