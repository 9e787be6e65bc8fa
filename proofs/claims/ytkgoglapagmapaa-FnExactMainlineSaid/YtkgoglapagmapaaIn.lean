/-
  'Insert', the document's and the program's.
-/
import Derived.Test.YtkgoglapagmapaaGr
import Derived.Test.YtkgoglapagmapaaMe
import Derived.Test.YtkgoglapagmapaaBxOz
namespace Go.Proofs.Ytkgoglapagmapaa.BX
set_option linter.unusedSectionVars false
set_option linter.unusedSimpArgs false
set_option linter.unusedVariables false
open Go Go.RowKit
set_option maxRecDepth 20000
set_option maxHeartbeats 400000

/-- the room behind -/
noncomputable def insE (es : List Event) (e : Event) : List Event := if codeE es e = 0 then es ++ [e] else es

variable [Bd]
theorem cloneS (xs : List (List UInt8)) (hB : Bd.B ≤ 2147483648) (hl : xs.length < Bd.B) : Con P0 120 [eStringS xs] (.sr 0) [.arr 9 1 (.own .leaf) (xs.map T.s)] := by
  refine Con.intro (fn := Try.f120) [.tmp 2] (fun _ => (0, [])) mixed (by kernel_rfl) rfl (by decide) rfl (by rfl) (by kernel_rfl) ?_
  simp -implicitDefEqProofs (maxSteps := 2000000) only [push_cast, Nat.reduceEqDiff, Nat.reduceLT, Nat.reduceLeDiff, Nat.reduceAdd, Nat.reduceMul, Nat.reduceSub, Nat.reduceBEq, ↓reduceIte, reduceCtorEq]
  have := Bd.lo
  refine ⟨fun h => ?_, rfl, by omega, rfl, by omega, allLen_map (f := T.s) (fun _ => rfl), fitsAll_map (f := T.s) (fun _ => rfl), hl, ?_⟩
  · rw [h]; exact Close.of [none] rfl rfl rfl (by simp only [push_cast, Nat.reduceEqDiff, Nat.reduceLT, Nat.reduceLeDiff, Nat.reduceAdd, Nat.reduceMul, Nat.reduceSub, Nat.reduceBEq, ↓reduceIte, reduceCtorEq] <;> rfl) (by simp only [push_cast, Nat.reduceEqDiff, Nat.reduceLT, Nat.reduceLeDiff, Nat.reduceAdd, Nat.reduceMul, Nat.reduceSub, Nat.reduceBEq, ↓reduceIte, reduceCtorEq] <;> rfl)
  · exact Close.of [some 1] rfl rfl rfl (by simp only [push_cast, Nat.reduceEqDiff, Nat.reduceLT, Nat.reduceLeDiff, Nat.reduceAdd, Nat.reduceMul, Nat.reduceSub, Nat.reduceBEq, ↓reduceIte, reduceCtorEq] <;> rfl) (by simp only [push_cast, Nat.reduceEqDiff, Nat.reduceLT, Nat.reduceLeDiff, Nat.reduceAdd, Nat.reduceMul, Nat.reduceSub, Nat.reduceBEq, ↓reduceIte, reduceCtorEq] <;> rfl)
theorem cloneG (xs : List Grant) (hB : Bd.B ≤ 2147483648) (hl : xs.length < Bd.B) : Con P0 121 [eGrantS xs] (.sr 0) [.arr 152 2 (.own (.ag [.leaf, .leaf])) (xs.map eGrant)] := by
  refine Con.intro (fn := Try.f121) [.tmp 2] (fun _ => (0, [])) mixed (by kernel_rfl) rfl (by decide) rfl (by rfl) (by kernel_rfl) ?_
  simp -implicitDefEqProofs (maxSteps := 2000000) only [push_cast, Nat.reduceEqDiff, Nat.reduceLT, Nat.reduceLeDiff, Nat.reduceAdd, Nat.reduceMul, Nat.reduceSub, Nat.reduceBEq, ↓reduceIte, reduceCtorEq]
  have := Bd.lo
  refine ⟨fun h => ?_, rfl, by omega, rfl, by omega, allLen_map (f := eGrant) (fun _ => rfl), fitsAll_map (f := eGrant) (fun _ => rfl), hl, ?_⟩
  · rw [h]; exact Close.of [none] rfl rfl rfl (by simp only [push_cast, Nat.reduceEqDiff, Nat.reduceLT, Nat.reduceLeDiff, Nat.reduceAdd, Nat.reduceMul, Nat.reduceSub, Nat.reduceBEq, ↓reduceIte, reduceCtorEq] <;> rfl) (by simp only [push_cast, Nat.reduceEqDiff, Nat.reduceLT, Nat.reduceLeDiff, Nat.reduceAdd, Nat.reduceMul, Nat.reduceSub, Nat.reduceBEq, ↓reduceIte, reduceCtorEq] <;> rfl)
  · exact Close.of [some 1] rfl rfl rfl (by simp only [push_cast, Nat.reduceEqDiff, Nat.reduceLT, Nat.reduceLeDiff, Nat.reduceAdd, Nat.reduceMul, Nat.reduceSub, Nat.reduceBEq, ↓reduceIte, reduceCtorEq] <;> rfl) (by simp only [push_cast, Nat.reduceEqDiff, Nat.reduceLT, Nat.reduceLeDiff, Nat.reduceAdd, Nat.reduceMul, Nat.reduceSub, Nat.reduceBEq, ↓reduceIte, reduceCtorEq] <;> rfl)
abbrev evAV (e : Event) (i : Nat) : AV := .ag [.t (.s e.id), .t (.s e.sender), .t (.s e.typ), .t (.b e.isState), .t (.s e.key), .t (.i .i64 e.time), .sr i, .sr (i + 1), .t (.s e.value), .sr (i + 2)]
abbrev evOb (e : Event) : List Ob := [.arr 9 1 (.own .leaf) (e.prev.map T.s), .arr 9 1 (.own .leaf) (e.auth.map T.s), .arr 152 2 (.own (.ag [.leaf, .leaf])) (e.grants.map eGrant)]
/-- the lists are no longer than lists can be -/
def Fine (e : Event) : Prop := e.prev.length < Bd.B ∧ e.auth.length < Bd.B ∧ e.grants.length < Bd.B
theorem eventCopy (e : Event) (hB : Bd.B ≤ 2147483648) (hf : Fine e) : Con P0 71 [eEvent e] (.ag [.t (.s e.id), .t (.s e.sender), .t (.s e.typ), .t (.b e.isState), .t (.s e.key), .t (.i .i64 e.time), .sr 0, .sr 1, .t (.s e.value), .sr 2]) (evOb e) := by
  refine Con.intro (fn := Try.f71) [.cell 2 30] (fun i => if i = 1 then (10, [(false, 0), (false, 1), (false, 3), (false, 4), (false, 6), (false, 7), (true, 2), (false, 9), (true, 5), (true, 8)]) else (0, [])) mixed (by kernel_rfl) rfl (by decide) rfl (by rfl) (by kernel_rfl) ?_
  simp -implicitDefEqProofs (maxSteps := 2000000) only [push_cast, Nat.reduceEqDiff, Nat.reduceLT, Nat.reduceLeDiff, Nat.reduceAdd, Nat.reduceMul, Nat.reduceSub, Nat.reduceBEq, ↓reduceIte, reduceCtorEq, eEvent]
  refine Mkx.closed (cloneS e.prev hB hf.1) rfl rfl (.inl rfl) ?_
  simp -implicitDefEqProofs (maxSteps := 2000000) only [push_cast, Nat.reduceEqDiff, Nat.reduceLT, Nat.reduceLeDiff, Nat.reduceAdd, Nat.reduceMul, Nat.reduceSub, Nat.reduceBEq, ↓reduceIte, reduceCtorEq, eEvent]
  refine Mkx.closed (cloneS e.auth hB hf.2.1) rfl rfl (.inl rfl) ?_
  simp -implicitDefEqProofs (maxSteps := 2000000) only [push_cast, Nat.reduceEqDiff, Nat.reduceLT, Nat.reduceLeDiff, Nat.reduceAdd, Nat.reduceMul, Nat.reduceSub, Nat.reduceBEq, ↓reduceIte, reduceCtorEq, eEvent]
  refine Mkx.closed (cloneG e.grants hB hf.2.2) rfl rfl (.inl rfl) ?_
  simp -implicitDefEqProofs (maxSteps := 2000000) only [push_cast, Nat.reduceEqDiff, Nat.reduceLT, Nat.reduceLeDiff, Nat.reduceAdd, Nat.reduceMul, Nat.reduceSub, Nat.reduceBEq, ↓reduceIte, reduceCtorEq, eEvent]
  exact Close.of [some 2, some 3, some 4] rfl rfl rfl (by simp only [push_cast, Nat.reduceEqDiff, Nat.reduceLT, Nat.reduceLeDiff, Nat.reduceAdd, Nat.reduceMul, Nat.reduceSub, Nat.reduceBEq, ↓reduceIte, reduceCtorEq] <;> rfl) (by simp only [push_cast, Nat.reduceEqDiff, Nat.reduceLT, Nat.reduceLeDiff, Nat.reduceAdd, Nat.reduceMul, Nat.reduceSub, Nat.reduceBEq, ↓reduceIte, reduceCtorEq] <;> rfl)
theorem l2Copy (e : Event) (hB : Bd.B ≤ 2147483648) (hf : Fine e) : Con P0 68 [eEvent e] (.ag [.t (.s e.id), .t (.s e.sender), .t (.s e.typ), .t (.b e.isState), .t (.s e.key), .t (.i .i64 e.time), .sr 0, .sr 1, .t (.s e.value), .sr 2]) (evOb e) := by
  refine Con.intro (fn := Try.f68) [.cell 2 30] (fun _ => (0, [])) mixed (by kernel_rfl) rfl (by decide) rfl (by rfl) (by kernel_rfl) ?_
  simp -implicitDefEqProofs (maxSteps := 2000000) only [push_cast, Nat.reduceEqDiff, Nat.reduceLT, Nat.reduceLeDiff, Nat.reduceAdd, Nat.reduceMul, Nat.reduceSub, Nat.reduceBEq, ↓reduceIte, reduceCtorEq, eEvent]
  have := Bd.lo
  refine ⟨rfl, by omega, rfl, by omega, rfl, by omega, rfl, by omega, allLen_map (f := T.s) (fun _ => rfl), fitsAll_map (f := T.s) (fun _ => rfl), hf.1, rfl, by omega, allLen_map (f := T.s) (fun _ => rfl), fitsAll_map (f := T.s) (fun _ => rfl), hf.2.1, rfl, by omega, allLen_map (f := eGrant) (fun _ => rfl), fitsAll_map (f := eGrant) (fun _ => rfl), hf.2.2, ?_⟩
  exact Close.of [some 5, some 6, some 7] rfl rfl rfl (by simp only [push_cast, Nat.reduceEqDiff, Nat.reduceLT, Nat.reduceLeDiff, Nat.reduceAdd, Nat.reduceMul, Nat.reduceSub, Nat.reduceBEq, ↓reduceIte, reduceCtorEq] <;> rfl) (by simp only [push_cast, Nat.reduceEqDiff, Nat.reduceLT, Nat.reduceLeDiff, Nat.reduceAdd, Nat.reduceMul, Nat.reduceSub, Nat.reduceBEq, ↓reduceIte, reduceCtorEq] <;> rfl)
theorem l2CopyRoom (es : List Event) (hB : Bd.B ≤ 2147483648) (hf : ∀ e ∈ es, Fine e) (hl : es.length + 1 < Bd.B) : Con P0 67 [eRoom ⟨es⟩] (.ag [.sr 0]) [.arr 30 10 .clo (es.map eEvent)] := by
  refine Con.intro (fn := Try.f67) [.cell 2 41] (fun i => if i = 5 then (9, [(false, 0), (false, 1), (false, 2), (false, 3), (false, 4), (false, 5), (false, 6), (false, 7), (true, 8)]) else (0, [])) mixed (by kernel_rfl) rfl (by decide) rfl (by rfl) (by kernel_rfl) ?_
  simp -implicitDefEqProofs (maxSteps := 2000000) only [push_cast, Nat.reduceEqDiff, Nat.reduceLT, Nat.reduceLeDiff, Nat.reduceAdd, Nat.reduceMul, Nat.reduceSub, Nat.reduceBEq, ↓reduceIte, reduceCtorEq, eRoom]
  have := Bd.lo
  refine ⟨rfl, by omega, ?_⟩
  refine WL.loop (ι := Nat) (D := (fun i => if i = 5 then (9, [(false, 0), (false, 1), (false, 2), (false, 3), (false, 4), (false, 5), (false, 6), (false, 7), (true, 8)]) else (0, []))) (fun i => i ≤ es.length) (fun i => ⟨26, [(1, .rf 0 0), (2, .rf 1 0), (3, .rf 3 0), (4, .t (.i .i64 i))], [.box (.t (eRoom ⟨es⟩)), .box (.ag [.ns]), .arr 30 10 .clo ((es.take i).map eEvent), .box (.ag [.sr 2])]⟩) (fun i => es.length - i) mixed (by kernel_rfl) 0 (by omega) (Wk.trans (Wk.clo0 (id := 2) rfl) (Keep.wk (ids := [some 0, some 1, some 2, some 3]) ?_)) ?_
  · simp only [push_cast, Nat.reduceEqDiff, Nat.reduceLT, Nat.reduceLeDiff, Nat.reduceAdd, Nat.reduceMul, Nat.reduceSub, Nat.reduceBEq, ↓reduceIte, reduceCtorEq, eRoom, List.take_zero] <;> rfl
  · intro i hi
    simp -implicitDefEqProofs (maxSteps := 2000000) only [push_cast, Nat.reduceEqDiff, Nat.reduceLT, Nat.reduceLeDiff, Nat.reduceAdd, Nat.reduceMul, Nat.reduceSub, Nat.reduceBEq, ↓reduceIte, reduceCtorEq, eRoom]
    intro _
    have := Bd.hi
    refine iteI (fun h => ?_) (fun h => ?_)
    · refine ⟨by omega, fun a ha => ?_⟩
      rw [Int.toNat_natCast] at ha
      have hts : es.take (i + 1) = es.take i ++ [a] := by rw [List.take_add_one, ha]; rfl
      refine CallV.of (r := eEvent a) (l2Copy a hB (hf a (List.mem_of_getElem? ha))) (by simp only [push_cast, Nat.reduceEqDiff, Nat.reduceLT, Nat.reduceLeDiff, Nat.reduceAdd, Nat.reduceMul, Nat.reduceSub, Nat.reduceBEq, ↓reduceIte, reduceCtorEq]; rfl) rfl (.inl rfl) ?_
      simp -implicitDefEqProofs (maxSteps := 2000000) only [push_cast, Nat.reduceEqDiff, Nat.reduceLT, Nat.reduceLeDiff, Nat.reduceAdd, Nat.reduceMul, Nat.reduceSub, Nat.reduceBEq, ↓reduceIte, reduceCtorEq, eEvent]
      have hlt : (es.take i).length = i := by rw [List.length_take]; omega
      refine ⟨rfl, by omega, rfl, by omega, by omega, by unfold inI64; omega, i + 1, by omega, by omega, Keep.wk (ids := [some 0, some 1, some 5, some 3]) ?_⟩
      simp only [push_cast, Nat.reduceEqDiff, Nat.reduceLT, Nat.reduceLeDiff, Nat.reduceAdd, Nat.reduceMul, Nat.reduceSub, Nat.reduceBEq, ↓reduceIte, reduceCtorEq, hts, eRoom, List.map_append, eEvent] <;> rfl
    · rw [List.take_of_length_le (by omega)]
      exact Close.of [some 2] rfl rfl rfl (by simp only [push_cast, Nat.reduceEqDiff, Nat.reduceLT, Nat.reduceLeDiff, Nat.reduceAdd, Nat.reduceMul, Nat.reduceSub, Nat.reduceBEq, ↓reduceIte, reduceCtorEq] <;> rfl) (by simp only [push_cast, Nat.reduceEqDiff, Nat.reduceLT, Nat.reduceLeDiff, Nat.reduceAdd, Nat.reduceMul, Nat.reduceSub, Nat.reduceBEq, ↓reduceIte, reduceCtorEq] <;> rfl)
def insT (es : List Event) (n : Int) : T := .tp [eRoom ⟨es⟩, .i .i64 n]
theorem specInsert (es : List Event) (e : Event) (hB : Bd.B ≤ 2147483648) (hf : ∀ x ∈ es, Fine x) (he : Fine e) (hl : es.length + 1 < Bd.B) : Con P0 22 [eRoom ⟨es⟩, eEvent e] (.t (insT (insE es e) (codeE es e))) [] := by
  refine Con.intro (fn := Try.f22) [.cell 4 41, .tmp 5] (fun i => if i = 4 then (5, [(false, 0), (false, 1), (false, 2), (false, 3), (true, 4)]) else (0, [])) mixed (by kernel_rfl) rfl (by decide) rfl (by rfl) (by kernel_rfl) ?_
  simp -implicitDefEqProofs (maxSteps := 2000000) only [push_cast, Nat.reduceEqDiff, Nat.reduceLT, Nat.reduceLeDiff, Nat.reduceAdd, Nat.reduceMul, Nat.reduceSub, Nat.reduceBEq, ↓reduceIte, reduceCtorEq, eRoom, eEvent]
  have := Bd.lo
  refine Callx.closed (l2CopyRoom es hB hf hl) rfl rfl (.inl rfl) ?_
  simp -implicitDefEqProofs (maxSteps := 2000000) only [push_cast, Nat.reduceEqDiff, Nat.reduceLT, Nat.reduceLeDiff, Nat.reduceAdd, Nat.reduceMul, Nat.reduceSub, Nat.reduceBEq, ↓reduceIte, reduceCtorEq, eRoom, eEvent]
  refine Callx.closed (l2Code es e) rfl rfl (.inl rfl) ?_
  simp -implicitDefEqProofs (maxSteps := 2000000) only [push_cast, Nat.reduceEqDiff, Nat.reduceLT, Nat.reduceLeDiff, Nat.reduceAdd, Nat.reduceMul, Nat.reduceSub, Nat.reduceBEq, ↓reduceIte, reduceCtorEq, eRoom, eEvent]
  refine iteI (fun h => ?_) (fun h => ?_)
  · refine CallV.of (r := eEvent e) (l2Copy e hB he) (by simp only [push_cast, Nat.reduceEqDiff, Nat.reduceLT, Nat.reduceLeDiff, Nat.reduceAdd, Nat.reduceMul, Nat.reduceSub, Nat.reduceBEq, ↓reduceIte, reduceCtorEq]; rfl) rfl (.inl rfl) ?_
    simp -implicitDefEqProofs (maxSteps := 2000000) only [push_cast, Nat.reduceEqDiff, Nat.reduceLT, Nat.reduceLeDiff, Nat.reduceAdd, Nat.reduceMul, Nat.reduceSub, Nat.reduceBEq, ↓reduceIte, reduceCtorEq, eRoom, eEvent, insT]
    refine ⟨rfl, by omega, rfl, by omega, hl, ?_⟩
    have : insE es e = es ++ [e] := if_pos h
    rw [this]
    show _ = T.tp [T.ag [T.sl ((es ++ [e]).map eEvent)], T.i .i64 (codeE es e)]
    rw [List.map_append]
    rfl
  · simp -implicitDefEqProofs (maxSteps := 2000000) only [push_cast, Nat.reduceEqDiff, Nat.reduceLT, Nat.reduceLeDiff, Nat.reduceAdd, Nat.reduceMul, Nat.reduceSub, Nat.reduceBEq, ↓reduceIte, reduceCtorEq, eRoom, eEvent, insT]
    have : insE es e = es := if_neg h
    rw [this]
theorem implInsert (es : List Event) (e : Event) (hB : Bd.B ≤ 2147483648) (hf : ∀ x ∈ es, Fine x) (he : Fine e) (hl : es.length + 1 < Bd.B) : Con P0 23 [eRoom ⟨es⟩, eEvent e] (.tp [.ag [.sr 0], .t (.i .i64 (codeE es e))]) [.arr 30 10 (.own (.ag [.leaf, .leaf, .leaf, .leaf, .leaf, .leaf, .sl 9 1 .leaf, .sl 9 1 .leaf, .leaf, .sl 152 2 (.ag [.leaf, .leaf])])) ((insE es e).map eEvent)] := by
  refine Con.intro (fn := Try.f23) [.cell 4 41, .tmp 5] (fun i => if i = 11 then (5, [(false, 0), (false, 1), (false, 2), (true, 3), (true, 4)]) else if i = 7 then (5, [(false, 0), (false, 1), (false, 2), (true, 3), (true, 4)]) else (0, [])) mixed (by kernel_rfl) rfl (by decide) rfl (by rfl) (by kernel_rfl) ?_
  simp -implicitDefEqProofs (maxSteps := 2000000) only [push_cast, Nat.reduceEqDiff, Nat.reduceLT, Nat.reduceLeDiff, Nat.reduceAdd, Nat.reduceMul, Nat.reduceSub, Nat.reduceBEq, ↓reduceIte, reduceCtorEq, eRoom, eEvent]
  have := Bd.lo
  refine Callx.closed newGraph rfl rfl (.inl rfl) ?_
  simp -implicitDefEqProofs (maxSteps := 2000000) only [push_cast, Nat.reduceEqDiff, Nat.reduceLT, Nat.reduceLeDiff, Nat.reduceAdd, Nat.reduceMul, Nat.reduceSub, Nat.reduceBEq, ↓reduceIte, reduceCtorEq, eRoom, eEvent]
  intro _
  refine WL.loop (ι := Nat) (D := (fun i => if i = 11 then (5, [(false, 0), (false, 1), (false, 2), (true, 3), (true, 4)]) else if i = 7 then (5, [(false, 0), (false, 1), (false, 2), (true, 3), (true, 4)]) else (0, []))) (fun i => i ≤ es.length) (fun i => ⟨45, [(3, .rf 0 0), (4, .rf 1 0), (6, .rf 2 0), (7, .rf 5 0), (14, .t (eEventS es)), (15, .t (.i .i64 es.length)), (16, .t (.i .i64 i))],
    [.box (.t (eEvent e)), .box (.ag [.ns]), .box (.ag [.sr 3, .mr 4]), .arr 30 10 .clo ((es.take i).map eEvent), gmO (es.take i), .box (.ag [.sr 6]), .arr 30 10 (.own (.ag [.leaf, .leaf, .leaf, .leaf, .leaf, .leaf, .sl 9 1 .leaf, .sl 9 1 .leaf, .leaf, .sl 152 2 (.ag [.leaf, .leaf])])) ((es.take i).map eEvent)]⟩) (fun i => es.length - i) mixed (by kernel_rfl) 0 (by omega) (Keep.wk (ids := [some 1, some 2, some 3, none, some 4, some 5, none]) ?_) ?_
  · simp only [push_cast, Nat.reduceEqDiff, Nat.reduceLT, Nat.reduceLeDiff, Nat.reduceAdd, Nat.reduceMul, Nat.reduceSub, Nat.reduceBEq, ↓reduceIte, reduceCtorEq, List.take_zero, eEvent, gmO, gmK, gmV, gm, gmFrom, List.map_nil] <;> rfl
  · intro i hi
    simp -implicitDefEqProofs (maxSteps := 2000000) only [push_cast, Nat.reduceEqDiff, Nat.reduceLT, Nat.reduceLeDiff, Nat.reduceAdd, Nat.reduceMul, Nat.reduceSub, Nat.reduceBEq, ↓reduceIte, reduceCtorEq, eEvent_len, eEvent_isAg, eEvent_ones, eEvent_one]
    have := Bd.hi
    refine iteI (fun h => ?_) (fun h => ?_)
    · refine ⟨by omega, fun a ha => ⟨rfl, ?_⟩⟩
      rw [Int.toNat_natCast] at ha
      have hlt : (es.take i).length = i := by rw [List.length_take]; omega
      have hts : es.take (i + 1) = es.take i ++ [a] := by rw [List.take_add_one, ha]; rfl
      refine Callx.hand [2, 3, 4] (graphPut (es.take i) a hB (by omega)) (by decide) (by simp only [push_cast, Nat.reduceEqDiff, Nat.reduceLT, Nat.reduceLeDiff, Nat.reduceAdd, Nat.reduceMul, Nat.reduceSub, Nat.reduceBEq, ↓reduceIte, reduceCtorEq]) rfl rfl (by simp only [push_cast, Nat.reduceEqDiff, Nat.reduceLT, Nat.reduceLeDiff, Nat.reduceAdd, Nat.reduceMul, Nat.reduceSub, Nat.reduceBEq, ↓reduceIte, reduceCtorEq] <;> rfl) rfl (.inr ⟨rfl, by simp only [push_cast, Nat.reduceEqDiff, Nat.reduceLT, Nat.reduceLeDiff, Nat.reduceAdd, Nat.reduceMul, Nat.reduceSub, Nat.reduceBEq, ↓reduceIte, reduceCtorEq] <;> rfl⟩) ?_
      simp -implicitDefEqProofs (maxSteps := 2000000) only [push_cast, Nat.reduceEqDiff, Nat.reduceLT, Nat.reduceLeDiff, Nat.reduceAdd, Nat.reduceMul, Nat.reduceSub, Nat.reduceBEq, ↓reduceIte, reduceCtorEq]
      refine Mkx.closed (eventCopy a hB (hf a (List.mem_of_getElem? ha))) rfl rfl (.inl rfl) ?_
      simp -implicitDefEqProofs (maxSteps := 2000000) only [push_cast, Nat.reduceEqDiff, Nat.reduceLT, Nat.reduceLeDiff, Nat.reduceAdd, Nat.reduceMul, Nat.reduceSub, Nat.reduceBEq, ↓reduceIte, reduceCtorEq]
      refine ⟨rfl, by omega, rfl, by omega, by omega, by unfold inI64; omega, i + 1, by omega, by omega, Keep.wk (ids := [some 0, some 1, some 2, some 8, some 4, some 5, some 13]) ?_⟩
      simp only [push_cast, Nat.reduceEqDiff, Nat.reduceLT, Nat.reduceLeDiff, Nat.reduceAdd, Nat.reduceMul, Nat.reduceSub, Nat.reduceBEq, ↓reduceIte, reduceCtorEq, hts, List.map_append] <;> first | rfl | exact ⟨rfl, rfl⟩
    · rw [List.take_of_length_le (by omega)]
      refine Callx.closed (graphCode es e hB) rfl rfl (.inr ⟨rfl, rfl⟩) ?_
      simp -implicitDefEqProofs (maxSteps := 2000000) only [push_cast, Nat.reduceEqDiff, Nat.reduceLT, Nat.reduceLeDiff, Nat.reduceAdd, Nat.reduceMul, Nat.reduceSub, Nat.reduceBEq, ↓reduceIte, reduceCtorEq]
      refine iteI (fun h1 => ?_) (fun h1 => ?_)
      · refine Mkx.closed (eventCopy e hB he) rfl rfl (.inl rfl) ?_
        simp -implicitDefEqProofs (maxSteps := 2000000) only [push_cast, Nat.reduceEqDiff, Nat.reduceLT, Nat.reduceLeDiff, Nat.reduceAdd, Nat.reduceMul, Nat.reduceSub, Nat.reduceBEq, ↓reduceIte, reduceCtorEq]
        refine ⟨rfl, by omega, rfl, by omega, hl, ?_⟩
        have : insE es e = es ++ [e] := if_pos h1
        rw [this, List.map_append]
        exact Close.of [some 11] rfl rfl rfl (by simp only [push_cast, Nat.reduceEqDiff, Nat.reduceLT, Nat.reduceLeDiff, Nat.reduceAdd, Nat.reduceMul, Nat.reduceSub, Nat.reduceBEq, ↓reduceIte, reduceCtorEq] <;> rfl) (by simp only [push_cast, Nat.reduceEqDiff, Nat.reduceLT, Nat.reduceLeDiff, Nat.reduceAdd, Nat.reduceMul, Nat.reduceSub, Nat.reduceBEq, ↓reduceIte, reduceCtorEq] <;> rfl)
      · have : insE es e = es := if_neg h1
        rw [this]
        exact Close.of [some 6] rfl rfl rfl (by simp only [push_cast, Nat.reduceEqDiff, Nat.reduceLT, Nat.reduceLeDiff, Nat.reduceAdd, Nat.reduceMul, Nat.reduceSub, Nat.reduceBEq, ↓reduceIte, reduceCtorEq] <;> rfl) (by simp only [push_cast, Nat.reduceEqDiff, Nat.reduceLT, Nat.reduceLeDiff, Nat.reduceAdd, Nat.reduceMul, Nat.reduceSub, Nat.reduceBEq, ↓reduceIte, reduceCtorEq] <;> rfl)
theorem wts_mem {x : T} : ∀ {xs : List T}, x ∈ xs → x.wt ≤ wts xs
  | [], h => by cases h
  | y :: ys, h => by
    simp only [wts]
    rcases List.mem_cons.1 h with rfl | h
    · omega
    · have := wts_mem h; omega
theorem fine_of {e : Event} (h : (eEvent e).wt ≤ 1048576) : Fine e := by
  have := Bd.lo
  simp only [eEvent, T.wt, wts, List.length_map] at h
  refine ⟨?_, ?_, ?_⟩ <;> omega
theorem fines_of {es : List Event} (h : (eEventS es).wt ≤ 1048576) : ∀ e ∈ es, Fine e := by
  intro e he
  have h1 := wts_mem (List.mem_map_of_mem (f := eEvent) he)
  simp only [T.wt, List.length_map] at h
  exact fine_of (by omega)
theorem lawInsert (r : Room) (e : Event) (hB : mxs [eRoom r, eEvent e] ≤ 1048576 → Bd.B ≤ 2147483648) : Con P0 5 [eRoom r, eEvent e] (.t (.b true)) [] := by
  refine Con.intro (fn := Try.f5) [.tmp 4] (fun i => if i = 31 then (11, [(false, 0), (false, 1), (false, 2), (false, 3), (false, 4), (false, 5), (false, 6), (false, 7), (true, 8), (true, 9), (false, 10)]) else if i = 16 then (5, []) else if i = 14 then (5, []) else if i = 8 then (11, [(false, 0), (false, 1), (false, 2), (false, 3), (false, 4), (false, 5), (false, 6), (false, 7), (true, 8), (true, 9), (false, 10)]) else (0, [])) mixed (by kernel_rfl) rfl (by decide) rfl (by rfl) (by kernel_rfl) ?_
  simp -implicitDefEqProofs (maxSteps := 2000000) only [push_cast, Nat.reduceEqDiff, Nat.reduceLT, Nat.reduceLeDiff, Nat.reduceAdd, Nat.reduceMul, Nat.reduceSub, Nat.reduceBEq, ↓reduceIte, reduceCtorEq]
  refine Callx.closed (szRoom r _ (by omega) (by omega)) rfl rfl (.inl rfl) ?_
  simp -implicitDefEqProofs (maxSteps := 2000000) only [push_cast, Nat.reduceEqDiff, Nat.reduceLT, Nat.reduceLeDiff, Nat.reduceAdd, Nat.reduceMul, Nat.reduceSub, Nat.reduceBEq, ↓reduceIte, reduceCtorEq]
  rcases szR_cases (eRoom r).wt 1048576 with ⟨g1, g2⟩ | ⟨g1, g2⟩
  rotate_left
  · simp only [g2]
    rw [if_pos (by omega)]
    trivial
  simp only [g2]
  rw [if_neg (by omega)]
  refine Callx.closed (szEvent e _ (by omega) (by omega)) rfl rfl (.inl rfl) ?_
  simp -implicitDefEqProofs (maxSteps := 2000000) only [push_cast, Nat.reduceEqDiff, Nat.reduceLT, Nat.reduceLeDiff, Nat.reduceAdd, Nat.reduceMul, Nat.reduceSub, Nat.reduceBEq, ↓reduceIte, reduceCtorEq]
  rcases szR_cases (eEvent e).wt (1048576 - (eRoom r).wt) with ⟨g3, g4⟩ | ⟨g3, g4⟩
  rotate_left
  · simp only [g4]
    rw [if_pos (by omega)]
    trivial
  simp only [g4]
  rw [if_neg (by omega)]
  have hB := hB (mxs_cons (mx_of (by omega)) (mxs_cons (mx_of (by omega)) mxs_nil))
  have hlo := Bd.lo
  have hwr : (eRoom r).wt = (eEventS r.events).wt := by simp [eRoom, T.wt, wts]
  have hle : r.events.length ≤ (eEventS r.events).wt := by simp only [T.wt, List.length_map]; omega
  have hfs := fines_of (es := r.events) (by omega)
  have hfe := fine_of (e := e) (by omega)
  have toR : ∀ {K : T → Prop}, K (eRoom r) → CallV P0 19 [eRoom r] true K := fun k => CallV.of (r := eRoom r) (toRoom hB r) (by simp only [push_cast, Nat.reduceEqDiff, Nat.reduceLT, Nat.reduceLeDiff, Nat.reduceAdd, Nat.reduceMul, Nat.reduceSub, Nat.reduceBEq, ↓reduceIte, reduceCtorEq]; rfl) rfl (.inl rfl) k
  have toE : ∀ {K : T → Prop}, K (eEvent e) → CallV P0 14 [eEvent e] true K := fun k => CallV.of (r := eEvent e) (toEvent hB e) (by simp only [push_cast, Nat.reduceEqDiff, Nat.reduceLT, Nat.reduceLeDiff, Nat.reduceAdd, Nat.reduceMul, Nat.reduceSub, Nat.reduceBEq, ↓reduceIte, reduceCtorEq]; rfl) rfl (.inl rfl) k
  refine toR ?_
  simp -implicitDefEqProofs (maxSteps := 2000000) only [push_cast, Nat.reduceEqDiff, Nat.reduceLT, Nat.reduceLeDiff, Nat.reduceAdd, Nat.reduceMul, Nat.reduceSub, Nat.reduceBEq, ↓reduceIte, reduceCtorEq]
  refine toE ?_
  simp -implicitDefEqProofs (maxSteps := 2000000) only [push_cast, Nat.reduceEqDiff, Nat.reduceLT, Nat.reduceLeDiff, Nat.reduceAdd, Nat.reduceMul, Nat.reduceSub, Nat.reduceBEq, ↓reduceIte, reduceCtorEq]
  refine CallV.t (specInsert r.events e hB hfs hfe (by omega)) (.inl rfl) ?_
  simp -implicitDefEqProofs (maxSteps := 2000000) only [push_cast, Nat.reduceEqDiff, Nat.reduceLT, Nat.reduceLeDiff, Nat.reduceAdd, Nat.reduceMul, Nat.reduceSub, Nat.reduceBEq, ↓reduceIte, reduceCtorEq, insT]
  refine ⟨rfl, ?_⟩
  refine Callx.closed (toRoom hB r) rfl rfl (.inl rfl) ?_
  simp -implicitDefEqProofs (maxSteps := 2000000) only [push_cast, Nat.reduceEqDiff, Nat.reduceLT, Nat.reduceLeDiff, Nat.reduceAdd, Nat.reduceMul, Nat.reduceSub, Nat.reduceBEq, ↓reduceIte, reduceCtorEq]
  refine Callx.closed (toEvent hB e) rfl rfl (.inl rfl) ?_
  simp -implicitDefEqProofs (maxSteps := 2000000) only [push_cast, Nat.reduceEqDiff, Nat.reduceLT, Nat.reduceLeDiff, Nat.reduceAdd, Nat.reduceMul, Nat.reduceSub, Nat.reduceBEq, ↓reduceIte, reduceCtorEq, eEvent]
  refine Callx.closed (implInsert r.events e hB hfs hfe (by omega)) rfl rfl (.inr ⟨rfl, rfl⟩) ?_
  simp -implicitDefEqProofs (maxSteps := 2000000) only [push_cast, Nat.reduceEqDiff, Nat.reduceLT, Nat.reduceLeDiff, Nat.reduceAdd, Nat.reduceMul, Nat.reduceSub, Nat.reduceBEq, ↓reduceIte, reduceCtorEq]
  refine Callx.closed (eqRoom ⟨insE r.events e⟩ ⟨insE r.events e⟩) rfl rfl (.inr ⟨rfl, rfl⟩) ?_
  simp -implicitDefEqProofs (maxSteps := 2000000) only [push_cast, Nat.reduceEqDiff, Nat.reduceLT, Nat.reduceLeDiff, Nat.reduceAdd, Nat.reduceMul, Nat.reduceSub, Nat.reduceBEq, ↓reduceIte, reduceCtorEq]
  refine toR ?_
  simp -implicitDefEqProofs (maxSteps := 2000000) only [push_cast, Nat.reduceEqDiff, Nat.reduceLT, Nat.reduceLeDiff, Nat.reduceAdd, Nat.reduceMul, Nat.reduceSub, Nat.reduceBEq, ↓reduceIte, reduceCtorEq]
  refine CallV.t (eqRoom r r) (.inr rfl) ?_
  simp -implicitDefEqProofs (maxSteps := 2000000) only [push_cast, Nat.reduceEqDiff, Nat.reduceLT, Nat.reduceLeDiff, Nat.reduceAdd, Nat.reduceMul, Nat.reduceSub, Nat.reduceBEq, ↓reduceIte, reduceCtorEq]
  refine toE ?_
  simp -implicitDefEqProofs (maxSteps := 2000000) only [push_cast, Nat.reduceEqDiff, Nat.reduceLT, Nat.reduceLeDiff, Nat.reduceAdd, Nat.reduceMul, Nat.reduceSub, Nat.reduceBEq, ↓reduceIte, reduceCtorEq]
  refine CallV.t (eqEvent e e) (.inr rfl) ?_
  simp -implicitDefEqProofs (maxSteps := 2000000) only [push_cast, Nat.reduceEqDiff, Nat.reduceLT, Nat.reduceLeDiff, Nat.reduceAdd, Nat.reduceMul, Nat.reduceSub, Nat.reduceBEq, ↓reduceIte, reduceCtorEq]
  have ht1 := totEv_le r.events
  have hfl : e.prev.length + e.auth.length + e.grants.length ≤ (eEvent e).wt := by simp only [eEvent, T.wt, wts, List.length_map]; omega
  refine Callx.hand [3] (markRoom r 1 (by omega) (by omega)) (by decide) (by simp only [push_cast, Nat.reduceEqDiff, Nat.reduceLT, Nat.reduceLeDiff, Nat.reduceAdd, Nat.reduceMul, Nat.reduceSub, Nat.reduceBEq, ↓reduceIte, reduceCtorEq]) rfl rfl (by simp only [push_cast, Nat.reduceEqDiff, Nat.reduceLT, Nat.reduceLeDiff, Nat.reduceAdd, Nat.reduceMul, Nat.reduceSub, Nat.reduceBEq, ↓reduceIte, reduceCtorEq] <;> rfl) rfl (.inr ⟨rfl, by simp only [push_cast, Nat.reduceEqDiff, Nat.reduceLT, Nat.reduceLeDiff, Nat.reduceAdd, Nat.reduceMul, Nat.reduceSub, Nat.reduceBEq, ↓reduceIte, reduceCtorEq] <;> rfl⟩) ?_
  simp -implicitDefEqProofs (maxSteps := 2000000) only [push_cast, Nat.reduceEqDiff, Nat.reduceLT, Nat.reduceLeDiff, Nat.reduceAdd, Nat.reduceMul, Nat.reduceSub, Nat.reduceBEq, ↓reduceIte, reduceCtorEq]
  refine Callx.hand [5, 6, 7] (markEvent e (1 + (totL wEv r.events : Nat)) (by omega) (by omega)) (by decide) (by simp only [push_cast, Nat.reduceEqDiff, Nat.reduceLT, Nat.reduceLeDiff, Nat.reduceAdd, Nat.reduceMul, Nat.reduceSub, Nat.reduceBEq, ↓reduceIte, reduceCtorEq]) rfl rfl (by simp only [push_cast, Nat.reduceEqDiff, Nat.reduceLT, Nat.reduceLeDiff, Nat.reduceAdd, Nat.reduceMul, Nat.reduceSub, Nat.reduceBEq, ↓reduceIte, reduceCtorEq] <;> rfl) rfl (.inr ⟨rfl, by simp only [push_cast, Nat.reduceEqDiff, Nat.reduceLT, Nat.reduceLeDiff, Nat.reduceAdd, Nat.reduceMul, Nat.reduceSub, Nat.reduceBEq, ↓reduceIte, reduceCtorEq] <;> rfl⟩) ?_
  simp -implicitDefEqProofs (maxSteps := 2000000) only [push_cast, Nat.reduceEqDiff, Nat.reduceLT, Nat.reduceLeDiff, Nat.reduceAdd, Nat.reduceMul, Nat.reduceSub, Nat.reduceBEq, ↓reduceIte, reduceCtorEq]
  rw [if_neg (by omega)]
  refine Callx.closed (eqRoom ⟨insE r.events e⟩ ⟨insE r.events e⟩) rfl rfl (.inr ⟨rfl, rfl⟩) ?_
  simp -implicitDefEqProofs (maxSteps := 2000000) only [push_cast, Nat.reduceEqDiff, Nat.reduceLT, Nat.reduceLeDiff, Nat.reduceAdd, Nat.reduceMul, Nat.reduceSub, Nat.reduceBEq, ↓reduceIte, reduceCtorEq]
  have ht2 := totEv_le (insE r.events e)
  have hw2 : (eEventS (insE r.events e)).wt ≤ 1048577 := by
    unfold insE
    split
    · have e1 : (eEventS (r.events ++ [e])).wt = r.events.length + 1 + (wts (r.events.map eEvent) + (eEvent e).wt) := by simp [T.wt, wts_append, wts]
      have e2 : (eEventS r.events).wt = r.events.length + wts (r.events.map eEvent) := by simp [T.wt]
      omega
    · omega
  refine Callx.hand [9] (markRoom ⟨insE r.events e⟩ 1 (by omega) (by simp only; omega)) (by decide) (by simp only [push_cast, Nat.reduceEqDiff, Nat.reduceLT, Nat.reduceLeDiff, Nat.reduceAdd, Nat.reduceMul, Nat.reduceSub, Nat.reduceBEq, ↓reduceIte, reduceCtorEq]) rfl rfl (by simp only [push_cast, Nat.reduceEqDiff, Nat.reduceLT, Nat.reduceLeDiff, Nat.reduceAdd, Nat.reduceMul, Nat.reduceSub, Nat.reduceBEq, ↓reduceIte, reduceCtorEq] <;> rfl) rfl (.inr ⟨rfl, by simp only [push_cast, Nat.reduceEqDiff, Nat.reduceLT, Nat.reduceLeDiff, Nat.reduceAdd, Nat.reduceMul, Nat.reduceSub, Nat.reduceBEq, ↓reduceIte, reduceCtorEq] <;> rfl⟩) ?_
  simp -implicitDefEqProofs (maxSteps := 2000000) only [push_cast, Nat.reduceEqDiff, Nat.reduceLT, Nat.reduceLeDiff, Nat.reduceAdd, Nat.reduceMul, Nat.reduceSub, Nat.reduceBEq, ↓reduceIte, reduceCtorEq]
  refine Callx.closed (heldRoom (insE r.events e) 1 (by omega) (by omega)) rfl rfl (.inr ⟨rfl, rfl⟩) ?_
  simp -implicitDefEqProofs (maxSteps := 2000000) only [push_cast, Nat.reduceEqDiff, Nat.reduceLT, Nat.reduceLeDiff, Nat.reduceAdd, Nat.reduceMul, Nat.reduceSub, Nat.reduceBEq, ↓reduceIte, reduceCtorEq]
  rw [if_neg (by omega)]
  refine toR ?_
  simp -implicitDefEqProofs (maxSteps := 2000000) only [push_cast, Nat.reduceEqDiff, Nat.reduceLT, Nat.reduceLeDiff, Nat.reduceAdd, Nat.reduceMul, Nat.reduceSub, Nat.reduceBEq, ↓reduceIte, reduceCtorEq]
  refine toE ?_
  simp -implicitDefEqProofs (maxSteps := 2000000) only [push_cast, Nat.reduceEqDiff, Nat.reduceLT, Nat.reduceLeDiff, Nat.reduceAdd, Nat.reduceMul, Nat.reduceSub, Nat.reduceBEq, ↓reduceIte, reduceCtorEq]
  refine CallV.of (r := insT (insE r.events e) (codeE r.events e)) (implInsert r.events e hB hfs hfe (by omega)) (by simp only [push_cast, Nat.reduceEqDiff, Nat.reduceLT, Nat.reduceLeDiff, Nat.reduceAdd, Nat.reduceMul, Nat.reduceSub, Nat.reduceBEq, ↓reduceIte, reduceCtorEq]; rfl) rfl (.inl rfl) ?_
  simp -implicitDefEqProofs (maxSteps := 2000000) only [push_cast, Nat.reduceEqDiff, Nat.reduceLT, Nat.reduceLeDiff, Nat.reduceAdd, Nat.reduceMul, Nat.reduceSub, Nat.reduceBEq, ↓reduceIte, reduceCtorEq, insT]
  refine ⟨rfl, ?_⟩
  refine Callx.closed (eqRoom ⟨insE r.events e⟩ ⟨insE r.events e⟩) rfl rfl (.inl rfl) ?_
  simp -implicitDefEqProofs (maxSteps := 2000000) only [push_cast, Nat.reduceEqDiff, Nat.reduceLT, Nat.reduceLeDiff, Nat.reduceAdd, Nat.reduceMul, Nat.reduceSub, Nat.reduceBEq, ↓reduceIte, reduceCtorEq]
  refine Callx.closed (heldRoom (insE r.events e) 1 (by omega) (by omega)) rfl rfl (.inr ⟨rfl, rfl⟩) ?_
  simp -implicitDefEqProofs (maxSteps := 2000000) only [push_cast, Nat.reduceEqDiff, Nat.reduceLT, Nat.reduceLeDiff, Nat.reduceAdd, Nat.reduceMul, Nat.reduceSub, Nat.reduceBEq, ↓reduceIte, reduceCtorEq]
  rw [if_neg (by omega)]
  trivial
end Go.Proofs.Ytkgoglapagmapaa.BX
