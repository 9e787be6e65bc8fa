/-
  Tips.
-/
import Derived.Test.YtkgoglapagmapaaVr
namespace Go.Proofs.Ytkgoglapagmapaa.BX
set_option linter.unusedSectionVars false
set_option linter.unusedSimpArgs false
set_option linter.unusedVariables false
open Go Go.RowKit
set_option maxRecDepth 20000
set_option maxHeartbeats 400000
/-- one of these events rests on this id -/
def usedB (es : List Event) (id : List UInt8) : Bool := es.any fun e => decide (id ∈ e.prev)
theorem usedB_snoc {es : List Event} {i : Nat} {e : Event} {id : List UInt8} (h : es[i]? = some e) : usedB (es.take (i + 1)) id = (usedB (es.take i) id || decide (id ∈ e.prev)) := by
  unfold usedB
  rw [List.take_add_one, h, List.any_append]
  simp
def tipP (es : List Event) (i : Nat) : Bool := match es[i]? with
  | some a => !usedB es a.id
  | none => false
theorem tipP_at {es : List Event} {i : Nat} {a : Event} (h : es[i]? = some a) : tipP es i = !usedB es a.id := by
  unfold tipP; rw [h]
noncomputable def tipsL (es : List Event) : List (List UInt8) := if roomB es = true then srt (idsN es (tipP es) es.length) else []
noncomputable def tipsC (es : List Event) : Int := if roomB es = true then 0 else 1
variable [Bd]
theorem specTips (es : List Event) (hB : Bd.B ≤ 2147483648) : Con P0 27 [eRoom ⟨es⟩] (.tp [.sr 0, .t (.i .i64 (tipsC es))]) [.arr 9 1 (.own .leaf) ((tipsL es).map T.s)] := by
  refine Con.intro (fn := Try.f27) [.tmp 2, .tmp 3] (fun i => if i = 11 then (16, []) else (0, [])) mixed (by kernel_rfl) rfl (by decide) rfl (by rfl) (by kernel_rfl) ?_
  simp -implicitDefEqProofs (maxSteps := 2000000) only [push_cast, Nat.reduceEqDiff, Nat.reduceLT, Nat.reduceLeDiff, Nat.reduceAdd, Nat.reduceMul, Nat.reduceSub, Nat.reduceBEq, ↓reduceIte, reduceCtorEq, eRoom]
  have := Bd.lo
  refine ⟨rfl, by omega, ?_⟩
  refine Callx.closed (specRoomOk es) rfl rfl (.inr ⟨rfl, rfl⟩) ?_
  simp -implicitDefEqProofs (maxSteps := 2000000) only [push_cast, Nat.reduceEqDiff, Nat.reduceLT, Nat.reduceLeDiff, Nat.reduceAdd, Nat.reduceMul, Nat.reduceSub, Nat.reduceBEq, ↓reduceIte, reduceCtorEq, eRoom]
  refine iteI (fun hr => ?_) (fun hr => ?_)
  · have hr : roomB es = false := by simpa using hr
    have h1 : tipsL es = [] := if_neg (by rw [hr]; simp)
    have h2 : tipsC es = 1 := if_neg (by rw [hr]; simp)
    rw [h1, h2]
    exact Close.of [some 1] rfl rfl rfl (by simp only [push_cast, Nat.reduceEqDiff, Nat.reduceLT, Nat.reduceLeDiff, Nat.reduceAdd, Nat.reduceMul, Nat.reduceSub, Nat.reduceBEq, ↓reduceIte, reduceCtorEq] <;> rfl) (by simp only [push_cast, Nat.reduceEqDiff, Nat.reduceLT, Nat.reduceLeDiff, Nat.reduceAdd, Nat.reduceMul, Nat.reduceSub, Nat.reduceBEq, ↓reduceIte, reduceCtorEq] <;> rfl)
  have hr : roomB es = true := by simpa using hr
  have hv := room_valid hr
  have ht : tipsL es = sset (idsN es (tipP es) es.length) := by unfold tipsL; rw [if_pos hr, sset_srt (idsN_nodup hv.once)]
  have ht2 : tipsC es = 0 := if_pos hr
  refine WL.loop (ι := Nat) (D := (fun i => if i = 11 then (16, []) else (0, []))) (fun i => i ≤ es.length) (fun i => ⟨56, [(1, .rf 0 0), (4, .sr 1), (5, .t (.i .i64 i))], [.box (.t (eRoom ⟨es⟩)), .arr 9 1 (.own .leaf) ((idsN es (tipP es) i).map T.s)]⟩) (fun i => es.length - i) mixed (by kernel_rfl) 0 (by omega) (Keep.wk (ids := [some 0, some 1]) ?_) ?_
  · simp only [push_cast, Nat.reduceEqDiff, Nat.reduceLT, Nat.reduceLeDiff, Nat.reduceAdd, Nat.reduceMul, Nat.reduceSub, Nat.reduceBEq, ↓reduceIte, reduceCtorEq, eRoom, idsN, List.range_zero, List.filterMap_nil] <;> rfl
  · intro i hi
    simp -implicitDefEqProofs (maxSteps := 2000000) only [push_cast, Nat.reduceEqDiff, Nat.reduceLT, Nat.reduceLeDiff, Nat.reduceAdd, Nat.reduceMul, Nat.reduceSub, Nat.reduceBEq, ↓reduceIte, reduceCtorEq, eRoom]
    intro hlen
    have hhi := Bd.hi
    refine iteI (fun h => ?_) (fun h => ?_)
    · obtain ⟨a, ha⟩ : ∃ a, es[i]? = some a := ⟨_, List.getElem?_eq_getElem (by omega)⟩
      have hsn := idsN_snoc (p := tipP es) ha
      have hil := idsN_len (es := es) (p := tipP es) (n := i)
      rw [tipP_at ha] at hsn
      refine WL.loop (ι := Nat) (D := (fun i => if i = 11 then (16, []) else (0, []))) (fun j => j ≤ es.length) (fun j => ⟨56, [(1, .rf 0 0), (4, .sr 1), (5, .t (.i .i64 i)), (6, .t (.b (usedB (es.take j) a.id))), (7, .t (.i .i64 j))], [.box (.t (eRoom ⟨es⟩)), .arr 9 1 (.own .leaf) ((idsN es (tipP es) i).map T.s)]⟩) (fun j => es.length - j) mixed (by kernel_rfl) 0 (by omega) (Keep.wk (ids := [some 0, some 1]) ?_) ?_
      · simp only [push_cast, Nat.reduceEqDiff, Nat.reduceLT, Nat.reduceLeDiff, Nat.reduceAdd, Nat.reduceMul, Nat.reduceSub, Nat.reduceBEq, ↓reduceIte, reduceCtorEq, eRoom, usedB, List.take_zero, List.any_nil] <;> rfl
      · intro j hj
        simp -implicitDefEqProofs (maxSteps := 2000000) only [push_cast, Nat.reduceEqDiff, Nat.reduceLT, Nat.reduceLeDiff, Nat.reduceAdd, Nat.reduceMul, Nat.reduceSub, Nat.reduceBEq, ↓reduceIte, reduceCtorEq, eRoom, eEvent]
        intro _
        have e1 : (Int.toNat (i : Int)) = i := Int.toNat_natCast _
        have e2 : (Int.toNat (j : Int)) = j := Int.toNat_natCast _
        simp only [e1, e2]
        refine iteI (fun h2 => ?_) (fun h2 => ?_)
        · obtain ⟨b, hb⟩ : ∃ b, es[j]? = some b := ⟨_, List.getElem?_eq_getElem (by omega)⟩
          have hu := usedB_snoc (id := a.id) hb
          refine iteI (fun h3 => ?_) (fun h3 => ?_)
          · rw [h3, Bool.true_or] at hu
            refine ⟨by unfold inI64; omega, j + 1, by omega, by omega, Keep.wk (ids := [some 0, some 1]) ?_⟩
            rw [hu]
            simp only [push_cast, Nat.reduceEqDiff, Nat.reduceLT, Nat.reduceLeDiff, Nat.reduceAdd, Nat.reduceMul, Nat.reduceSub, Nat.reduceBEq, ↓reduceIte, reduceCtorEq, eRoom] <;> rfl
          · have h3 : usedB (es.take j) a.id = false := by simpa using h3
            rw [h3, Bool.false_or] at hu
            refine ⟨by omega, fun b' hb' => ⟨by omega, fun a' ha' => ?_⟩⟩
            rw [hb] at hb'; cases hb'
            rw [ha] at ha'; cases ha'
            refine CallV.t (l1Has b.prev a.id) (.inl rfl) ?_
            simp -implicitDefEqProofs (maxSteps := 2000000) only [push_cast, Nat.reduceEqDiff, Nat.reduceLT, Nat.reduceLeDiff, Nat.reduceAdd, Nat.reduceMul, Nat.reduceSub, Nat.reduceBEq, ↓reduceIte, reduceCtorEq, eRoom, eEvent]
            refine ⟨by unfold inI64; omega, j + 1, by omega, by omega, Keep.wk (ids := [some 0, some 1]) ?_⟩
            rw [hu]
            simp only [push_cast, Nat.reduceEqDiff, Nat.reduceLT, Nat.reduceLeDiff, Nat.reduceAdd, Nat.reduceMul, Nat.reduceSub, Nat.reduceBEq, ↓reduceIte, reduceCtorEq, eRoom] <;> rfl
        · rw [List.take_of_length_le (i := j) (by omega)]
          refine iteI (fun h3 => ?_) (fun h3 => ?_)
          · rw [if_pos h3] at hsn
            refine ⟨by omega, fun a' ha' => ?_⟩
            rw [ha] at ha'; cases ha'
            refine ⟨rfl, by omega, rfl, by omega, by omega, by unfold inI64; omega, i + 1, by omega, by omega, Keep.wk (ids := [some 0, some 3]) ?_⟩
            rw [hsn]
            simp only [push_cast, Nat.reduceEqDiff, Nat.reduceLT, Nat.reduceLeDiff, Nat.reduceAdd, Nat.reduceMul, Nat.reduceSub, Nat.reduceBEq, ↓reduceIte, reduceCtorEq, eRoom, List.map_append] <;> rfl
          · rw [if_neg h3, List.append_nil] at hsn
            refine ⟨by unfold inI64; omega, i + 1, by omega, by omega, Keep.wk (ids := [some 0, some 1]) ?_⟩
            rw [hsn]
            simp only [push_cast, Nat.reduceEqDiff, Nat.reduceLT, Nat.reduceLeDiff, Nat.reduceAdd, Nat.reduceMul, Nat.reduceSub, Nat.reduceBEq, ↓reduceIte, reduceCtorEq, eRoom] <;> rfl
    · rw [show i = es.length by omega]
      refine Callx.closed (l2Sorted (idsN es (tipP es) es.length) hB) rfl rfl (.inr ⟨rfl, rfl⟩) ?_
      simp -implicitDefEqProofs (maxSteps := 2000000) only [push_cast, Nat.reduceEqDiff, Nat.reduceLT, Nat.reduceLeDiff, Nat.reduceAdd, Nat.reduceMul, Nat.reduceSub, Nat.reduceBEq, ↓reduceIte, reduceCtorEq, eRoom]
      rw [ht, ht2]
      exact Close.of [some 2] rfl rfl rfl (by simp only [push_cast, Nat.reduceEqDiff, Nat.reduceLT, Nat.reduceLeDiff, Nat.reduceAdd, Nat.reduceMul, Nat.reduceSub, Nat.reduceBEq, ↓reduceIte, reduceCtorEq] <;> rfl) (by simp only [push_cast, Nat.reduceEqDiff, Nat.reduceLT, Nat.reduceLeDiff, Nat.reduceAdd, Nat.reduceMul, Nat.reduceSub, Nat.reduceBEq, ↓reduceIte, reduceCtorEq] <;> rfl)
/-- which events something rests on -/
def hadOk (es : List Event) (had : List Bool) (u : List UInt8 → Bool) : Prop := had.length = es.length ∧ ∀ (k : Nat) (a : Event), es[k]? = some a → had[k]? = some (u a.id)
theorem setMapB {xs : List Bool} {i : Nat} {v : Bool} : (List.map T.b xs).set i (T.b v) = List.map T.b (xs.set i v) := List.map_set.symm
theorem hadOk.set {es : List Event} (ho : Once es) {had : List Bool} {u : List UInt8 → Bool} (h : hadOk es had u) {k : Nat} {a : Event} (ha : es[k]? = some a) : hadOk es (had.set k true) (fun id => u id || decide (id = a.id)) := by
  refine ⟨by rw [List.length_set]; exact h.1, fun j b hb => ?_⟩
  rw [List.getElem?_set]
  split
  · rename_i hkj
    subst hkj
    rw [ha] at hb; cases hb
    have := (List.getElem?_eq_some_iff.1 ha).1
    rw [if_pos (by rw [h.1]; exact this)]
    simp
  · rename_i hkj
    rw [h.2 j b hb]
    have : b.id ≠ a.id := fun he => hkj (once_at ho ha hb he.symm)
    simp [this]
theorem tips1 (had : List Bool) (i : Nat) (hi : i < had.length) : Con P0 79 [.i .i64 i, .po (.sl (had.map T.b)) 0] (.t (.b (!had[i]))) [] := by
  refine Con.intro (fn := Try.f79) [.tmp 3] (fun _ => (0, [])) mixed (by kernel_rfl) rfl (by decide) rfl (by rfl) (by kernel_rfl) ?_
  simp -implicitDefEqProofs (maxSteps := 2000000) only [push_cast, Nat.reduceEqDiff, Nat.reduceLT, Nat.reduceLeDiff, Nat.reduceAdd, Nat.reduceMul, Nat.reduceSub, Nat.reduceBEq, ↓reduceIte, reduceCtorEq]
  refine ⟨by omega, fun a ha => ?_⟩
  rw [Int.toNat_natCast, List.getElem?_eq_getElem hi] at ha
  cases ha
  rfl
theorem implTips (es : List Event) (hB : Bd.B ≤ 2147483648) : Con P0 28 [eRoom ⟨es⟩] (.tp [.sr 0, .t (.i .i64 (tipsC es))]) [.arr 9 1 (.own .leaf) ((tipsL es).map T.s)] := by
  refine Con.intro (fn := Try.f28) [.tmp 2, .tmp 3] (fun i => if i = 11 then (8, []) else (0, [])) mixed (by kernel_rfl) rfl (by decide) rfl (by rfl) (by kernel_rfl) ?_
  simp -implicitDefEqProofs (maxSteps := 2000000) only [push_cast, Nat.reduceEqDiff, Nat.reduceLT, Nat.reduceLeDiff, Nat.reduceAdd, Nat.reduceMul, Nat.reduceSub, Nat.reduceBEq, ↓reduceIte, reduceCtorEq, eRoom]
  refine Callx.closed (graphOf es hB) rfl rfl (.inl rfl) ?_
  simp -implicitDefEqProofs (maxSteps := 2000000) only [push_cast, Nat.reduceEqDiff, Nat.reduceLT, Nat.reduceLeDiff, Nat.reduceAdd, Nat.reduceMul, Nat.reduceSub, Nat.reduceBEq, ↓reduceIte, reduceCtorEq, eRoom]
  by_cases hr : roomB es = true
  · rw [if_pos hr]
    simp -implicitDefEqProofs (maxSteps := 2000000) only [push_cast, Nat.reduceEqDiff, Nat.reduceLT, Nat.reduceLeDiff, Nat.reduceAdd, Nat.reduceMul, Nat.reduceSub, Nat.reduceBEq, ↓reduceIte, reduceCtorEq, eRoom, gT]
    have := Bd.lo
    have hv := room_valid hr
    refine fun hlen => ⟨by omega, by omega, by omega, fun _ => ?_⟩
    rw [Int.toNat_natCast]
    refine WL.loop (ι := Nat × List Bool) (D := (fun i => if i = 11 then (8, []) else (0, []))) (fun i => i.1 ≤ es.length ∧ hadOk es i.2 (usedB (es.take i.1))) (fun i => ⟨49, [(4, .t (gT es)), (5, .rf 1 0), (23, .t (eEventS es)), (24, .t (.i .i64 es.length)), (25, .t (.i .i64 i.1))], [.arr 4 1 (.own .leaf) (i.2.map T.b), .box (.sr 0)]⟩) (fun i => es.length - i.1) mixed (by kernel_rfl) (0, List.replicate es.length false) ⟨by simp, by simp, fun k a ha => ?_⟩ (Keep.wk (ids := [some 1, some 2]) ?_) ?_
    · have := (List.getElem?_eq_some_iff.1 ha).1
      rw [List.getElem?_replicate, if_pos this]
      simp [usedB]
    · simp only [push_cast, Nat.reduceEqDiff, Nat.reduceLT, Nat.reduceLeDiff, Nat.reduceAdd, Nat.reduceMul, Nat.reduceSub, Nat.reduceBEq, ↓reduceIte, reduceCtorEq, gT, List.map_replicate] <;> rfl
    · rintro ⟨i, had⟩ ⟨hi, hh⟩
      simp only at hi hh
      simp -implicitDefEqProofs (maxSteps := 2000000) only [push_cast, Nat.reduceEqDiff, Nat.reduceLT, Nat.reduceLeDiff, Nat.reduceAdd, Nat.reduceMul, Nat.reduceSub, Nat.reduceBEq, ↓reduceIte, reduceCtorEq, gT, eEvent]
      have hhi := Bd.hi
      refine iteI (fun h => ?_) (fun h => ?_)
      · refine ⟨by omega, fun e he hpl => ?_⟩
        rw [Int.toNat_natCast] at he
        refine WL.loop (ι := Nat × List Bool) (D := (fun i => if i = 11 then (8, []) else (0, []))) (fun j => j.1 ≤ e.prev.length ∧ hadOk es j.2 (fun id => usedB (es.take i) id || decide (id ∈ e.prev.take j.1))) (fun j => ⟨49, [(4, .t (gT es)), (5, .rf 1 0), (23, .t (eEventS es)), (24, .t (.i .i64 es.length)), (25, .t (.i .i64 i)), (30, .t (eStringS e.prev)), (31, .t (.i .i64 e.prev.length)), (32, .t (.i .i64 j.1))], [.arr 4 1 (.own .leaf) (j.2.map T.b), .box (.sr 0)]⟩) (fun j => e.prev.length - j.1) mixed (by kernel_rfl) (0, had) ⟨by simp, by simpa using hh⟩ (Keep.wk (ids := [some 0, some 1]) ?_) ?_
        · simp only [push_cast, Nat.reduceEqDiff, Nat.reduceLT, Nat.reduceLeDiff, Nat.reduceAdd, Nat.reduceMul, Nat.reduceSub, Nat.reduceBEq, ↓reduceIte, reduceCtorEq, gT] <;> rfl
        · rintro ⟨j, had⟩ ⟨hj, hh⟩
          simp only at hj hh
          simp -implicitDefEqProofs (maxSteps := 2000000) only [push_cast, Nat.reduceEqDiff, Nat.reduceLT, Nat.reduceLeDiff, Nat.reduceAdd, Nat.reduceMul, Nat.reduceSub, Nat.reduceBEq, ↓reduceIte, reduceCtorEq, gT]
          refine iteI (fun h2 => ⟨by omega, fun id hid => ?_⟩) (fun h2 => ?_)
          · rw [Int.toNat_natCast] at hid
            obtain ⟨k, a, hki, hka, rfl, hp⟩ := pos_ref ((hv.good he).prev id (List.mem_of_getElem? hid))
            refine gLook rfl (fun k' hk' => ?_) (fun hk' => by rw [hp] at hk'; cases hk')
            rw [hp] at hk'; cases hk'
            simp -implicitDefEqProofs (maxSteps := 2000000) only [push_cast, Nat.reduceEqDiff, Nat.reduceLT, Nat.reduceLeDiff, Nat.reduceAdd, Nat.reduceMul, Nat.reduceSub, Nat.reduceBEq, ↓reduceIte, reduceCtorEq, setMapB]
            have hkl : k < had.length := by rw [hh.1]; omega
            refine ⟨by omega, by omega, fun _ _ => ⟨by unfold inI64; omega, (j + 1, had.set k true), ⟨by simp only; omega, ?_⟩, by simp only; omega, Keep.wk (ids := [some 0, some 1]) ?_⟩⟩
            · have := hh.set hv.once hka
              refine ⟨this.1, fun k' b hb => ?_⟩
              rw [this.2 k' b hb, List.take_add_one, hid]
              simp only [Option.toList_some, List.mem_append, List.mem_singleton, Option.some.injEq, Bool.or_assoc]
              congr 1
              simp
            · rw [Int.toNat_natCast]
              simp only [push_cast, Nat.reduceEqDiff, Nat.reduceLT, Nat.reduceLeDiff, Nat.reduceAdd, Nat.reduceMul, Nat.reduceSub, Nat.reduceBEq, ↓reduceIte, reduceCtorEq, gT] <;> rfl
          · rw [show j = e.prev.length by omega, List.take_length] at hh
            refine ⟨by unfold inI64; omega, (i + 1, had), ⟨by simp only; omega, hh.1, fun k a ha => ?_⟩, by simp only; omega, Keep.wk (ids := [some 0, some 1]) ?_⟩
            · rw [hh.2 k a ha, usedB_snoc he]
            · simp only [push_cast, Nat.reduceEqDiff, Nat.reduceLT, Nat.reduceLeDiff, Nat.reduceAdd, Nat.reduceMul, Nat.reduceSub, Nat.reduceBEq, ↓reduceIte, reduceCtorEq, gT] <;> rfl
      · have hie : i = es.length := by omega
        rw [hie, List.take_length] at hh
        have h1 : tipsL es = srt (idsN es (tipP es) es.length) := if_pos hr
        have h2 : tipsC es = 0 := if_pos hr
        have hp : ∀ i, i < es.length → Con P0 79 (.i .i64 i :: [.po (.sl (had.map T.b)) 0]) (.t (.b (tipP es i))) [] := fun i hi => by
          have ht := tips1 had i (by rw [hh.1]; exact hi)
          have hg := hh.2 i _ (List.getElem?_eq_getElem hi)
          rw [List.getElem?_eq_getElem (by rw [hh.1]; exact hi), Option.some.injEq] at hg
          rw [tipP_at (List.getElem?_eq_getElem hi), ← hg]
          exact ht
        refine Callx.closed (graphNamed es 79 [.po (.sl (had.map T.b)) 0] (tipP es) ⟨_, Try.func79, rfl, rfl⟩ hp hB) rfl rfl (.inr ⟨rfl, rfl⟩) ?_
        simp -implicitDefEqProofs (maxSteps := 2000000) only [push_cast, Nat.reduceEqDiff, Nat.reduceLT, Nat.reduceLeDiff, Nat.reduceAdd, Nat.reduceMul, Nat.reduceSub, Nat.reduceBEq, ↓reduceIte, reduceCtorEq, gT]
        rw [h1, h2]
        exact Close.of [some 2] rfl rfl rfl (by simp only [push_cast, Nat.reduceEqDiff, Nat.reduceLT, Nat.reduceLeDiff, Nat.reduceAdd, Nat.reduceMul, Nat.reduceSub, Nat.reduceBEq, ↓reduceIte, reduceCtorEq] <;> rfl) (by simp only [push_cast, Nat.reduceEqDiff, Nat.reduceLT, Nat.reduceLeDiff, Nat.reduceAdd, Nat.reduceMul, Nat.reduceSub, Nat.reduceBEq, ↓reduceIte, reduceCtorEq] <;> rfl)
  · rw [if_neg hr]
    simp -implicitDefEqProofs (maxSteps := 2000000) only [push_cast, Nat.reduceEqDiff, Nat.reduceLT, Nat.reduceLeDiff, Nat.reduceAdd, Nat.reduceMul, Nat.reduceSub, Nat.reduceBEq, ↓reduceIte, reduceCtorEq, eRoom, gT]
    have h1 : tipsL es = [] := if_neg hr
    have h2 : tipsC es = 1 := if_neg hr
    rw [h1, h2]
    exact Close.of [none] rfl rfl rfl (by simp only [push_cast, Nat.reduceEqDiff, Nat.reduceLT, Nat.reduceLeDiff, Nat.reduceAdd, Nat.reduceMul, Nat.reduceSub, Nat.reduceBEq, ↓reduceIte, reduceCtorEq] <;> rfl) (by simp only [push_cast, Nat.reduceEqDiff, Nat.reduceLT, Nat.reduceLeDiff, Nat.reduceAdd, Nat.reduceMul, Nat.reduceSub, Nat.reduceBEq, ↓reduceIte, reduceCtorEq] <;> rfl)
end Go.Proofs.Ytkgoglapagmapaa.BX
