/-
  What events rest on: the document's walk and the program's.
-/
import Derived.Test.YthhgcklidfilfaaCh
namespace Go.Proofs.Ythhgcklidfilfaa.BX
set_option linter.unusedSectionVars false
set_option linter.unusedSimpArgs false
set_option linter.unusedVariables false
open Go Go.RowKit
set_option maxRecDepth 20000
set_option maxHeartbeats 400000
variable [Bd]
theorem l2Chain (es : List Event) (ids : List (List UInt8)) (hv : Valid es) (hids : ∀ id ∈ ids, There es id) (hB : Bd.B ≤ 2147483648) : Con P0 151 [eRoom ⟨es⟩, eStringS ids] (.sr 0) [.arr 9 1 (.own .leaf) ((ancL es (ids.flatMap (authOf es))).map T.s)] := by
  refine Con.intro (fn := Try.f151) [.tmp 4] (fun i => if i = 14 then (12, []) else if i = 5 then (12, []) else (0, [])) mixed (by kernel_rfl) rfl (by decide) rfl (by rfl) (by kernel_rfl) ?_
  simp -implicitDefEqProofs (maxSteps := 2000000) only [push_cast, Nat.reduceEqDiff, Nat.reduceLT, Nat.reduceLeDiff, Nat.reduceAdd, Nat.reduceMul, Nat.reduceSub, Nat.reduceBEq, ↓reduceIte, reduceCtorEq, eRoom]
  have := Bd.lo
  have hhi := Bd.hi
  have hel := hv.len
  have hrs : ∀ x ∈ ids.flatMap (authOf es), There es x := fun x hx => by
    obtain ⟨y, _, hx⟩ := List.mem_flatMap.1 hx
    exact hv.there hx
  obtain ⟨rs, hrse⟩ : ∃ rs, ids.flatMap (authOf es) = rs := ⟨_, rfl⟩
  rw [hrse] at hrs ⊢
  refine ⟨rfl, by omega, ?_⟩
  refine WL.loop (ι := Nat × List (List UInt8)) (D := (fun i => if i = 14 then (12, []) else if i = 5 then (12, []) else (0, []))) (fun i => i.1 ≤ ids.length ∧ Out es rs i.2 ((ids.take i.1).flatMap (authOf es))) (fun i => ⟨89, [(1, .t (eStringS ids)), (2, .rf 0 0), (5, .sr 1), (6, .t (.i .i64 i.1))], [.box (.t (eRoom ⟨es⟩)), .arr 9 1 (.own .leaf) (i.2.map T.s)]⟩) (fun i => ids.length - i.1) mixed (by kernel_rfl) (0, []) ⟨by simp, by simp, by simp, by simp⟩ (Keep.wk (ids := [some 0, some 1]) ?_) ?_
  · simp only [push_cast, Nat.reduceEqDiff, Nat.reduceLT, Nat.reduceLeDiff, Nat.reduceAdd, Nat.reduceMul, Nat.reduceSub, Nat.reduceBEq, ↓reduceIte, reduceCtorEq, eRoom] <;> rfl
  · rintro ⟨i, out⟩ ⟨hi, ho⟩
    simp only at hi ho
    have hol := ho.len hv hrs
    simp -implicitDefEqProofs (maxSteps := 2000000) only [push_cast, Nat.reduceEqDiff, Nat.reduceLT, Nat.reduceLeDiff, Nat.reduceAdd, Nat.reduceMul, Nat.reduceSub, Nat.reduceBEq, ↓reduceIte, reduceCtorEq, eRoom]
    intro hlen
    refine iteI (fun h => ?_) (fun h => ?_)
    · refine ⟨by omega, fun id hid => ?_⟩
      rw [Int.toNat_natCast] at hid
      obtain ⟨k, e, hke, heid, hp⟩ := there_at (hids id (List.mem_of_getElem? hid))
      have hau := authOf_at hp hke
      have hat : atI es id = k := by unfold atI; rw [hp]
      refine CallV.t (l2At es id) (.inl rfl) ?_
      rw [hat]
      simp -implicitDefEqProofs (maxSteps := 2000000) only [push_cast, Nat.reduceEqDiff, Nat.reduceLT, Nat.reduceLeDiff, Nat.reduceAdd, Nat.reduceMul, Nat.reduceSub, Nat.reduceBEq, ↓reduceIte, reduceCtorEq, eRoom]
      have hkl := (List.getElem?_eq_some_iff.1 hke).1
      refine ⟨by omega, fun e' he' => ?_⟩
      rw [Int.toNat_natCast, hke] at he'
      cases he'
      simp -implicitDefEqProofs (maxSteps := 2000000) only [push_cast, Nat.reduceEqDiff, Nat.reduceLT, Nat.reduceLeDiff, Nat.reduceAdd, Nat.reduceMul, Nat.reduceSub, Nat.reduceBEq, ↓reduceIte, reduceCtorEq, eRoom, eEvent]
      have hanc : ∀ x ∈ e.auth, Anc es rs x := fun x hx => .root (hrse ▸ List.mem_flatMap.2 ⟨id, List.mem_of_getElem? hid, hau ▸ hx⟩)
      refine WL.loop (ι := Nat × List (List UInt8)) (D := (fun i => if i = 14 then (12, []) else if i = 5 then (12, []) else (0, []))) (fun j => j.1 ≤ e.auth.length ∧ Out es rs j.2 ((ids.take i).flatMap (authOf es) ++ e.auth.take j.1)) (fun j => ⟨89, [(1, .t (eStringS ids)), (2, .rf 0 0), (5, .sr 1), (6, .t (.i .i64 i)), (7, .t (eStringS e.auth)), (8, .t (.i .i64 j.1))], [.box (.t (eRoom ⟨es⟩)), .arr 9 1 (.own .leaf) (j.2.map T.s)]⟩) (fun j => e.auth.length - j.1) mixed (by kernel_rfl) (0, out) ⟨by simp, by simpa using ho⟩ (Keep.wk (ids := [some 0, some 1]) ?_) ?_
      · simp only [push_cast, Nat.reduceEqDiff, Nat.reduceLT, Nat.reduceLeDiff, Nat.reduceAdd, Nat.reduceMul, Nat.reduceSub, Nat.reduceBEq, ↓reduceIte, reduceCtorEq, eRoom] <;> rfl
      · rintro ⟨j, out⟩ ⟨hj, ho⟩
        simp only at hj ho
        have hol := ho.len hv hrs
        simp -implicitDefEqProofs (maxSteps := 2000000) only [push_cast, Nat.reduceEqDiff, Nat.reduceLT, Nat.reduceLeDiff, Nat.reduceAdd, Nat.reduceMul, Nat.reduceSub, Nat.reduceBEq, ↓reduceIte, reduceCtorEq, eRoom]
        intro _
        refine iteI (fun h2 => ⟨by omega, fun x hx => ?_⟩) (fun h2 => ?_)
        · rw [Int.toNat_natCast] at hx
          have htx : e.auth.take (j + 1) = e.auth.take j ++ [x] := by rw [List.take_add_one, hx]; rfl
          refine Callx.closed (l1Has out x) rfl rfl (.inr ⟨rfl, rfl⟩) ?_
          simp -implicitDefEqProofs (maxSteps := 2000000) only [push_cast, Nat.reduceEqDiff, Nat.reduceLT, Nat.reduceLeDiff, Nat.reduceAdd, Nat.reduceMul, Nat.reduceSub, Nat.reduceBEq, ↓reduceIte, reduceCtorEq, eRoom]
          refine iteI (fun h3 => ?_) (fun h3 => ?_)
          · refine ⟨by omega, fun x' hx' => ?_⟩
            rw [Int.toNat_natCast, hx] at hx'
            cases hx'
            have h3 : x ∉ out := by simpa using h3
            refine ⟨rfl, by omega, rfl, by omega, by omega, by unfold inI64; omega, (j + 1, out ++ [x]), ⟨by simp only; omega, ?_⟩, by simp only; omega, Keep.wk (ids := [some 0, some 3]) ?_⟩
            · simp only
              rw [htx, ← List.append_assoc]
              exact ho.new h3 (hanc x (List.mem_of_getElem? hx))
            · simp only [push_cast, Nat.reduceEqDiff, Nat.reduceLT, Nat.reduceLeDiff, Nat.reduceAdd, Nat.reduceMul, Nat.reduceSub, Nat.reduceBEq, ↓reduceIte, reduceCtorEq, eRoom, List.map_append] <;> rfl
          · have h3 : x ∈ out := by simpa using h3
            refine ⟨by unfold inI64; omega, (j + 1, out), ⟨by simp only; omega, ?_⟩, by simp only; omega, Keep.wk (ids := [some 0, some 1]) ?_⟩
            · simp only
              rw [htx, ← List.append_assoc]
              exact ho.old h3
            · simp only [push_cast, Nat.reduceEqDiff, Nat.reduceLT, Nat.reduceLeDiff, Nat.reduceAdd, Nat.reduceMul, Nat.reduceSub, Nat.reduceBEq, ↓reduceIte, reduceCtorEq, eRoom] <;> rfl
        · rw [List.take_of_length_le (l := e.auth) (by omega)] at ho
          refine ⟨by unfold inI64; omega, (i + 1, out), ⟨by simp only; omega, ?_⟩, by simp only; omega, Keep.wk (ids := [some 0, some 1]) ?_⟩
          · simp only
            rw [List.take_add_one, hid, List.flatMap_append]
            simpa [hau] using ho
          · simp only [push_cast, Nat.reduceEqDiff, Nat.reduceLT, Nat.reduceLeDiff, Nat.reduceAdd, Nat.reduceMul, Nat.reduceSub, Nat.reduceBEq, ↓reduceIte, reduceCtorEq, eRoom] <;> rfl
    · rw [List.take_of_length_le (by omega), hrse] at ho
      refine WL.loop (ι := Nat × List (List UInt8)) (D := (fun i => if i = 14 then (12, []) else if i = 5 then (12, []) else (0, []))) (fun i => i.1 ≤ i.2.length ∧ Out es rs i.2 (rs ++ (i.2.take i.1).flatMap (authOf es))) (fun i => ⟨89, [(2, .rf 0 0), (5, .sr 1), (9, .t (.i .i64 i.1))], [.box (.t (eRoom ⟨es⟩)), .arr 9 1 (.own .leaf) (i.2.map T.s)]⟩) (fun i => es.length - i.1) mixed (by kernel_rfl) (0, out) ⟨by simp, by simpa using ho⟩ (Keep.wk (ids := [some 0, some 1]) ?_) ?_
      · simp only [push_cast, Nat.reduceEqDiff, Nat.reduceLT, Nat.reduceLeDiff, Nat.reduceAdd, Nat.reduceMul, Nat.reduceSub, Nat.reduceBEq, ↓reduceIte, reduceCtorEq, eRoom] <;> rfl
      · rintro ⟨i, out⟩ ⟨hi, ho⟩
        simp only at hi ho
        have hol := ho.len hv hrs
        simp -implicitDefEqProofs (maxSteps := 2000000) only [push_cast, Nat.reduceEqDiff, Nat.reduceLT, Nat.reduceLeDiff, Nat.reduceAdd, Nat.reduceMul, Nat.reduceSub, Nat.reduceBEq, ↓reduceIte, reduceCtorEq, eRoom]
        intro _
        refine iteI (fun h => ?_) (fun h => ?_)
        · refine ⟨by omega, by omega, fun id hid => ?_⟩
          rw [Int.toNat_natCast] at hid
          have hida := ho.anc id (List.mem_of_getElem? hid)
          obtain ⟨k, e, hke, heid, hp⟩ := there_at (hida.there hv hrs)
          have hau := authOf_at hp hke
          have hat : atI es id = k := by unfold atI; rw [hp]
          refine CallV.t (l2At es id) (.inl rfl) ?_
          rw [hat]
          simp -implicitDefEqProofs (maxSteps := 2000000) only [push_cast, Nat.reduceEqDiff, Nat.reduceLT, Nat.reduceLeDiff, Nat.reduceAdd, Nat.reduceMul, Nat.reduceSub, Nat.reduceBEq, ↓reduceIte, reduceCtorEq, eRoom]
          have hkl := (List.getElem?_eq_some_iff.1 hke).1
          refine ⟨by omega, fun e' he' => ?_⟩
          rw [Int.toNat_natCast, hke] at he'
          cases he'
          simp -implicitDefEqProofs (maxSteps := 2000000) only [push_cast, Nat.reduceEqDiff, Nat.reduceLT, Nat.reduceLeDiff, Nat.reduceAdd, Nat.reduceMul, Nat.reduceSub, Nat.reduceBEq, ↓reduceIte, reduceCtorEq, eRoom, eEvent]
          have hanc : ∀ x ∈ e.auth, Anc es rs x := fun x hx => .step hida (hau ▸ hx)
          obtain ⟨pre, hpre⟩ : ∃ pre, out.take i = pre := ⟨_, rfl⟩
          have hpi : out.take (i + 1) = pre ++ [id] := by rw [List.take_add_one, hid, hpre]; rfl
          rw [hpre] at ho
          refine WL.loop (ι := Nat × List (List UInt8)) (D := (fun i => if i = 14 then (12, []) else if i = 5 then (12, []) else (0, []))) (fun j => j.1 ≤ e.auth.length ∧ i + 1 ≤ j.2.length ∧ j.2.take (i + 1) = pre ++ [id] ∧ Out es rs j.2 (rs ++ pre.flatMap (authOf es) ++ e.auth.take j.1)) (fun j => ⟨89, [(2, .rf 0 0), (5, .sr 1), (9, .t (.i .i64 i)), (10, .t (eStringS e.auth)), (11, .t (.i .i64 j.1))], [.box (.t (eRoom ⟨es⟩)), .arr 9 1 (.own .leaf) (j.2.map T.s)]⟩) (fun j => e.auth.length - j.1) mixed (by kernel_rfl) (0, out) ⟨by simp, by simp only; omega, hpi, by simpa using ho⟩ (Keep.wk (ids := [some 0, some 1]) ?_) ?_
          · simp only [push_cast, Nat.reduceEqDiff, Nat.reduceLT, Nat.reduceLeDiff, Nat.reduceAdd, Nat.reduceMul, Nat.reduceSub, Nat.reduceBEq, ↓reduceIte, reduceCtorEq, eRoom] <;> rfl
          · rintro ⟨j, out⟩ ⟨hj, hil, hpo, ho⟩
            simp only at hj hil hpo ho
            have hol := ho.len hv hrs
            simp -implicitDefEqProofs (maxSteps := 2000000) only [push_cast, Nat.reduceEqDiff, Nat.reduceLT, Nat.reduceLeDiff, Nat.reduceAdd, Nat.reduceMul, Nat.reduceSub, Nat.reduceBEq, ↓reduceIte, reduceCtorEq, eRoom]
            intro _
            refine iteI (fun h2 => ⟨by omega, fun x hx => ?_⟩) (fun h2 => ?_)
            · rw [Int.toNat_natCast] at hx
              have htx : e.auth.take (j + 1) = e.auth.take j ++ [x] := by rw [List.take_add_one, hx]; rfl
              refine Callx.closed (l1Has out x) rfl rfl (.inr ⟨rfl, rfl⟩) ?_
              simp -implicitDefEqProofs (maxSteps := 2000000) only [push_cast, Nat.reduceEqDiff, Nat.reduceLT, Nat.reduceLeDiff, Nat.reduceAdd, Nat.reduceMul, Nat.reduceSub, Nat.reduceBEq, ↓reduceIte, reduceCtorEq, eRoom]
              refine iteI (fun h3 => ?_) (fun h3 => ?_)
              · refine ⟨by omega, fun x' hx' => ?_⟩
                rw [Int.toNat_natCast, hx] at hx'
                cases hx'
                have h3 : x ∉ out := by simpa using h3
                refine ⟨rfl, by omega, rfl, by omega, by omega, by unfold inI64; omega, (j + 1, out ++ [x]), ⟨by simp only; omega, by simp only [List.length_append]; omega, ?_, ?_⟩, by simp only; omega, Keep.wk (ids := [some 0, some 3]) ?_⟩
                · simp only
                  rw [List.take_append_of_le_length hil, hpo]
                · simp only
                  rw [htx, ← List.append_assoc]
                  exact ho.new h3 (hanc x (List.mem_of_getElem? hx))
                · simp only [push_cast, Nat.reduceEqDiff, Nat.reduceLT, Nat.reduceLeDiff, Nat.reduceAdd, Nat.reduceMul, Nat.reduceSub, Nat.reduceBEq, ↓reduceIte, reduceCtorEq, eRoom, List.map_append] <;> rfl
              · have h3 : x ∈ out := by simpa using h3
                refine ⟨by unfold inI64; omega, (j + 1, out), ⟨by simp only; omega, hil, hpo, ?_⟩, by simp only; omega, Keep.wk (ids := [some 0, some 1]) ?_⟩
                · simp only
                  rw [htx, ← List.append_assoc]
                  exact ho.old h3
                · simp only [push_cast, Nat.reduceEqDiff, Nat.reduceLT, Nat.reduceLeDiff, Nat.reduceAdd, Nat.reduceMul, Nat.reduceSub, Nat.reduceBEq, ↓reduceIte, reduceCtorEq, eRoom] <;> rfl
            · rw [List.take_of_length_le (l := e.auth) (by omega)] at ho
              refine ⟨by unfold inI64; omega, (i + 1, out), ⟨by simp only; omega, ?_⟩, by simp only; omega, Keep.wk (ids := [some 0, some 1]) ?_⟩
              · simp only
                rw [hpo, List.flatMap_append, ← List.append_assoc]
                simpa [hau] using ho
              · simp only [push_cast, Nat.reduceEqDiff, Nat.reduceLT, Nat.reduceLeDiff, Nat.reduceAdd, Nat.reduceMul, Nat.reduceSub, Nat.reduceBEq, ↓reduceIte, reduceCtorEq, eRoom] <;> rfl
        · rw [List.take_of_length_le (by omega)] at ho
          rw [← ancL_is hv hrs (ho.is)]
          refine Callx.closed (l2Sorted out hB) rfl rfl (.inr ⟨rfl, rfl⟩) ?_
          simp -implicitDefEqProofs (maxSteps := 2000000) only [push_cast, Nat.reduceEqDiff, Nat.reduceLT, Nat.reduceLeDiff, Nat.reduceAdd, Nat.reduceMul, Nat.reduceSub, Nat.reduceBEq, ↓reduceIte, reduceCtorEq, eRoom]
          exact Close.of [some 2] rfl rfl rfl (by simp only [push_cast, Nat.reduceEqDiff, Nat.reduceLT, Nat.reduceLeDiff, Nat.reduceAdd, Nat.reduceMul, Nat.reduceSub, Nat.reduceBEq, ↓reduceIte, reduceCtorEq] <;> rfl) (by simp only [push_cast, Nat.reduceEqDiff, Nat.reduceLT, Nat.reduceLeDiff, Nat.reduceAdd, Nat.reduceMul, Nat.reduceSub, Nat.reduceBEq, ↓reduceIte, reduceCtorEq] <;> rfl)
end Go.Proofs.Ythhgcklidfilfaa.BX
