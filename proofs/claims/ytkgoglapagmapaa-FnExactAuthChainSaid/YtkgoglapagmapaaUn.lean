/-
  What events rest on: the program's walk.
-/
import Derived.Test.YtkgoglapagmapaaCh
namespace Go.Proofs.Ytkgoglapagmapaa.BX
set_option linter.unusedSectionVars false
set_option linter.unusedSimpArgs false
set_option linter.unusedVariables false
open Go Go.RowKit
set_option maxRecDepth 20000
set_option maxHeartbeats 400000
theorem setMapB {xs : List Bool} {i : Nat} {v : Bool} : (List.map T.b xs).set i (T.b v) = List.map T.b (xs.set i v) := List.map_set.symm
theorem had_tf {had : List Bool} {k : Nat} (h : k < had.length) : had[k]? = some true ∨ had[k]? = some false := by
  rw [List.getElem?_eq_getElem h]
  cases had[k] <;> simp
variable [Bd]
abbrev iT (n : Nat) : T := .i .i64 (n : Int)
abbrev hadO (had : List Bool) : Ob := .arr 4 1 (.own .leaf) (had.map T.b)
abbrev workO (work : List Nat) : Ob := .arr 3 1 (.own .leaf) (work.map iT)
theorem visitNo (had : List Bool) (work : List Nat) (k : Nat) (hk : had[k]? = some true) : ConM P0 124 [.t (.i .i64 k), .rf 0 0, .rf 1 0] [.box (.sr 2), .box (.sr 3), hadO had, workO work] (.tp []) [.box (.sr 2), .box (.sr 3), hadO had, workO work] := by
  refine ConM.intro (fn := Try.f124) [] (fun _ => (0, [])) mixed (by kernel_rfl) rfl (by decide) rfl (by rfl) (by kernel_rfl) ?_
  simp -implicitDefEqProofs (maxSteps := 2000000) only [push_cast, Nat.reduceEqDiff, Nat.reduceLT, Nat.reduceLeDiff, Nat.reduceAdd, Nat.reduceMul, Nat.reduceSub, Nat.reduceBEq, ↓reduceIte, reduceCtorEq]
  have hkl := (List.getElem?_eq_some_iff.1 hk).1
  have e1 : (Int.toNat (k : Int)) = k := Int.toNat_natCast _
  refine ⟨by omega, by omega, fun b hb => ?_⟩
  rw [e1, hk] at hb
  cases hb
  exact Close.of [some 0, some 1, some 2, some 3] rfl rfl rfl rfl (by simp only [push_cast, Nat.reduceEqDiff, Nat.reduceLT, Nat.reduceLeDiff, Nat.reduceAdd, Nat.reduceMul, Nat.reduceSub, Nat.reduceBEq, ↓reduceIte, reduceCtorEq] <;> rfl)
theorem visitYes (had : List Bool) (work : List Nat) (k : Nat) (hk : had[k]? = some false) (hB : Bd.B ≤ 2147483648) (hl : work.length + 1 < Bd.B) : ConM P0 124 [.t (.i .i64 k), .rf 0 0, .rf 1 0] [.box (.sr 2), .box (.sr 3), hadO had, workO work] (.tp []) [.box (.sr 2), .box (.sr 4), hadO (had.set k true), .dead, workO (work ++ [k])] := by
  refine ConM.intro (fn := Try.f124) [] (fun _ => (0, [])) mixed (by kernel_rfl) rfl (by decide) rfl (by rfl) (by kernel_rfl) ?_
  simp -implicitDefEqProofs (maxSteps := 2000000) only [push_cast, Nat.reduceEqDiff, Nat.reduceLT, Nat.reduceLeDiff, Nat.reduceAdd, Nat.reduceMul, Nat.reduceSub, Nat.reduceBEq, ↓reduceIte, reduceCtorEq, setMapB]
  have := Bd.lo
  have hkl := (List.getElem?_eq_some_iff.1 hk).1
  have e1 : (Int.toNat (k : Int)) = k := Int.toNat_natCast _
  refine ⟨by omega, by omega, fun b hb => ?_⟩
  rw [e1, hk] at hb
  cases hb
  rw [e1]
  refine ⟨by omega, by omega, fun _ _ => ⟨rfl, by omega, rfl, by omega, hl, ?_⟩⟩
  exact Close.of [some 0, some 1, some 2, some 3, some 5] rfl rfl rfl rfl (by simp only [push_cast, Nat.reduceEqDiff, Nat.reduceLT, Nat.reduceLeDiff, Nat.reduceAdd, Nat.reduceMul, Nat.reduceSub, Nat.reduceBEq, ↓reduceIte, reduceCtorEq, List.map_append] <;> rfl)
theorem graphUnder (es : List Event) (ids : List (List UInt8)) (self : Bool) (hv : Valid es) (hids : ∀ id ∈ ids, There es id) (hB : Bd.B ≤ 2147483648) : Con P0 84 [gT es, eStringS ids, .b self] (.sr 0) [hadO (hadA es (if self = true then ids else ids.flatMap (authOf es)))] := by
  refine Con.intro (fn := Try.f84) [.tmp 6] (fun _ => (0, [])) mixed (by kernel_rfl) rfl (by decide) rfl (by rfl) (by kernel_rfl) ?_
  simp -implicitDefEqProofs (maxSteps := 2000000) only [push_cast, Nat.reduceEqDiff, Nat.reduceLT, Nat.reduceLeDiff, Nat.reduceAdd, Nat.reduceMul, Nat.reduceSub, Nat.reduceBEq, ↓reduceIte, reduceCtorEq, gT]
  have := Bd.lo
  have hhi := Bd.hi
  have hel := hv.len
  intro hlen
  refine ⟨by omega, by omega, by omega, rfl, by omega, fun _ => ?_⟩
  rw [Int.toNat_natCast]
  obtain ⟨rsf, hrsf⟩ : ∃ rsf : List (List UInt8) → List (List UInt8), rsf = fun l => if self = true then l else l.flatMap (authOf es) := ⟨_, rfl⟩
  have hrs : ∀ x ∈ rsf ids, There es x := fun x hx => by
    rw [hrsf] at hx
    dsimp only at hx
    split at hx
    · exact hids x hx
    · obtain ⟨y, _, hx⟩ := List.mem_flatMap.1 hx
      exact hv.there hx
  have hgoal : (if self = true then ids else ids.flatMap (authOf es)) = rsf ids := by rw [hrsf]
  rw [hgoal]
  obtain ⟨rs, hrse⟩ : ∃ rs, rsf ids = rs := ⟨_, rfl⟩
  rw [hrse] at hrs ⊢
  refine WL.loop (ι := Nat × List Bool × List Nat) (D := (fun _ => (0, []))) (fun i => i.1 ≤ ids.length ∧ Had es rs i.2.1 i.2.2 (rsf (ids.take i.1)) none ∧ unm i.2.1 + i.2.2.length ≤ es.length) (fun i => ⟨102, [(0, .t (gT es)), (2, .t (.b self)), (7, .rf 1 0), (8, .rf 3 0), (9, .fn 124 [.rf 1 0, .rf 3 0]), (26, .t (eStringS ids)), (27, .t (.i .i64 ids.length)), (28, .t (.i .i64 i.1))], [hadO i.2.1, .box (.sr 0), workO i.2.2, .box (.sr 2)]⟩) (fun i => ids.length - i.1) mixed (by kernel_rfl) (0, List.replicate es.length false, []) ⟨by simp, ⟨by simp, fun k a hk h => ?_, by simp, fun x hx => ?_, fun k a hk h => ?_⟩, by simp [unm]⟩ (Keep.wk (ids := [some 0, some 1, some 2, some 3]) ?_) ?_
  · simp only [List.getElem?_replicate] at h
    split at h <;> cases h
  · simp only [hrsf, List.take_zero] at hx
    split at hx <;> simp at hx
  · simp only [List.getElem?_replicate] at h
    split at h <;> cases h
  · simp only [push_cast, Nat.reduceEqDiff, Nat.reduceLT, Nat.reduceLeDiff, Nat.reduceAdd, Nat.reduceMul, Nat.reduceSub, Nat.reduceBEq, ↓reduceIte, reduceCtorEq, gT, List.map_replicate] <;> rfl
  · rintro ⟨i, had, work⟩ ⟨hi, hh, hw⟩
    simp only at hi hh hw
    simp -implicitDefEqProofs (maxSteps := 2000000) only [push_cast, Nat.reduceEqDiff, Nat.reduceLT, Nat.reduceLeDiff, Nat.reduceAdd, Nat.reduceMul, Nat.reduceSub, Nat.reduceBEq, ↓reduceIte, reduceCtorEq, gT]
    refine iteI (fun h => ?_) (fun h => ?_)
    · refine ⟨by omega, fun id hid => ?_⟩
      rw [Int.toNat_natCast] at hid
      obtain ⟨k, e, hke, heid, hp⟩ := there_at (hids id (List.mem_of_getElem? hid))
      have hau := authOf_at hp hke
      have hkl := (List.getElem?_eq_some_iff.1 hke).1
      refine gLook rfl (fun k' hk' => ?_) (fun hk' => by rw [hp] at hk'; cases hk')
      rw [hp] at hk'; cases hk'
      simp -implicitDefEqProofs (maxSteps := 2000000) only [push_cast, Nat.reduceEqDiff, Nat.reduceLT, Nat.reduceLeDiff, Nat.reduceAdd, Nat.reduceMul, Nat.reduceSub, Nat.reduceBEq, ↓reduceIte, reduceCtorEq, gT]
      refine iteI (fun h1 => ?_) (fun h1 => ?_)
      · have hrt : rsf (ids.take (i + 1)) = rsf (ids.take i) ++ [id] := by
          rw [hrsf]; simp only [h1, if_true]; rw [List.take_add_one, hid]; rfl
        have hanc : Anc es rs id := .root (by rw [← hrse, hrsf]; simp only [h1, if_true]; exact List.mem_of_getElem? hid)
        rcases had_tf (had := had) (k := k) (by rw [hh.len]; exact hkl) with hkh | hkh
        · refine Callx.hand [1, 3, 0, 2] (visitNo had work k hkh) (by decide) (by simp only [push_cast, Nat.reduceEqDiff, Nat.reduceLT, Nat.reduceLeDiff, Nat.reduceAdd, Nat.reduceMul, Nat.reduceSub, Nat.reduceBEq, ↓reduceIte, reduceCtorEq]) rfl rfl (by simp only [push_cast, Nat.reduceEqDiff, Nat.reduceLT, Nat.reduceLeDiff, Nat.reduceAdd, Nat.reduceMul, Nat.reduceSub, Nat.reduceBEq, ↓reduceIte, reduceCtorEq] <;> rfl) rfl (.inr ⟨rfl, by simp only [push_cast, Nat.reduceEqDiff, Nat.reduceLT, Nat.reduceLeDiff, Nat.reduceAdd, Nat.reduceMul, Nat.reduceSub, Nat.reduceBEq, ↓reduceIte, reduceCtorEq] <;> rfl⟩) ?_
          simp -implicitDefEqProofs (maxSteps := 2000000) only [push_cast, Nat.reduceEqDiff, Nat.reduceLT, Nat.reduceLeDiff, Nat.reduceAdd, Nat.reduceMul, Nat.reduceSub, Nat.reduceBEq, ↓reduceIte, reduceCtorEq, gT]
          refine ⟨by unfold inI64; omega, (i + 1, had, work), ⟨by simp only; omega, ?_, hw⟩, by simp only; omega, Keep.wk (ids := [some 0, some 1, some 2, some 3]) ?_⟩
          · simp only
            rw [hrt]
            exact hh.old hp hkh
          · simp only [push_cast, Nat.reduceEqDiff, Nat.reduceLT, Nat.reduceLeDiff, Nat.reduceAdd, Nat.reduceMul, Nat.reduceSub, Nat.reduceBEq, ↓reduceIte, reduceCtorEq, gT] <;> rfl
        · have hus := unm_set hkh
          refine Callx.hand [1, 3, 0, 2] (visitYes had work k hkh hB (by omega)) (by decide) (by simp only [push_cast, Nat.reduceEqDiff, Nat.reduceLT, Nat.reduceLeDiff, Nat.reduceAdd, Nat.reduceMul, Nat.reduceSub, Nat.reduceBEq, ↓reduceIte, reduceCtorEq]) rfl rfl (by simp only [push_cast, Nat.reduceEqDiff, Nat.reduceLT, Nat.reduceLeDiff, Nat.reduceAdd, Nat.reduceMul, Nat.reduceSub, Nat.reduceBEq, ↓reduceIte, reduceCtorEq] <;> rfl) rfl (.inr ⟨rfl, by simp only [push_cast, Nat.reduceEqDiff, Nat.reduceLT, Nat.reduceLeDiff, Nat.reduceAdd, Nat.reduceMul, Nat.reduceSub, Nat.reduceBEq, ↓reduceIte, reduceCtorEq] <;> rfl⟩) ?_
          simp -implicitDefEqProofs (maxSteps := 2000000) only [push_cast, Nat.reduceEqDiff, Nat.reduceLT, Nat.reduceLeDiff, Nat.reduceAdd, Nat.reduceMul, Nat.reduceSub, Nat.reduceBEq, ↓reduceIte, reduceCtorEq, gT]
          refine ⟨by unfold inI64; omega, (i + 1, had.set k true, work ++ [k]), ⟨by simp only; omega, ?_, by simp only [List.length_append, List.length_singleton]; omega⟩, by simp only; omega, Keep.wk (ids := [some 0, some 1, some 4, some 3]) ?_⟩
          · simp only
            rw [hrt]
            exact hh.new hp hke heid hkh hanc
          · simp only [push_cast, Nat.reduceEqDiff, Nat.reduceLT, Nat.reduceLeDiff, Nat.reduceAdd, Nat.reduceMul, Nat.reduceSub, Nat.reduceBEq, ↓reduceIte, reduceCtorEq, gT] <;> rfl
      · refine ⟨by omega, fun e' he' => ?_⟩
        rw [Int.toNat_natCast, hke] at he'
        cases he'
        simp -implicitDefEqProofs (maxSteps := 2000000) only [push_cast, Nat.reduceEqDiff, Nat.reduceLT, Nat.reduceLeDiff, Nat.reduceAdd, Nat.reduceMul, Nat.reduceSub, Nat.reduceBEq, ↓reduceIte, reduceCtorEq, gT, eEvent]
        have hrt : rsf (ids.take (i + 1)) = rsf (ids.take i) ++ e.auth := by
          rw [hrsf]; simp only [h1, if_false]; rw [List.take_add_one, hid, List.flatMap_append, ← hau]; simp
        have hanc : ∀ x ∈ e.auth, Anc es rs x := fun x hx => .root (by
          rw [← hrse, hrsf]; simp only [h1, if_false]; exact List.mem_flatMap.2 ⟨id, List.mem_of_getElem? hid, hau ▸ hx⟩)
        intro hal
        refine WL.loop (ι := Nat × List Bool × List Nat) (D := (fun _ => (0, []))) (fun j => j.1 ≤ e.auth.length ∧ Had es rs j.2.1 j.2.2 (rsf (ids.take i) ++ e.auth.take j.1) none ∧ unm j.2.1 + j.2.2.length ≤ es.length) (fun j => ⟨102, [(0, .t (gT es)), (2, .t (.b self)), (7, .rf 1 0), (8, .rf 3 0), (9, .fn 124 [.rf 1 0, .rf 3 0]), (26, .t (eStringS ids)), (27, .t (.i .i64 ids.length)), (28, .t (.i .i64 i)), (49, .t (eStringS e.auth)), (50, .t (.i .i64 e.auth.length)), (51, .t (.i .i64 j.1))], [hadO j.2.1, .box (.sr 0), workO j.2.2, .box (.sr 2)]⟩) (fun j => e.auth.length - j.1) mixed (by kernel_rfl) (0, had, work) ⟨by simp, by simpa using hh, hw⟩ (Keep.wk (ids := [some 0, some 1, some 2, some 3]) ?_) ?_
        · simp only [push_cast, Nat.reduceEqDiff, Nat.reduceLT, Nat.reduceLeDiff, Nat.reduceAdd, Nat.reduceMul, Nat.reduceSub, Nat.reduceBEq, ↓reduceIte, reduceCtorEq, gT] <;> rfl
        · rintro ⟨j, had, work⟩ ⟨hj, hh, hw⟩
          simp only at hj hh hw
          simp -implicitDefEqProofs (maxSteps := 2000000) only [push_cast, Nat.reduceEqDiff, Nat.reduceLT, Nat.reduceLeDiff, Nat.reduceAdd, Nat.reduceMul, Nat.reduceSub, Nat.reduceBEq, ↓reduceIte, reduceCtorEq, gT]
          refine iteI (fun h2 => ⟨by omega, fun x hx => ?_⟩) (fun h2 => ?_)
          · rw [Int.toNat_natCast] at hx
            have htx : e.auth.take (j + 1) = e.auth.take j ++ [x] := by rw [List.take_add_one, hx]; rfl
            obtain ⟨m, f, hmf, hfid, hpx⟩ := there_at (hv.there (hau ▸ List.mem_of_getElem? hx))
            have hml := (List.getElem?_eq_some_iff.1 hmf).1
            refine gLook rfl (fun m' hm' => ?_) (fun hm' => by rw [hpx] at hm'; cases hm')
            rw [hpx] at hm'; cases hm'
            simp -implicitDefEqProofs (maxSteps := 2000000) only [push_cast, Nat.reduceEqDiff, Nat.reduceLT, Nat.reduceLeDiff, Nat.reduceAdd, Nat.reduceMul, Nat.reduceSub, Nat.reduceBEq, ↓reduceIte, reduceCtorEq, gT]
            rcases had_tf (had := had) (k := m) (by rw [hh.len]; exact hml) with hkh | hkh
            · refine Callx.hand [1, 3, 0, 2] (visitNo had work m hkh) (by decide) (by simp only [push_cast, Nat.reduceEqDiff, Nat.reduceLT, Nat.reduceLeDiff, Nat.reduceAdd, Nat.reduceMul, Nat.reduceSub, Nat.reduceBEq, ↓reduceIte, reduceCtorEq]) rfl rfl (by simp only [push_cast, Nat.reduceEqDiff, Nat.reduceLT, Nat.reduceLeDiff, Nat.reduceAdd, Nat.reduceMul, Nat.reduceSub, Nat.reduceBEq, ↓reduceIte, reduceCtorEq] <;> rfl) rfl (.inr ⟨rfl, by simp only [push_cast, Nat.reduceEqDiff, Nat.reduceLT, Nat.reduceLeDiff, Nat.reduceAdd, Nat.reduceMul, Nat.reduceSub, Nat.reduceBEq, ↓reduceIte, reduceCtorEq] <;> rfl⟩) ?_
              simp -implicitDefEqProofs (maxSteps := 2000000) only [push_cast, Nat.reduceEqDiff, Nat.reduceLT, Nat.reduceLeDiff, Nat.reduceAdd, Nat.reduceMul, Nat.reduceSub, Nat.reduceBEq, ↓reduceIte, reduceCtorEq, gT]
              refine ⟨by unfold inI64; omega, (j + 1, had, work), ⟨by simp only; omega, ?_, hw⟩, by simp only; omega, Keep.wk (ids := [some 0, some 1, some 2, some 3]) ?_⟩
              · simp only
                rw [htx, ← List.append_assoc]
                exact hh.old hpx hkh
              · simp only [push_cast, Nat.reduceEqDiff, Nat.reduceLT, Nat.reduceLeDiff, Nat.reduceAdd, Nat.reduceMul, Nat.reduceSub, Nat.reduceBEq, ↓reduceIte, reduceCtorEq, gT] <;> rfl
            · have hus := unm_set hkh
              refine Callx.hand [1, 3, 0, 2] (visitYes had work m hkh hB (by omega)) (by decide) (by simp only [push_cast, Nat.reduceEqDiff, Nat.reduceLT, Nat.reduceLeDiff, Nat.reduceAdd, Nat.reduceMul, Nat.reduceSub, Nat.reduceBEq, ↓reduceIte, reduceCtorEq]) rfl rfl (by simp only [push_cast, Nat.reduceEqDiff, Nat.reduceLT, Nat.reduceLeDiff, Nat.reduceAdd, Nat.reduceMul, Nat.reduceSub, Nat.reduceBEq, ↓reduceIte, reduceCtorEq] <;> rfl) rfl (.inr ⟨rfl, by simp only [push_cast, Nat.reduceEqDiff, Nat.reduceLT, Nat.reduceLeDiff, Nat.reduceAdd, Nat.reduceMul, Nat.reduceSub, Nat.reduceBEq, ↓reduceIte, reduceCtorEq] <;> rfl⟩) ?_
              simp -implicitDefEqProofs (maxSteps := 2000000) only [push_cast, Nat.reduceEqDiff, Nat.reduceLT, Nat.reduceLeDiff, Nat.reduceAdd, Nat.reduceMul, Nat.reduceSub, Nat.reduceBEq, ↓reduceIte, reduceCtorEq, gT]
              refine ⟨by unfold inI64; omega, (j + 1, had.set m true, work ++ [m]), ⟨by simp only; omega, ?_, by simp only [List.length_append, List.length_singleton]; omega⟩, by simp only; omega, Keep.wk (ids := [some 0, some 1, some 4, some 3]) ?_⟩
              · simp only
                rw [htx, ← List.append_assoc]
                exact hh.new hpx hmf hfid hkh (hanc x (List.mem_of_getElem? hx))
              · simp only [push_cast, Nat.reduceEqDiff, Nat.reduceLT, Nat.reduceLeDiff, Nat.reduceAdd, Nat.reduceMul, Nat.reduceSub, Nat.reduceBEq, ↓reduceIte, reduceCtorEq, gT] <;> rfl
          · rw [List.take_of_length_le (l := e.auth) (by omega)] at hh
            refine ⟨by unfold inI64; omega, (i + 1, had, work), ⟨by simp only; omega, ?_, hw⟩, by simp only; omega, Keep.wk (ids := [some 0, some 1, some 2, some 3]) ?_⟩
            · simp only
              rw [hrt]; exact hh
            · simp only [push_cast, Nat.reduceEqDiff, Nat.reduceLT, Nat.reduceLeDiff, Nat.reduceAdd, Nat.reduceMul, Nat.reduceSub, Nat.reduceBEq, ↓reduceIte, reduceCtorEq, gT] <;> rfl
    · rw [List.take_of_length_le (by omega), hrse] at hh
      refine WL.loop (ι := List Bool × List Nat × List (List UInt8)) (D := (fun _ => (0, []))) (fun i => Had es rs i.1 i.2.1 i.2.2 none ∧ (∀ x ∈ rs, x ∈ i.2.2) ∧ unm i.1 + i.2.1.length ≤ es.length) (fun i => ⟨102, [(0, .t (gT es)), (7, .rf 1 0), (8, .rf 3 0), (9, .fn 124 [.rf 1 0, .rf 3 0])], [hadO i.1, .box (.sr 0), workO i.2.1, .box (.sr 2)]⟩) (fun i => unm i.1 + i.2.1.length) mixed (by kernel_rfl) (had, work, rs) ⟨hh, fun x hx => hx, hw⟩ (Keep.wk (ids := [some 0, some 1, some 2, some 3]) ?_) ?_
      · simp only [push_cast, Nat.reduceEqDiff, Nat.reduceLT, Nat.reduceLeDiff, Nat.reduceAdd, Nat.reduceMul, Nat.reduceSub, Nat.reduceBEq, ↓reduceIte, reduceCtorEq, gT] <;> rfl
      · rintro ⟨had, work, done⟩ ⟨hh, hd, hw⟩
        simp only at hh hd hw
        simp -implicitDefEqProofs (maxSteps := 2000000) only [push_cast, Nat.reduceEqDiff, Nat.reduceLT, Nat.reduceLeDiff, Nat.reduceAdd, Nat.reduceMul, Nat.reduceSub, Nat.reduceBEq, ↓reduceIte, reduceCtorEq, gT, eEvent]
        intro _
        refine iteI (fun h2 => ?_) (fun h2 => ?_)
        · have e1 : (Int.toNat ((work.length : Int) - 1)) = work.length - 1 := by omega
          simp only [e1]
          refine fun _ => ⟨by unfold inI64; omega, by omega, by omega, fun k hwk => ?_⟩
          have hkh := hh.pile k (List.mem_of_getElem? hwk)
          have hkl : k < es.length := by rw [← hh.len]; exact (List.getElem?_eq_some_iff.1 hkh).1
          refine fun _ => ⟨by unfold inI64; omega, by omega, by omega, by omega, fun e hke => ?_⟩
          rw [Int.toNat_natCast] at hke
          have hp := hv.pos hke
          have hau := authOf_at hp hke
          have hpop := hh.pop (fun hn => by rw [hn] at h2; simp at h2) hwk
          have hanc : ∀ x ∈ e.auth, Anc es rs x := fun x hx => .step (hh.anc k e hke hkh) (hau ▸ hx)
          rw [← List.map_take]
          have hwl : (work.take (work.length - 1)).length + 1 = work.length := by rw [List.length_take]; omega
          generalize work.take (work.length - 1) = wk at *
          intro hal
          refine WL.loop (ι := Nat × List Bool × List Nat) (D := (fun _ => (0, []))) (fun j => j.1 ≤ e.auth.length ∧ Had es rs j.2.1 j.2.2 (done ++ e.auth.take j.1) (some k) ∧ unm j.2.1 + j.2.2.length + 1 ≤ unm had + work.length) (fun j => ⟨102, [(0, .t (gT es)), (7, .rf 1 0), (8, .rf 3 0), (9, .fn 124 [.rf 1 0, .rf 3 0]), (86, .t (eStringS e.auth)), (87, .t (.i .i64 e.auth.length)), (88, .t (.i .i64 j.1))], [hadO j.2.1, .box (.sr 0), workO j.2.2, .box (.sr 2)]⟩) (fun j => e.auth.length - j.1) mixed (by kernel_rfl) (0, had, wk) ⟨by simp, by simpa using hpop, by simp only; omega⟩ (Keep.wk (ids := [some 0, some 1, some 4, some 3]) ?_) ?_
          · simp only [push_cast, Nat.reduceEqDiff, Nat.reduceLT, Nat.reduceLeDiff, Nat.reduceAdd, Nat.reduceMul, Nat.reduceSub, Nat.reduceBEq, ↓reduceIte, reduceCtorEq, gT] <;> rfl
          · rintro ⟨j, had2, work2⟩ ⟨hj, hh, hw2⟩
            simp only at hj hh hw2
            simp -implicitDefEqProofs (maxSteps := 2000000) only [push_cast, Nat.reduceEqDiff, Nat.reduceLT, Nat.reduceLeDiff, Nat.reduceAdd, Nat.reduceMul, Nat.reduceSub, Nat.reduceBEq, ↓reduceIte, reduceCtorEq, gT]
            refine iteI (fun h3 => ⟨by omega, fun x hx => ?_⟩) (fun h3 => ?_)
            · rw [Int.toNat_natCast] at hx
              have htx : e.auth.take (j + 1) = e.auth.take j ++ [x] := by rw [List.take_add_one, hx]; rfl
              obtain ⟨m, f, hmf, hfid, hpx⟩ := there_at (hv.there (hau ▸ List.mem_of_getElem? hx))
              have hml := (List.getElem?_eq_some_iff.1 hmf).1
              refine gLook rfl (fun m' hm' => ?_) (fun hm' => by rw [hpx] at hm'; cases hm')
              rw [hpx] at hm'; cases hm'
              simp -implicitDefEqProofs (maxSteps := 2000000) only [push_cast, Nat.reduceEqDiff, Nat.reduceLT, Nat.reduceLeDiff, Nat.reduceAdd, Nat.reduceMul, Nat.reduceSub, Nat.reduceBEq, ↓reduceIte, reduceCtorEq, gT]
              rcases had_tf (had := had2) (k := m) (by rw [hh.len]; exact hml) with hkh | hkh
              · refine Callx.hand [1, 3, 0, 2] (visitNo had2 work2 m hkh) (by decide) (by simp only [push_cast, Nat.reduceEqDiff, Nat.reduceLT, Nat.reduceLeDiff, Nat.reduceAdd, Nat.reduceMul, Nat.reduceSub, Nat.reduceBEq, ↓reduceIte, reduceCtorEq]) rfl rfl (by simp only [push_cast, Nat.reduceEqDiff, Nat.reduceLT, Nat.reduceLeDiff, Nat.reduceAdd, Nat.reduceMul, Nat.reduceSub, Nat.reduceBEq, ↓reduceIte, reduceCtorEq] <;> rfl) rfl (.inr ⟨rfl, by simp only [push_cast, Nat.reduceEqDiff, Nat.reduceLT, Nat.reduceLeDiff, Nat.reduceAdd, Nat.reduceMul, Nat.reduceSub, Nat.reduceBEq, ↓reduceIte, reduceCtorEq] <;> rfl⟩) ?_
                simp -implicitDefEqProofs (maxSteps := 2000000) only [push_cast, Nat.reduceEqDiff, Nat.reduceLT, Nat.reduceLeDiff, Nat.reduceAdd, Nat.reduceMul, Nat.reduceSub, Nat.reduceBEq, ↓reduceIte, reduceCtorEq, gT]
                refine ⟨by unfold inI64; omega, (j + 1, had2, work2), ⟨by simp only; omega, ?_, hw2⟩, by simp only; omega, Keep.wk (ids := [some 0, some 1, some 2, some 3]) ?_⟩
                · simp only
                  rw [htx, ← List.append_assoc]
                  exact hh.old hpx hkh
                · simp only [push_cast, Nat.reduceEqDiff, Nat.reduceLT, Nat.reduceLeDiff, Nat.reduceAdd, Nat.reduceMul, Nat.reduceSub, Nat.reduceBEq, ↓reduceIte, reduceCtorEq, gT] <;> rfl
              · have hus := unm_set hkh
                refine Callx.hand [1, 3, 0, 2] (visitYes had2 work2 m hkh hB (by omega)) (by decide) (by simp only [push_cast, Nat.reduceEqDiff, Nat.reduceLT, Nat.reduceLeDiff, Nat.reduceAdd, Nat.reduceMul, Nat.reduceSub, Nat.reduceBEq, ↓reduceIte, reduceCtorEq]) rfl rfl (by simp only [push_cast, Nat.reduceEqDiff, Nat.reduceLT, Nat.reduceLeDiff, Nat.reduceAdd, Nat.reduceMul, Nat.reduceSub, Nat.reduceBEq, ↓reduceIte, reduceCtorEq] <;> rfl) rfl (.inr ⟨rfl, by simp only [push_cast, Nat.reduceEqDiff, Nat.reduceLT, Nat.reduceLeDiff, Nat.reduceAdd, Nat.reduceMul, Nat.reduceSub, Nat.reduceBEq, ↓reduceIte, reduceCtorEq] <;> rfl⟩) ?_
                simp -implicitDefEqProofs (maxSteps := 2000000) only [push_cast, Nat.reduceEqDiff, Nat.reduceLT, Nat.reduceLeDiff, Nat.reduceAdd, Nat.reduceMul, Nat.reduceSub, Nat.reduceBEq, ↓reduceIte, reduceCtorEq, gT]
                refine ⟨by unfold inI64; omega, (j + 1, had2.set m true, work2 ++ [m]), ⟨by simp only; omega, ?_, by simp only [List.length_append, List.length_singleton]; omega⟩, by simp only; omega, Keep.wk (ids := [some 0, some 1, some 4, some 3]) ?_⟩
                · simp only
                  rw [htx, ← List.append_assoc]
                  exact hh.new hpx hmf hfid hkh (hanc x (List.mem_of_getElem? hx))
                · simp only [push_cast, Nat.reduceEqDiff, Nat.reduceLT, Nat.reduceLeDiff, Nat.reduceAdd, Nat.reduceMul, Nat.reduceSub, Nat.reduceBEq, ↓reduceIte, reduceCtorEq, gT] <;> rfl
            · rw [List.take_of_length_le (l := e.auth) (by omega)] at hh
              refine ⟨(had2, work2, done ++ e.auth), ⟨hh.seen rfl hke (fun x hx => List.mem_append_right _ hx), fun x hx => List.mem_append_left _ (hd x hx), by simp only; omega⟩, by simp only; omega, Keep.wk (ids := [some 0, some 1, some 2, some 3]) ?_⟩
              simp only [push_cast, Nat.reduceEqDiff, Nat.reduceLT, Nat.reduceLeDiff, Nat.reduceAdd, Nat.reduceMul, Nat.reduceSub, Nat.reduceBEq, ↓reduceIte, reduceCtorEq, gT] <;> rfl
        · have hwn : work = [] := List.eq_nil_of_length_eq_zero (by omega)
          subst hwn
          rw [hh.is hv hd hrs]
          exact Close.of [some 0] rfl rfl rfl rfl (by simp only [push_cast, Nat.reduceEqDiff, Nat.reduceLT, Nat.reduceLeDiff, Nat.reduceAdd, Nat.reduceMul, Nat.reduceSub, Nat.reduceBEq, ↓reduceIte, reduceCtorEq] <;> rfl)
end Go.Proofs.Ytkgoglapagmapaa.BX
