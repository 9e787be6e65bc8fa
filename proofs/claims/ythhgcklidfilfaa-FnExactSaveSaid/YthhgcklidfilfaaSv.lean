/-
  'Save', the document's and the program's.
-/
import Derived.Test.YthhgcklidfilfaaSq
namespace Go.Proofs.Ythhgcklidfilfaa.BX
set_option linter.unusedSectionVars false
set_option linter.unusedSimpArgs false
set_option linter.unusedVariables false
open Go Go.RowKit
set_option maxRecDepth 20000
set_option maxHeartbeats 400000
variable [Bd]
abbrev grO (gs : List Group) : Ob := .arr 123 2 (.own (.ag [.leaf, .sl 32 3 (.ag [.leaf, .leaf, .leaf])])) (gs.map eGroup)
theorem cloneE (xs : List Entry) (hB : Bd.B ≤ 2147483648) (hl : xs.length < Bd.B) : Con P0 86 [eEntryS xs] (.sr 0) [enO xs] := by
  refine Con.intro (fn := Try.f86) [.tmp 2] (fun _ => (0, [])) mixed (by kernel_rfl) rfl (by decide) rfl (by rfl) (by kernel_rfl) ?_
  simp -implicitDefEqProofs (maxSteps := 2000000) only [push_cast, Nat.reduceEqDiff, Nat.reduceLT, Nat.reduceLeDiff, Nat.reduceAdd, Nat.reduceMul, Nat.reduceSub, Nat.reduceBEq, ↓reduceIte, reduceCtorEq]
  have := Bd.lo
  refine ⟨fun h => ?_, rfl, by omega, rfl, by omega, allLen_map (f := eEntry) (fun _ => rfl), fitsAll_map (f := eEntry) (fun _ => rfl), hl, ?_⟩
  · have h : xs = [] := by simpa using h
    subst h; exact Close.of [none] rfl rfl rfl (by simp only [push_cast, Nat.reduceEqDiff, Nat.reduceLT, Nat.reduceLeDiff, Nat.reduceAdd, Nat.reduceMul, Nat.reduceSub, Nat.reduceBEq, ↓reduceIte, reduceCtorEq] <;> rfl) (by simp only [push_cast, Nat.reduceEqDiff, Nat.reduceLT, Nat.reduceLeDiff, Nat.reduceAdd, Nat.reduceMul, Nat.reduceSub, Nat.reduceBEq, ↓reduceIte, reduceCtorEq] <;> rfl)
  · exact Close.of [some 1] rfl rfl rfl (by simp only [push_cast, Nat.reduceEqDiff, Nat.reduceLT, Nat.reduceLeDiff, Nat.reduceAdd, Nat.reduceMul, Nat.reduceSub, Nat.reduceBEq, ↓reduceIte, reduceCtorEq] <;> rfl) (by simp only [push_cast, Nat.reduceEqDiff, Nat.reduceLT, Nat.reduceLeDiff, Nat.reduceAdd, Nat.reduceMul, Nat.reduceSub, Nat.reduceBEq, ↓reduceIte, reduceCtorEq] <;> rfl)
theorem specSave (gs : List Group) (s : List Entry) (near : Int) (hB : Bd.B ≤ 2147483648) : Con P0 19 [eStore ⟨gs⟩, eEntryS s, .i .i64 near] (.tp [.ag [.sr 0], .t (.i .i64 (saveN gs s))]) [grO (saveG gs s near)] := by
  refine Con.intro (fn := Try.f19) [.cell 6 38, .tmp 7] (fun i => if i = 1000018 then (999999, []) else if i = 19 then (2000008, [(true, 1), (false, 0), (true, 1), (false, 0), (true, 1), (false, 0), (true, 1), (false, 0), (true, 1), (false, 0), (false, 3), (false, 0)]) else if i = 8 then (17, [(false, 0), (false, 1), (false, 2), (false, 3), (false, 4), (false, 5), (false, 6), (false, 7), (false, 8), (false, 9), (false, 10), (false, 11), (false, 12), (false, 13), (true, 14), (false, 15), (true, 16)]) else (0, [])) mixed (by kernel_rfl) rfl (by decide) rfl (by rfl) (by kernel_rfl) ?_
  simp -implicitDefEqProofs (maxSteps := 2000000) only [push_cast, Nat.reduceEqDiff, Nat.reduceLT, Nat.reduceLeDiff, Nat.reduceAdd, Nat.reduceMul, Nat.reduceSub, Nat.reduceBEq, ↓reduceIte, reduceCtorEq, eStore]
  have := Bd.lo
  have hhi := Bd.hi
  refine Callx.closed (specStoreOk gs hB) rfl rfl (.inl rfl) ?_
  simp -implicitDefEqProofs (maxSteps := 2000000) only [push_cast, Nat.reduceEqDiff, Nat.reduceLT, Nat.reduceLeDiff, Nat.reduceAdd, Nat.reduceMul, Nat.reduceSub, Nat.reduceBEq, ↓reduceIte, reduceCtorEq, eStore]
  have bad : svOk gs s = false → saveG gs s near = [] ∧ saveN gs s = -1 := fun h => by simp [saveG, saveN, h]
  cases hok : storeOk gs with
  | false =>
    obtain ⟨h1, h2⟩ := bad (by unfold svOk; rw [hok]; rfl)
    rw [h1, h2]
    simp only [Bool.not_false, if_true]
    simp -implicitDefEqProofs (maxSteps := 2000000) only [push_cast, Nat.reduceEqDiff, Nat.reduceLT, Nat.reduceLeDiff, Nat.reduceAdd, Nat.reduceMul, Nat.reduceSub, Nat.reduceBEq, ↓reduceIte, reduceCtorEq, eStore]
    exact Close.of [none] rfl rfl rfl (by simp only [push_cast, Nat.reduceEqDiff, Nat.reduceLT, Nat.reduceLeDiff, Nat.reduceAdd, Nat.reduceMul, Nat.reduceSub, Nat.reduceBEq, ↓reduceIte, reduceCtorEq] <;> first | rfl | exact ⟨rfl, rfl⟩) (by simp only [push_cast, Nat.reduceEqDiff, Nat.reduceLT, Nat.reduceLeDiff, Nat.reduceAdd, Nat.reduceMul, Nat.reduceSub, Nat.reduceBEq, ↓reduceIte, reduceCtorEq] <;> first | rfl | exact ⟨rfl, rfl⟩)
  | true =>
  obtain ⟨hlen, hu⟩ := storeUps hok
  simp -implicitDefEqProofs (maxSteps := 2000000) only [push_cast, Nat.reduceEqDiff, Nat.reduceLT, Nat.reduceLeDiff, Nat.reduceAdd, Nat.reduceMul, Nat.reduceSub, Nat.reduceBEq, ↓reduceIte, reduceCtorEq, eStore]
  refine Callx.closed (specStateOk s) rfl rfl (.inl rfl) ?_
  simp -implicitDefEqProofs (maxSteps := 2000000) only [push_cast, Nat.reduceEqDiff, Nat.reduceLT, Nat.reduceLeDiff, Nat.reduceAdd, Nat.reduceMul, Nat.reduceSub, Nat.reduceBEq, ↓reduceIte, reduceCtorEq, eStore]
  refine iteI (fun h => ?_) (fun h => ?_)
  · obtain ⟨h1, h2⟩ := bad (by unfold svOk; rw [hok]; simpa using h)
    rw [h1, h2]
    exact Close.of [none] rfl rfl rfl (by simp only [push_cast, Nat.reduceEqDiff, Nat.reduceLT, Nat.reduceLeDiff, Nat.reduceAdd, Nat.reduceMul, Nat.reduceSub, Nat.reduceBEq, ↓reduceIte, reduceCtorEq] <;> first | rfl | exact ⟨rfl, rfl⟩) (by simp only [push_cast, Nat.reduceEqDiff, Nat.reduceLT, Nat.reduceLeDiff, Nat.reduceAdd, Nat.reduceMul, Nat.reduceSub, Nat.reduceBEq, ↓reduceIte, reduceCtorEq] <;> first | rfl | exact ⟨rfl, rfl⟩)
  have hso : stateOk s = true := by simpa using h
  obtain ⟨so1, so2, so3⟩ := stateOk_ord hso
  have hsv : svOk gs s = true := by unfold svOk; rw [hok, hso]; rfl
  have hG : saveG gs s near = if 0 ≤ fdTo gs s gs.length then gs else if 1000 ≤ gs.length then [] else gs ++ [newG gs s near] := if_pos hsv
  have hN : saveN gs s = if 0 ≤ fdTo gs s gs.length then fdTo gs s gs.length else if 1000 ≤ gs.length then -1 else gs.length := if_pos hsv
  refine ⟨rfl, by omega, ?_⟩
  have hexp : ∀ i : Nat, i < gs.length → Con P0 80 [eStore ⟨gs⟩, .i .i64 i] (.sr 0) [enO (expandOf gs i)] := fun i hi => l4Expand gs hB i hi (fun j hj g hg => ⟨(hu j (by omega) g hg).hi, (hu j (by omega) g hg).ord, (hu j (by omega) g hg).len⟩) (fun j hj => by
    obtain ⟨g, hg⟩ : ∃ g, gs[j]? = some g := ⟨_, List.getElem?_eq_getElem (by omega)⟩
    exact (hu j (by omega) g hg).full) (by omega)
  refine WL.loop (ι := Nat) (D := (fun i => if i = 1000018 then (999999, []) else if i = 19 then (2000008, [(true, 1), (false, 0), (true, 1), (false, 0), (true, 1), (false, 0), (true, 1), (false, 0), (true, 1), (false, 0), (false, 3), (false, 0)]) else if i = 8 then (17, [(false, 0), (false, 1), (false, 2), (false, 3), (false, 4), (false, 5), (false, 6), (false, 7), (false, 8), (false, 9), (false, 10), (false, 11), (false, 12), (false, 13), (true, 14), (false, 15), (true, 16)]) else (0, []))) (fun i => i ≤ gs.length) (fun i => ⟨104, [(1, .t (eEntryS s)), (2, .t (.i .i64 near)), (3, .rf 0 0), (6, .rf 1 0), (8, .rf 3 0), (9, .t (.i .i64 (fdTo gs s i))), (10, .t (.i .i64 i))], [.box (.t (eStore ⟨gs⟩)), .box (.ag [.ns]), grO (gs.take i), .box (.ag [.sr 2])]⟩) (fun i => gs.length - i) mixed (by kernel_rfl) 0 (by omega) (Keep.wk (ids := [some 0, some 1, some 2, some 3]) ?_) ?_
  · simp only [push_cast, Nat.reduceEqDiff, Nat.reduceLT, Nat.reduceLeDiff, Nat.reduceAdd, Nat.reduceMul, Nat.reduceSub, Nat.reduceBEq, ↓reduceIte, reduceCtorEq, eStore, List.take_zero, fdTo] <;> first | rfl | exact ⟨rfl, rfl⟩
  intro i hi
  have hfr := fdTo_range (gs := gs) (s := s) (i := i)
  simp -implicitDefEqProofs (maxSteps := 2000000) only [push_cast, Nat.reduceEqDiff, Nat.reduceLT, Nat.reduceLeDiff, Nat.reduceAdd, Nat.reduceMul, Nat.reduceSub, Nat.reduceBEq, ↓reduceIte, reduceCtorEq, eStore, eGroup]
  intro _
  refine iteI (fun h1 => ?_) (fun h1 => ?_)
  · refine ⟨by omega, fun g hg => ⟨by omega, fun g' hg' => ?_⟩⟩
    rw [Int.toNat_natCast] at hg hg'
    rw [hg] at hg'
    cases hg'
    have hgk := hu i (by omega) g hg
    have hgl := hgk.len
    refine Mkx.closed (l4Copy g.sets hB (by omega)) rfl rfl (.inr ⟨rfl, rfl⟩) ?_
    simp -implicitDefEqProofs (maxSteps := 2000000) only [push_cast, Nat.reduceEqDiff, Nat.reduceLT, Nat.reduceLeDiff, Nat.reduceAdd, Nat.reduceMul, Nat.reduceSub, Nat.reduceBEq, ↓reduceIte, reduceCtorEq, eStore, eGroup]
    have htl : (gs.take i).length = i := by rw [List.length_take]; omega
    have hto : gs.take (i + 1) = gs.take i ++ [g] := by rw [List.take_add_one, hg]; rfl
    have hfs : fdTo gs s (i + 1) = if 0 ≤ fdTo gs s i then fdTo gs s i else @ite _ (expandOf gs i = s) (Classical.propDecidable _) (i : Int) (-1) := by rw [fdTo]
    refine ⟨rfl, by omega, rfl, by omega, by omega, iteI (fun h2 => ?_) (fun h2 => ?_)⟩
    · rw [if_neg (by omega)] at hfs
      refine Callx.closed (hexp i (by omega)) rfl rfl (.inl rfl) ?_
      simp -implicitDefEqProofs (maxSteps := 2000000) only [push_cast, Nat.reduceEqDiff, Nat.reduceLT, Nat.reduceLeDiff, Nat.reduceAdd, Nat.reduceMul, Nat.reduceSub, Nat.reduceBEq, ↓reduceIte, reduceCtorEq, eStore, eGroup]
      refine Callx.closed (l4Equal (expandOf gs i) s) rfl rfl (.inr ⟨rfl, rfl⟩) ?_
      simp -implicitDefEqProofs (maxSteps := 2000000) only [push_cast, Nat.reduceEqDiff, Nat.reduceLT, Nat.reduceLeDiff, Nat.reduceAdd, Nat.reduceMul, Nat.reduceSub, Nat.reduceBEq, ↓reduceIte, reduceCtorEq, eStore, eGroup]
      refine iteI (fun h3 => ?_) (fun h3 => ?_)
      · rw [if_pos h3] at hfs
        refine ⟨by unfold inI64; omega, i + 1, by omega, by omega, Keep.wk (ids := [some 0, some 1, some 6, some 3]) ?_⟩
        rw [hto, hfs]
        simp only [push_cast, Nat.reduceEqDiff, Nat.reduceLT, Nat.reduceLeDiff, Nat.reduceAdd, Nat.reduceMul, Nat.reduceSub, Nat.reduceBEq, ↓reduceIte, reduceCtorEq, eStore, List.map_append, eGroup] <;> first | rfl | exact ⟨rfl, rfl⟩
      · rw [if_neg h3] at hfs
        have : fdTo gs s i = -1 := by omega
        refine ⟨by unfold inI64; omega, i + 1, by omega, by omega, Keep.wk (ids := [some 0, some 1, some 6, some 3]) ?_⟩
        rw [hto, hfs, this]
        simp only [push_cast, Nat.reduceEqDiff, Nat.reduceLT, Nat.reduceLeDiff, Nat.reduceAdd, Nat.reduceMul, Nat.reduceSub, Nat.reduceBEq, ↓reduceIte, reduceCtorEq, eStore, List.map_append, eGroup] <;> first | rfl | exact ⟨rfl, rfl⟩
    · rw [if_pos (by omega)] at hfs
      refine ⟨by unfold inI64; omega, i + 1, by omega, by omega, Keep.wk (ids := [some 0, some 1, some 6, some 3]) ?_⟩
      rw [hto, hfs]
      simp only [push_cast, Nat.reduceEqDiff, Nat.reduceLT, Nat.reduceLeDiff, Nat.reduceAdd, Nat.reduceMul, Nat.reduceSub, Nat.reduceBEq, ↓reduceIte, reduceCtorEq, eStore, List.map_append, eGroup] <;> first | rfl | exact ⟨rfl, rfl⟩
  · have hie : i = gs.length := by omega
    subst hie
    rw [List.take_length]
    simp -implicitDefEqProofs (maxSteps := 2000000) only [push_cast, Nat.reduceEqDiff, Nat.reduceLT, Nat.reduceLeDiff, Nat.reduceAdd, Nat.reduceMul, Nat.reduceSub, Nat.reduceBEq, ↓reduceIte, reduceCtorEq, eStore, eGroup]
    refine iteI (fun h2 => ?_) (fun h2 => ?_)
    · rw [if_pos h2] at hG hN
      rw [hG, hN]
      exact Close.of [some 2] rfl rfl rfl (by simp only [push_cast, Nat.reduceEqDiff, Nat.reduceLT, Nat.reduceLeDiff, Nat.reduceAdd, Nat.reduceMul, Nat.reduceSub, Nat.reduceBEq, ↓reduceIte, reduceCtorEq] <;> first | rfl | exact ⟨rfl, rfl⟩) (by simp only [push_cast, Nat.reduceEqDiff, Nat.reduceLT, Nat.reduceLeDiff, Nat.reduceAdd, Nat.reduceMul, Nat.reduceSub, Nat.reduceBEq, ↓reduceIte, reduceCtorEq] <;> first | rfl | exact ⟨rfl, rfl⟩)
    rw [if_neg h2] at hG hN
    intro _
    refine iteI (fun h3 => ?_) (fun h3 => ?_)
    · rw [if_pos (by omega)] at hG hN
      rw [hG, hN]
      exact Close.of [none] rfl rfl rfl (by simp only [push_cast, Nat.reduceEqDiff, Nat.reduceLT, Nat.reduceLeDiff, Nat.reduceAdd, Nat.reduceMul, Nat.reduceSub, Nat.reduceBEq, ↓reduceIte, reduceCtorEq] <;> first | rfl | exact ⟨rfl, rfl⟩) (by simp only [push_cast, Nat.reduceEqDiff, Nat.reduceLT, Nat.reduceLeDiff, Nat.reduceAdd, Nat.reduceMul, Nat.reduceSub, Nat.reduceBEq, ↓reduceIte, reduceCtorEq] <;> first | rfl | exact ⟨rfl, rfl⟩)
    rw [if_neg (by omega)] at hG hN
    rw [hG, hN]
    refine Callx.closed (l4Copy s hB (by omega)) rfl rfl (.inr ⟨rfl, rfl⟩) ?_
    simp -implicitDefEqProofs (maxSteps := 2000000) only [push_cast, Nat.reduceEqDiff, Nat.reduceLT, Nat.reduceLeDiff, Nat.reduceAdd, Nat.reduceMul, Nat.reduceSub, Nat.reduceBEq, ↓reduceIte, reduceCtorEq, eStore, eGroup]
    obtain ⟨ng, hng⟩ : ∃ ng, newG gs s near = ng := ⟨_, rfl⟩
    rw [hng]
    unfold newG at hng
    have hfin : (5 : Nat) = 5 := rfl
    refine W.join (ι := Unit) (D := (fun i => if i = 19 then (2000008, [(true, 1), (false, 0), (true, 1), (false, 0), (true, 1), (false, 0), (true, 1), (false, 0), (true, 1), (false, 0), (false, 3), (false, 0)]) else if i = 8 then (17, [(false, 0), (false, 1), (false, 2), (false, 3), (false, 4), (false, 5), (false, 6), (false, 7), (false, 8), (false, 9), (false, 10), (false, 11), (false, 12), (false, 13), (true, 14), (false, 15), (true, 16)]) else (0, []))) (fun _ => True) (fun _ => ⟨104, [(3, .rf 0 0), (6, .rf 1 0), (8, .rf 3 0), (11, .rf 5 0)], [.box (.t (eStore ⟨gs⟩)), .box (.ag [.ns]), grO gs, .box (.ag [.sr 2]), enO ng.sets, .box (.ag [.t (.i .i64 ng.parent), .sr 4])]⟩) mixed (by kernel_rfl) ?_ (fun _ _ => ?_)
    · simp -implicitDefEqProofs (maxSteps := 2000000) only [push_cast, Nat.reduceEqDiff, Nat.reduceLT, Nat.reduceLeDiff, Nat.reduceAdd, Nat.reduceMul, Nat.reduceSub, Nat.reduceBEq, ↓reduceIte, reduceCtorEq, eStore, eGroup]
      have base : ¬ (0 ≤ near ∧ near < gs.length ∧ linksOf gs near.toNat < 4) → ng = ⟨-1, s⟩ := fun h => by rw [if_neg h] at hng; exact hng.symm
      have stay : ¬ (0 ≤ near ∧ near < gs.length ∧ linksOf gs near.toNat < 4) → ng.parent = -1 ∧ ng.sets = s := fun h => by rw [base h]; exact ⟨rfl, rfl⟩
      refine iteI (fun h4 => ?_) (fun h4 => ?_)
      rotate_left
      · obtain ⟨e1, e2⟩ := stay (fun h => h4 h.1)
        refine ⟨(), Keep.wk (ids := [some 0, some 1, some 2, some 3, some 4, some 5]) ?_⟩
        rw [e1, e2]
        simp only [push_cast, Nat.reduceEqDiff, Nat.reduceLT, Nat.reduceLeDiff, Nat.reduceAdd, Nat.reduceMul, Nat.reduceSub, Nat.reduceBEq, ↓reduceIte, reduceCtorEq, eStore] <;> first | rfl | exact ⟨rfl, rfl⟩
      intro _
      refine iteI (fun h5 => ?_) (fun h5 => ?_)
      rotate_left
      · obtain ⟨e1, e2⟩ := stay (fun h => h5 h.2.1)
        refine ⟨(), Keep.wk (ids := [some 0, some 1, some 2, some 3, some 4, some 5]) ?_⟩
        rw [e1, e2]
        simp only [push_cast, Nat.reduceEqDiff, Nat.reduceLT, Nat.reduceLeDiff, Nat.reduceAdd, Nat.reduceMul, Nat.reduceSub, Nat.reduceBEq, ↓reduceIte, reduceCtorEq, eStore] <;> first | rfl | exact ⟨rfl, rfl⟩
      obtain ⟨m, rfl⟩ : ∃ m : Nat, near = m := ⟨near.toNat, by omega⟩
      have hm : m < gs.length := by omega
      rw [Int.toNat_natCast] at base stay hng
      have hll := linksOf_le (gs := gs) m
      refine Callx.closed (l4Links gs m hm (fun j hj g hg => (hu j (by omega) g hg).hi) (by omega)) rfl rfl (.inl rfl) ?_
      simp -implicitDefEqProofs (maxSteps := 2000000) only [push_cast, Nat.reduceEqDiff, Nat.reduceLT, Nat.reduceLeDiff, Nat.reduceAdd, Nat.reduceMul, Nat.reduceSub, Nat.reduceBEq, ↓reduceIte, reduceCtorEq, eStore, eGroup]
      refine iteI (fun h6 => ?_) (fun h6 => ?_)
      rotate_left
      · obtain ⟨e1, e2⟩ := stay (fun h => h6 (by have := h.2.2; omega))
        refine ⟨(), Keep.wk (ids := [some 0, some 1, some 2, some 3, some 4, some 5]) ?_⟩
        rw [e1, e2]
        simp only [push_cast, Nat.reduceEqDiff, Nat.reduceLT, Nat.reduceLeDiff, Nat.reduceAdd, Nat.reduceMul, Nat.reduceSub, Nat.reduceBEq, ↓reduceIte, reduceCtorEq, eStore] <;> first | rfl | exact ⟨rfl, rfl⟩
      have hne : ng = ⟨m, deltaL (expandOf gs m) s⟩ := by rw [if_pos ⟨by omega, by omega, by omega⟩] at hng; exact hng.symm
      refine Callx.closed (hexp m hm) rfl rfl (.inl rfl) ?_
      simp -implicitDefEqProofs (maxSteps := 2000000) only [push_cast, Nat.reduceEqDiff, Nat.reduceLT, Nat.reduceLeDiff, Nat.reduceAdd, Nat.reduceMul, Nat.reduceSub, Nat.reduceBEq, ↓reduceIte, reduceCtorEq, eStore, eGroup]
      have hek := expand_ok hok hm
      refine Callx.closed (l4Delta (expandOf gs m) s hB (by have := (stateOk_ord hek).2.1; omega) (by omega)) rfl rfl (.inr ⟨rfl, rfl⟩) ?_
      simp -implicitDefEqProofs (maxSteps := 2000000) only [push_cast, Nat.reduceEqDiff, Nat.reduceLT, Nat.reduceLeDiff, Nat.reduceAdd, Nat.reduceMul, Nat.reduceSub, Nat.reduceBEq, ↓reduceIte, reduceCtorEq, eStore, eGroup]
      refine ⟨(), Keep.wk (ids := [some 0, some 1, some 2, some 3, some 7, some 5]) ?_⟩
      rw [hne]
      simp only [push_cast, Nat.reduceEqDiff, Nat.reduceLT, Nat.reduceLeDiff, Nat.reduceAdd, Nat.reduceMul, Nat.reduceSub, Nat.reduceBEq, ↓reduceIte, reduceCtorEq, eStore] <;> first | rfl | exact ⟨rfl, rfl⟩
    · simp -implicitDefEqProofs (maxSteps := 2000000) only [push_cast, Nat.reduceEqDiff, Nat.reduceLT, Nat.reduceLeDiff, Nat.reduceAdd, Nat.reduceMul, Nat.reduceSub, Nat.reduceBEq, ↓reduceIte, reduceCtorEq, eStore, eGroup]
      refine ⟨rfl, by omega, rfl, by omega, by omega, fun _ => ⟨by unfold inI64; omega, ?_⟩⟩
      rw [show (gs.length : Int) + 1 - 1 = gs.length by omega]
      exact Close.of [some 7] rfl rfl rfl (by simp only [push_cast, Nat.reduceEqDiff, Nat.reduceLT, Nat.reduceLeDiff, Nat.reduceAdd, Nat.reduceMul, Nat.reduceSub, Nat.reduceBEq, ↓reduceIte, reduceCtorEq] <;> first | rfl | exact ⟨rfl, rfl⟩) (by simp only [push_cast, Nat.reduceEqDiff, Nat.reduceLT, Nat.reduceLeDiff, Nat.reduceAdd, Nat.reduceMul, Nat.reduceSub, Nat.reduceBEq, ↓reduceIte, reduceCtorEq, List.map_append, eGroup] <;> first | rfl | exact ⟨rfl, rfl⟩)
theorem implSave (gs : List Group) (s : List Entry) (near : Int) (hB : Bd.B ≤ 2147483648) : Con P0 20 [eStore ⟨gs⟩, eEntryS s, .i .i64 near] (.tp [.ag [.sr 0], .t (.i .i64 (saveN gs s))]) [grO (saveG gs s near)] := by
  refine Con.intro (fn := Try.f20) [.cell 6 38, .tmp 7] (fun i => if i = 1000022 then (999999, []) else if i = 8 then (9, [(false, 0), (false, 1), (false, 2), (false, 3), (false, 4), (false, 5), (true, 6), (false, 7), (true, 8)]) else (0, [])) mixed (by kernel_rfl) rfl (by decide) rfl (by rfl) (by kernel_rfl) ?_
  simp -implicitDefEqProofs (maxSteps := 2000000) only [push_cast, Nat.reduceEqDiff, Nat.reduceLT, Nat.reduceLeDiff, Nat.reduceAdd, Nat.reduceMul, Nat.reduceSub, Nat.reduceBEq, ↓reduceIte, reduceCtorEq, eStore]
  have := Bd.lo
  have hhi := Bd.hi
  refine Callx.closed (nodesOf gs hB) rfl rfl (.inl rfl) ?_
  simp -implicitDefEqProofs (maxSteps := 2000000) only [push_cast, Nat.reduceEqDiff, Nat.reduceLT, Nat.reduceLeDiff, Nat.reduceAdd, Nat.reduceMul, Nat.reduceSub, Nat.reduceBEq, ↓reduceIte, reduceCtorEq, eStore]
  have bad : svOk gs s = false → saveG gs s near = [] ∧ saveN gs s = -1 := fun h => by simp [saveG, saveN, h]
  cases hok : storeOk gs with
  | false =>
    obtain ⟨h1, h2⟩ := bad (by unfold svOk; rw [hok]; rfl)
    rw [h1, h2]
    simp only [Bool.not_false, if_true]
    simp -implicitDefEqProofs (maxSteps := 2000000) only [push_cast, Nat.reduceEqDiff, Nat.reduceLT, Nat.reduceLeDiff, Nat.reduceAdd, Nat.reduceMul, Nat.reduceSub, Nat.reduceBEq, ↓reduceIte, reduceCtorEq, eStore]
    exact Close.of [none] rfl rfl rfl (by simp only [push_cast, Nat.reduceEqDiff, Nat.reduceLT, Nat.reduceLeDiff, Nat.reduceAdd, Nat.reduceMul, Nat.reduceSub, Nat.reduceBEq, ↓reduceIte, reduceCtorEq] <;> first | rfl | exact ⟨rfl, rfl⟩) (by simp only [push_cast, Nat.reduceEqDiff, Nat.reduceLT, Nat.reduceLeDiff, Nat.reduceAdd, Nat.reduceMul, Nat.reduceSub, Nat.reduceBEq, ↓reduceIte, reduceCtorEq] <;> first | rfl | exact ⟨rfl, rfl⟩)
  | true =>
  obtain ⟨hlen, hu⟩ := storeUps hok
  simp -implicitDefEqProofs (maxSteps := 2000000) only [push_cast, Nat.reduceEqDiff, Nat.reduceLT, Nat.reduceLeDiff, Nat.reduceAdd, Nat.reduceMul, Nat.reduceSub, Nat.reduceBEq, ↓reduceIte, reduceCtorEq, eStore]
  refine Callx.closed (implStateOk s) rfl rfl (.inl rfl) ?_
  simp -implicitDefEqProofs (maxSteps := 2000000) only [push_cast, Nat.reduceEqDiff, Nat.reduceLT, Nat.reduceLeDiff, Nat.reduceAdd, Nat.reduceMul, Nat.reduceSub, Nat.reduceBEq, ↓reduceIte, reduceCtorEq, eStore]
  refine iteI (fun h => ?_) (fun h => ?_)
  · obtain ⟨h1, h2⟩ := bad (by unfold svOk; rw [hok]; simpa using h)
    rw [h1, h2]
    exact Close.of [none] rfl rfl rfl (by simp only [push_cast, Nat.reduceEqDiff, Nat.reduceLT, Nat.reduceLeDiff, Nat.reduceAdd, Nat.reduceMul, Nat.reduceSub, Nat.reduceBEq, ↓reduceIte, reduceCtorEq] <;> first | rfl | exact ⟨rfl, rfl⟩) (by simp only [push_cast, Nat.reduceEqDiff, Nat.reduceLT, Nat.reduceLeDiff, Nat.reduceAdd, Nat.reduceMul, Nat.reduceSub, Nat.reduceBEq, ↓reduceIte, reduceCtorEq] <;> first | rfl | exact ⟨rfl, rfl⟩)
  have hso : stateOk s = true := by simpa using h
  obtain ⟨so1, so2, so3⟩ := stateOk_ord hso
  have hsv : svOk gs s = true := by unfold svOk; rw [hok, hso]; rfl
  have hG : saveG gs s near = if 0 ≤ fdTo gs s gs.length then gs else if 1000 ≤ gs.length then [] else gs ++ [newG gs s near] := if_pos hsv
  have hN : saveN gs s = if 0 ≤ fdTo gs s gs.length then fdTo gs s gs.length else if 1000 ≤ gs.length then -1 else gs.length := if_pos hsv
  intro _
  have hnl : (nodesT gs gs.length).length = gs.length := by simp [nodesT]
  have hnode : ∀ (m : Nat) (y : T), (nodesT gs gs.length)[m]? = some y → m < gs.length ∧ y = nodeOf gs m := fun m y hy => by
    have hm : m < gs.length := by have := (List.getElem?_eq_some_iff.1 hy).1; omega
    unfold nodesT at hy
    rw [List.getElem?_map, List.getElem?_range hm] at hy
    exact ⟨hm, by simpa using hy.symm⟩
  refine WL.loop (ι := Nat) (D := (fun i => if i = 1000022 then (999999, []) else if i = 8 then (9, [(false, 0), (false, 1), (false, 2), (false, 3), (false, 4), (false, 5), (true, 6), (false, 7), (true, 8)]) else (0, []))) (fun i => i ≤ gs.length) (fun i => ⟨114, [(1, .t (eEntryS s)), (2, .t (.i .i64 near)), (3, .rf 0 0), (6, .rf 1 0), (8, .t (.sl (nodesT gs gs.length))), (10, .rf 2 0), (32, .t (eGroupS gs)), (33, .t (.i .i64 gs.length)), (34, .t (.i .i64 i))], [.box (.t (eStore ⟨gs⟩)), .box (.ag [.ns]), .box (.ag [.sr 3]), grO (gs.take i)]⟩) (fun i => gs.length - i) mixed (by kernel_rfl) 0 (by omega) (Keep.wk (ids := [some 0, some 1, some 2, none]) ?_) ?_
  · simp only [push_cast, Nat.reduceEqDiff, Nat.reduceLT, Nat.reduceLeDiff, Nat.reduceAdd, Nat.reduceMul, Nat.reduceSub, Nat.reduceBEq, ↓reduceIte, reduceCtorEq, eStore, List.take_zero, List.map_nil] <;> first | rfl | exact ⟨rfl, rfl⟩
  intro i hi
  simp -implicitDefEqProofs (maxSteps := 2000000) only [push_cast, Nat.reduceEqDiff, Nat.reduceLT, Nat.reduceLeDiff, Nat.reduceAdd, Nat.reduceMul, Nat.reduceSub, Nat.reduceBEq, ↓reduceIte, reduceCtorEq, eStore, eGroup]
  refine iteI (fun h1 => ⟨by omega, fun g hg => ?_⟩) (fun h1 => ?_)
  · rw [Int.toNat_natCast] at hg
    have hgl := (hu i (by omega) g hg).len
    refine Mkx.closed (cloneE g.sets hB (by omega)) rfl rfl (.inr ⟨rfl, rfl⟩) ?_
    simp -implicitDefEqProofs (maxSteps := 2000000) only [push_cast, Nat.reduceEqDiff, Nat.reduceLT, Nat.reduceLeDiff, Nat.reduceAdd, Nat.reduceMul, Nat.reduceSub, Nat.reduceBEq, ↓reduceIte, reduceCtorEq, eStore, eGroup]
    have htl : (gs.take i).length = i := by rw [List.length_take]; omega
    have hto : gs.take (i + 1) = gs.take i ++ [g] := by rw [List.take_add_one, hg]; rfl
    refine ⟨rfl, by omega, rfl, by omega, by omega, by unfold inI64; omega, i + 1, by omega, by omega, Keep.wk (ids := [some 0, some 1, some 2, some 7]) ?_⟩
    rw [hto]
    simp only [push_cast, Nat.reduceEqDiff, Nat.reduceLT, Nat.reduceLeDiff, Nat.reduceAdd, Nat.reduceMul, Nat.reduceSub, Nat.reduceBEq, ↓reduceIte, reduceCtorEq, eStore, List.map_append, eGroup] <;> first | rfl | exact ⟨rfl, rfl⟩
  have hie : i = gs.length := by omega
  subst hie
  rw [List.take_length]
  refine Callx.closed (liveOfC s) rfl rfl (.inl rfl) ?_
  simp -implicitDefEqProofs (maxSteps := 2000000) only [push_cast, Nat.reduceEqDiff, Nat.reduceLT, Nat.reduceLeDiff, Nat.reduceAdd, Nat.reduceMul, Nat.reduceSub, Nat.reduceBEq, ↓reduceIte, reduceCtorEq, eStore, eGroup]
  have hbs := Is.base hso
  rw [← live_patch hso] at hbs
  intro _
  refine WL.loop (ι := Nat) (D := (fun i => if i = 1000022 then (999999, []) else if i = 8 then (9, [(false, 0), (false, 1), (false, 2), (false, 3), (false, 4), (false, 5), (true, 6), (false, 7), (true, 8)]) else (0, []))) (fun m => m ≤ gs.length ∧ ∀ j < m, expandOf gs j ≠ s) (fun m => ⟨114, [(1, .t (eEntryS s)), (2, .t (.i .i64 near)), (3, .rf 0 0), (6, .rf 1 0), (8, .t (.sl (nodesT gs gs.length))), (10, .rf 2 0), (13, .t (lvT (live s))), (52, .t (.sl (nodesT gs gs.length))), (53, .t (.i .i64 (nodesT gs gs.length).length)), (54, .t (.i .i64 m))], [.box (.t (eStore ⟨gs⟩)), .box (.ag [.ns]), .box (.ag [.sr 3]), grO gs]⟩) (fun m => gs.length - m) mixed (by kernel_rfl) 0 ⟨by omega, by simp⟩ (Keep.wk (ids := [some 0, some 1, some 2, some 3]) ?_) ?_
  · simp only [push_cast, Nat.reduceEqDiff, Nat.reduceLT, Nat.reduceLeDiff, Nat.reduceAdd, Nat.reduceMul, Nat.reduceSub, Nat.reduceBEq, ↓reduceIte, reduceCtorEq, eStore] <;> first | rfl | exact ⟨rfl, rfl⟩
  rintro m ⟨hm, hne⟩
  simp -implicitDefEqProofs (maxSteps := 2000000) only [push_cast, Nat.reduceEqDiff, Nat.reduceLT, Nat.reduceLeDiff, Nat.reduceAdd, Nat.reduceMul, Nat.reduceSub, Nat.reduceBEq, ↓reduceIte, reduceCtorEq, eStore, eGroup]
  rw [hnl]
  refine iteI (fun h2 => ⟨by omega, fun y hy => ?_⟩) (fun h2 => ?_)
  · rw [Int.toNat_natCast] at hy
    obtain ⟨hml, rfl⟩ := hnode m y hy
    obtain ⟨g, hg⟩ : ∃ g, gs[m]? = some g := ⟨_, List.getElem?_eq_getElem hml⟩
    have hk := hu m hml g hg
    have his := fullM_is m (fun j hj => hu j (by omega)) g hg hk.hi hk.ord fun hn => hk.base (by have := hk.lo; omega)
    rw [nodeOf_eq hg]
    generalize (if 0 ≤ g.parent ∧ g.parent.toNat < m then nodeOf gs g.parent.toNat else T.np) = up
    simp -implicitDefEqProofs (maxSteps := 2000000) only [push_cast, Nat.reduceEqDiff, Nat.reduceLT, Nat.reduceLeDiff, Nat.reduceAdd, Nat.reduceMul, Nat.reduceSub, Nat.reduceBEq, ↓reduceIte, reduceCtorEq, eStore, eGroup]
    refine Callx.closed (mapsEqual (fullM gs m) (live s) his.keys (live_nodup s)) rfl rfl (.inl rfl) ?_
    simp -implicitDefEqProofs (maxSteps := 2000000) only [push_cast, Nat.reduceEqDiff, Nat.reduceLT, Nat.reduceLeDiff, Nat.reduceAdd, Nat.reduceMul, Nat.reduceSub, Nat.reduceBEq, ↓reduceIte, reduceCtorEq, eStore, eGroup]
    have heq := eqM_is his hbs
    refine iteI (fun h3 => ?_) (fun h3 => ?_)
    · have hf := fdTo_at hne (heq.1 h3) hml
      rw [hf, if_pos (by omega)] at hG hN
      rw [hG, hN]
      exact Close.of [some 3] rfl rfl rfl (by simp only [push_cast, Nat.reduceEqDiff, Nat.reduceLT, Nat.reduceLeDiff, Nat.reduceAdd, Nat.reduceMul, Nat.reduceSub, Nat.reduceBEq, ↓reduceIte, reduceCtorEq] <;> first | rfl | exact ⟨rfl, rfl⟩) (by simp only [push_cast, Nat.reduceEqDiff, Nat.reduceLT, Nat.reduceLeDiff, Nat.reduceAdd, Nat.reduceMul, Nat.reduceSub, Nat.reduceBEq, ↓reduceIte, reduceCtorEq, List.map_append, eGroup] <;> first | rfl | exact ⟨rfl, rfl⟩)
    · refine ⟨by unfold inI64; omega, m + 1, ⟨by omega, fun j hj => ?_⟩, by omega, Keep.wk (ids := [some 0, some 1, some 2, some 3]) ?_⟩
      · rcases Nat.lt_or_ge j m with hjm | hjm
        · exact hne j hjm
        · rw [show j = m by omega]
          exact fun h => h3 (heq.2 h)
      · simp only [push_cast, Nat.reduceEqDiff, Nat.reduceLT, Nat.reduceLeDiff, Nat.reduceAdd, Nat.reduceMul, Nat.reduceSub, Nat.reduceBEq, ↓reduceIte, reduceCtorEq, eStore, hnl] <;> first | rfl | exact ⟨rfl, rfl⟩
  have hme : m = gs.length := by omega
  subst hme
  rw [fdTo_none hne, if_neg (by omega)] at hG hN
  intro _
  refine iteI (fun h3 => ?_) (fun h3 => ?_)
  · rw [if_pos (by omega)] at hG hN
    rw [hG, hN]
    exact Close.of [none] rfl rfl rfl (by simp only [push_cast, Nat.reduceEqDiff, Nat.reduceLT, Nat.reduceLeDiff, Nat.reduceAdd, Nat.reduceMul, Nat.reduceSub, Nat.reduceBEq, ↓reduceIte, reduceCtorEq] <;> first | rfl | exact ⟨rfl, rfl⟩) (by simp only [push_cast, Nat.reduceEqDiff, Nat.reduceLT, Nat.reduceLeDiff, Nat.reduceAdd, Nat.reduceMul, Nat.reduceSub, Nat.reduceBEq, ↓reduceIte, reduceCtorEq, List.map_append, eGroup] <;> first | rfl | exact ⟨rfl, rfl⟩)
  rw [if_neg (by omega)] at hG hN
  rw [hG, hN]
  refine Callx.closed (cloneE s hB (by omega)) rfl rfl (.inr ⟨rfl, rfl⟩) ?_
  simp -implicitDefEqProofs (maxSteps := 2000000) only [push_cast, Nat.reduceEqDiff, Nat.reduceLT, Nat.reduceLeDiff, Nat.reduceAdd, Nat.reduceMul, Nat.reduceSub, Nat.reduceBEq, ↓reduceIte, reduceCtorEq, eStore, eGroup]
  obtain ⟨ng, hng⟩ : ∃ ng, newG gs s near = ng := ⟨_, rfl⟩
  rw [hng]
  unfold newG at hng
  refine W.join (ι := Unit) (D := (fun i => if i = 8 then (9, [(false, 0), (false, 1), (false, 2), (false, 3), (false, 4), (false, 5), (true, 6), (false, 7), (true, 8)]) else (0, []))) (fun _ => True) (fun _ => ⟨114, [(6, .rf 1 0), (8, .t (.sl (nodesT gs gs.length))), (10, .rf 2 0), (16, .rf 5 0)], [.box (.t (eStore ⟨gs⟩)), .box (.ag [.ns]), .box (.ag [.sr 3]), grO gs, enO ng.sets, .box (.ag [.t (.i .i64 ng.parent), .sr 4])]⟩) mixed (by kernel_rfl) ?_ (fun _ _ => ?_)
  · simp -implicitDefEqProofs (maxSteps := 2000000) only [push_cast, Nat.reduceEqDiff, Nat.reduceLT, Nat.reduceLeDiff, Nat.reduceAdd, Nat.reduceMul, Nat.reduceSub, Nat.reduceBEq, ↓reduceIte, reduceCtorEq, eStore, eGroup]
    have stay : ¬ (0 ≤ near ∧ near < gs.length ∧ linksOf gs near.toNat < 4) → ng.parent = -1 ∧ ng.sets = s := fun h => by rw [if_neg h] at hng; rw [← hng]; exact ⟨rfl, rfl⟩
    refine iteI (fun h4 => ?_) (fun h4 => ?_)
    rotate_left
    · obtain ⟨e1, e2⟩ := stay (fun h => h4 h.1)
      refine ⟨(), Keep.wk (ids := [some 0, some 1, some 2, some 3, some 4, some 5]) ?_⟩
      rw [e1, e2]
      simp only [push_cast, Nat.reduceEqDiff, Nat.reduceLT, Nat.reduceLeDiff, Nat.reduceAdd, Nat.reduceMul, Nat.reduceSub, Nat.reduceBEq, ↓reduceIte, reduceCtorEq, eStore] <;> first | rfl | exact ⟨rfl, rfl⟩
    rw [hnl]
    intro _
    refine iteI (fun h5 => ?_) (fun h5 => ?_)
    rotate_left
    · obtain ⟨e1, e2⟩ := stay (fun h => h5 h.2.1)
      refine ⟨(), Keep.wk (ids := [some 0, some 1, some 2, some 3, some 4, some 5]) ?_⟩
      rw [e1, e2]
      simp only [push_cast, Nat.reduceEqDiff, Nat.reduceLT, Nat.reduceLeDiff, Nat.reduceAdd, Nat.reduceMul, Nat.reduceSub, Nat.reduceBEq, ↓reduceIte, reduceCtorEq, eStore] <;> first | rfl | exact ⟨rfl, rfl⟩
    obtain ⟨m, rfl⟩ : ∃ m : Nat, near = m := ⟨near.toNat, by omega⟩
    rw [Int.toNat_natCast] at stay hng
    refine ⟨by omega, fun y hy => ?_⟩
    rw [Int.toNat_natCast] at hy
    obtain ⟨hml, rfl⟩ := hnode m y hy
    obtain ⟨g, hg⟩ : ∃ g, gs[m]? = some g := ⟨_, List.getElem?_eq_getElem hml⟩
    have hk := hu m hml g hg
    have his := fullM_is m (fun j hj => hu j (by omega)) g hg hk.hi hk.ord fun hn => hk.base (by have := hk.lo; omega)
    rw [nodeOf_eq hg]
    generalize (if 0 ≤ g.parent ∧ g.parent.toNat < m then nodeOf gs g.parent.toNat else T.np) = up
    simp -implicitDefEqProofs (maxSteps := 2000000) only [push_cast, Nat.reduceEqDiff, Nat.reduceLT, Nat.reduceLeDiff, Nat.reduceAdd, Nat.reduceMul, Nat.reduceSub, Nat.reduceBEq, ↓reduceIte, reduceCtorEq, eStore, eGroup]
    refine iteI (fun h6 => ?_) (fun h6 => ?_)
    rotate_left
    · obtain ⟨e1, e2⟩ := stay (fun h => h6 (by have := h.2.2; omega))
      refine ⟨(), Keep.wk (ids := [some 0, some 1, some 2, some 3, some 4, some 5]) ?_⟩
      rw [e1, e2]
      simp only [push_cast, Nat.reduceEqDiff, Nat.reduceLT, Nat.reduceLeDiff, Nat.reduceAdd, Nat.reduceMul, Nat.reduceSub, Nat.reduceBEq, ↓reduceIte, reduceCtorEq, eStore] <;> first | rfl | exact ⟨rfl, rfl⟩
    have hne : ng = ⟨m, deltaL (expandOf gs m) s⟩ := by rw [if_pos ⟨by omega, by omega, by omega⟩] at hng; exact hng.symm
    refine ⟨by omega, fun y hy => ?_⟩
    rw [Int.toNat_natCast] at hy
    obtain ⟨_, rfl⟩ := hnode m y hy
    rw [nodeOf_eq hg]
    generalize (if 0 ≤ g.parent ∧ g.parent.toNat < m then nodeOf gs g.parent.toNat else T.np) = up2
    simp -implicitDefEqProofs (maxSteps := 2000000) only [push_cast, Nat.reduceEqDiff, Nat.reduceLT, Nat.reduceLeDiff, Nat.reduceAdd, Nat.reduceMul, Nat.reduceSub, Nat.reduceBEq, ↓reduceIte, reduceCtorEq, eStore, eGroup]
    have hfl := hk.full
    rw [← his.len] at hfl
    refine Callx.closed (liveList (fullM gs m) (expandOf gs m) hB (by omega) his) rfl rfl (.inl rfl) ?_
    simp -implicitDefEqProofs (maxSteps := 2000000) only [push_cast, Nat.reduceEqDiff, Nat.reduceLT, Nat.reduceLeDiff, Nat.reduceAdd, Nat.reduceMul, Nat.reduceSub, Nat.reduceBEq, ↓reduceIte, reduceCtorEq, eStore, eGroup]
    refine Callx.closed (deltaOf (expandOf gs m) s hB (expand_ok hok hml) hso) rfl rfl (.inr ⟨rfl, rfl⟩) ?_
    simp -implicitDefEqProofs (maxSteps := 2000000) only [push_cast, Nat.reduceEqDiff, Nat.reduceLT, Nat.reduceLeDiff, Nat.reduceAdd, Nat.reduceMul, Nat.reduceSub, Nat.reduceBEq, ↓reduceIte, reduceCtorEq, eStore, eGroup]
    refine ⟨(), Keep.wk (ids := [some 0, some 1, some 2, some 3, some 7, some 5]) ?_⟩
    rw [hne]
    simp only [push_cast, Nat.reduceEqDiff, Nat.reduceLT, Nat.reduceLeDiff, Nat.reduceAdd, Nat.reduceMul, Nat.reduceSub, Nat.reduceBEq, ↓reduceIte, reduceCtorEq, eStore] <;> first | rfl | exact ⟨rfl, rfl⟩
  · simp -implicitDefEqProofs (maxSteps := 2000000) only [push_cast, Nat.reduceEqDiff, Nat.reduceLT, Nat.reduceLeDiff, Nat.reduceAdd, Nat.reduceMul, Nat.reduceSub, Nat.reduceBEq, ↓reduceIte, reduceCtorEq, eStore, eGroup]
    refine ⟨rfl, by omega, rfl, by omega, by omega, fun _ => ?_⟩
    rw [hnl]
    exact Close.of [some 7] rfl rfl rfl (by simp only [push_cast, Nat.reduceEqDiff, Nat.reduceLT, Nat.reduceLeDiff, Nat.reduceAdd, Nat.reduceMul, Nat.reduceSub, Nat.reduceBEq, ↓reduceIte, reduceCtorEq] <;> first | rfl | exact ⟨rfl, rfl⟩) (by simp only [push_cast, Nat.reduceEqDiff, Nat.reduceLT, Nat.reduceLeDiff, Nat.reduceAdd, Nat.reduceMul, Nat.reduceSub, Nat.reduceBEq, ↓reduceIte, reduceCtorEq, List.map_append, eGroup] <;> first | rfl | exact ⟨rfl, rfl⟩)
end Go.Proofs.Ythhgcklidfilfaa.BX
