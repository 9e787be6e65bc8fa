/-
  'Lookup', the document's and the program's.
-/
import Derived.Test.YtgblonnnojdneaaSn
namespace Go.Proofs.Ytgblonnnojdneaa.BX
set_option linter.unusedSectionVars false
set_option linter.unusedSimpArgs false
set_option linter.unusedVariables false
open Go Go.RowKit
set_option maxRecDepth 20000
set_option maxHeartbeats 400000

theorem agetE_at {k : SlotK} {q : Entry → Bool} (hq : ∀ e, q e = decide (e.slot = k)) : ∀ {s : List Entry} {n : Int}, (firstAt q s n = -1 ∧ aget k (s.map Entry.pair) = none) ∨ ∃ (j : Nat) (e : Entry), firstAt q s n = n + j ∧ s[j]? = some e ∧ aget k (s.map Entry.pair) = some e.id
  | [], n => .inl ⟨rfl, rfl⟩
  | x :: r, n => by
    unfold firstAt
    rw [hq x]
    simp only [List.map_cons, aget]
    by_cases h : x.slot = k
    · rw [if_pos (by simp [h]), if_pos (show x.pair.1 = k from h)]
      exact .inr ⟨0, x, by omega, rfl, rfl⟩
    · rw [if_neg (by simp [h]), if_neg (show ¬ x.pair.1 = k from h)]
      rcases agetE_at hq (s := r) (n := n + 1) with ⟨h1, h2⟩ | ⟨j, e, h1, h2, h3⟩
      · exact .inl ⟨h1, h2⟩
      · exact .inr ⟨j + 1, e, by rw [h1]; omega, by simpa using h2, h3⟩
/-- what a look upwards finds: the id, how many groups were seen, whether there is one -/
def walkN (gs : List Group) (k : SlotK) (i v : Nat) : List UInt8 × Nat × Bool := match gs[i]? with
  | none => ([], v, false)
  | some g => match aget k (g.sets.map Entry.pair) with
    | some x => (x, v + 1, decide (¬ x = []))
    | none => if _h : 0 ≤ g.parent ∧ g.parent.toNat < i then walkN gs k g.parent.toNat (v + 1) else ([], v + 1, false)
termination_by i
decreasing_by exact _h.2
def walkI (gs : List Group) (k : SlotK) (c : Int) (v : Nat) : List UInt8 × Nat × Bool := if c < 0 then ([], v, false) else walkN gs k c.toNat v
theorem walk_some {gs : List Group} {k : SlotK} {c : Int} {v : Nat} {g : Group} {x : List UInt8} (h0 : 0 ≤ c) (h : gs[c.toNat]? = some g) (hx : aget k (g.sets.map Entry.pair) = some x) : walkI gs k c v = (x, v + 1, decide (¬ x = [])) := by
  unfold walkI
  rw [if_neg (by omega), walkN, h]
  simp only [hx]
theorem walk_none {gs : List Group} {k : SlotK} {c : Int} {v : Nat} {g : Group} (h0 : 0 ≤ c) (h : gs[c.toNat]? = some g) (hx : aget k (g.sets.map Entry.pair) = none) (hp : g.parent < c) : walkI gs k c v = walkI gs k g.parent (v + 1) := by
  unfold walkI
  rw [if_neg (by omega), walkN, h]
  simp only [hx]
  by_cases hn : g.parent < 0
  · rw [dif_neg (by omega), if_pos hn]
  · rw [dif_pos (by omega), if_neg hn]
noncomputable def lkOf (gs : List Group) (k : SlotK) (c : Int) : List UInt8 × Nat × Bool := if storeOk gs = true ∧ 0 ≤ c ∧ c < gs.length then walkI gs k c 0 else ([], 0, false)
def lkT (r : List UInt8 × Nat × Bool) : T := .tp [.s r.1, .i .i64 r.2.1, .b r.2.2]
theorem storeOk_ups {gs : List Group} (h : storeOk gs = true) : gs.length ≤ 1000 ∧ Ups gs gs.length := by
  simp only [storeOk, Bool.and_eq_true, decide_eq_true_eq] at h
  exact h

variable [Bd]

theorem specLookup (gs : List Group) (c : Int) (a b : List UInt8) (hB : Bd.B ≤ 2147483648) : Con P0 10 [eStore ⟨gs⟩, .i .i64 c, .s a, .s b] (.t (lkT (lkOf gs (a, b) c))) [] := by
  refine Con.intro (fn := Try.f10) [.tmp 8, .tmp 9, .tmp 10] (fun _ => 0) mixed (by kernel_rfl) rfl (by decide) rfl (by rfl) (by kernel_rfl) ?_
  simp -implicitDefEqProofs (maxSteps := 2000000) only [push_cast, Nat.reduceEqDiff, Nat.reduceLT, Nat.reduceLeDiff, Nat.reduceAdd, Nat.reduceMul, Nat.reduceSub, Nat.reduceBEq, ↓reduceIte, reduceCtorEq, eStore]
  refine Callx.closed (specStoreOk gs hB) rfl rfl (.inl rfl) ?_
  simp -implicitDefEqProofs (maxSteps := 2000000) only [push_cast, Nat.reduceEqDiff, Nat.reduceLT, Nat.reduceLeDiff, Nat.reduceAdd, Nat.reduceMul, Nat.reduceSub, Nat.reduceBEq, ↓reduceIte, reduceCtorEq]
  cases hok : storeOk gs with
  | false =>
    simp only [Bool.not_false, if_true]
    unfold lkOf lkT
    rw [if_neg (by rw [hok]; simp)]
    rfl
  | true =>
  obtain ⟨hlen, hu⟩ := storeOk_ups hok
  simp only [Bool.not_true, Bool.false_eq_true, if_false]
  split
  · rename_i h1
    unfold lkOf lkT
    rw [if_neg (by omega)]
    rfl
  intro _
  split
  · rename_i h1
    unfold lkOf lkT
    rw [if_neg (by omega)]
    rfl
  rename_i h1 h2
  have hl : lkOf gs (a, b) c = walkI gs (a, b) c 0 := by unfold lkOf; rw [if_pos ⟨hok, by omega, by omega⟩]
  rw [hl]
  refine WL.loop (ι := Int × Nat) (D := (fun _ => 0)) (fun x => -1 ≤ x.1 ∧ x.1 < gs.length ∧ x.1 + x.2 ≤ 1000 ∧ walkI gs (a, b) x.1 x.2 = walkI gs (a, b) c 0) (fun x => ⟨65, [(1, .t (.i .i64 x.1)), (2, .t (.s a)), (3, .t (.s b)), (4, .rf 0 0), (11, .t (.i .i64 x.2))], [.box (.t (eStore ⟨gs⟩))]⟩) (fun x => (x.1 + 1).toNat) mixed (by kernel_rfl) (c, 0) ⟨by dsimp only; omega, by dsimp only; omega, by dsimp only; omega, rfl⟩ (Keep.wk (ids := [some 0]) ?_) ?_
  · simp only [push_cast, Nat.reduceEqDiff, Nat.reduceLT, Nat.reduceLeDiff, Nat.reduceAdd, Nat.reduceMul, Nat.reduceSub, Nat.reduceBEq, ↓reduceIte, reduceCtorEq, eStore] <;> trivial
  · rintro ⟨i, v⟩ ⟨hi1, hi2, hi3, hw⟩
    dsimp only at hi1 hi2 hi3 hw ⊢
    simp -implicitDefEqProofs (maxSteps := 2000000) only [push_cast, Nat.reduceEqDiff, Nat.reduceLT, Nat.reduceLeDiff, Nat.reduceAdd, Nat.reduceMul, Nat.reduceSub, Nat.reduceBEq, ↓reduceIte, reduceCtorEq, eStore, eGroup]
    split
    case isFalse h =>
      have hn : i < 0 := by omega
      rw [← hw]
      unfold walkI lkT
      rw [if_pos hn]
    rename_i h
    refine ⟨by unfold inI64; omega, by omega, fun g hg => ?_⟩
    have hk := hu i.toNat (by omega) g hg
    refine Callx.closed (l4At g.sets ⟨a, b, []⟩) rfl rfl (.inl rfl) ?_
    simp -implicitDefEqProofs (maxSteps := 2000000) only [push_cast, Nat.reduceEqDiff, Nat.reduceLT, Nat.reduceLeDiff, Nat.reduceAdd, Nat.reduceMul, Nat.reduceSub, Nat.reduceBEq, ↓reduceIte, reduceCtorEq, eGroup]
    rcases agetE_at (k := (a, b)) (fun e => same_slot (x := e) (a := a) (b := b) (i := [])) (s := g.sets) (n := 0) with ⟨h4, h5⟩ | ⟨j, e, h4, h5, h6⟩
    · simp only [h4]
      rw [if_neg (by omega)]
      have hnx := walk_none (v := v) h hg h5 (by have := hk.hi; omega)
      rw [hw] at hnx
      refine ⟨by omega, fun g' hg' => ?_⟩
      rw [hg] at hg'
      cases hg'
      have hlo := hk.lo
      have hhi := hk.hi
      refine ⟨(g.parent, v + 1), ⟨by dsimp only; omega, by dsimp only; omega, by dsimp only; omega, hnx.symm⟩, by dsimp only; omega, Keep.wk (ids := [some 0]) ?_⟩
      simp only [push_cast, Nat.reduceEqDiff, Nat.reduceLT, Nat.reduceLeDiff, Nat.reduceAdd, Nat.reduceMul, Nat.reduceSub, Nat.reduceBEq, ↓reduceIte, reduceCtorEq, eStore] <;> trivial
    · simp only [h4]
      have hj := (List.getElem?_eq_some_iff.1 h5).1
      rw [if_pos (by omega)]
      have hnx := walk_some (v := v) h hg h6
      rw [hw] at hnx
      refine ⟨by omega, fun g' hg' => ?_⟩
      rw [hg] at hg'
      cases hg'
      refine ⟨by omega, fun x hx => ?_⟩
      rw [show ((0 : Int) + j).toNat = j by omega, h5] at hx
      cases hx
      simp -implicitDefEqProofs (maxSteps := 2000000) only [push_cast, Nat.reduceEqDiff, Nat.reduceLT, Nat.reduceLeDiff, Nat.reduceAdd, Nat.reduceMul, Nat.reduceSub, Nat.reduceBEq, ↓reduceIte, reduceCtorEq, eEntry]
      rw [hnx]
      rfl

def nodeC (gs : List Group) (c : Int) : T := if c < 0 then .np else nodeOf gs c.toNat

theorem implLookup (gs : List Group) (c : Int) (a b : List UInt8) (hB : Bd.B ≤ 2147483648) : Con P0 12 [eStore ⟨gs⟩, .i .i64 c, .s a, .s b] (.t (lkT (lkOf gs (a, b) c))) [] := by
  refine Con.intro (fn := Try.f12) [.tmp 8, .tmp 9, .tmp 10] (fun _ => 0) mixed (by kernel_rfl) rfl (by decide) rfl (by rfl) (by kernel_rfl) ?_
  simp -implicitDefEqProofs (maxSteps := 2000000) only [push_cast, Nat.reduceEqDiff, Nat.reduceLT, Nat.reduceLeDiff, Nat.reduceAdd, Nat.reduceMul, Nat.reduceSub, Nat.reduceBEq, ↓reduceIte, reduceCtorEq, eStore]
  refine Callx.closed (nodesOf gs hB) rfl rfl (.inl rfl) ?_
  simp -implicitDefEqProofs (maxSteps := 2000000) only [push_cast, Nat.reduceEqDiff, Nat.reduceLT, Nat.reduceLeDiff, Nat.reduceAdd, Nat.reduceMul, Nat.reduceSub, Nat.reduceBEq, ↓reduceIte, reduceCtorEq]
  cases hok : storeOk gs with
  | false =>
    simp only [Bool.not_false, if_true]
    unfold lkOf lkT
    rw [if_neg (by rw [hok]; simp)]
    rfl
  | true =>
  obtain ⟨hlen, hu⟩ := storeOk_ups hok
  simp only [Bool.not_true, Bool.false_eq_true, if_false, if_true]
  have hnl : (nodesT gs gs.length).length = gs.length := by simp [nodesT]
  split
  · rename_i h1
    unfold lkOf lkT
    rw [if_neg (by omega)]
    rfl
  intro _
  split
  · rename_i h1
    unfold lkOf lkT
    rw [if_neg (by omega)]
    rfl
  rename_i h1 h2
  have hl : lkOf gs (a, b) c = walkI gs (a, b) c 0 := by unfold lkOf; rw [if_pos ⟨hok, by omega, by omega⟩]
  rw [hl]
  refine ⟨by omega, fun y hy => ?_⟩
  have hy' : y = nodeC gs c := by
    have hy2 : (nodesT gs gs.length)[c.toNat]? = some y := hy
    unfold nodesT at hy2
    rw [List.getElem?_map, List.getElem?_range (by omega)] at hy2
    unfold nodeC
    rw [if_neg (by omega)]
    simpa using hy2.symm
  have hnc : ∀ i : Int, 0 ≤ i → i < gs.length → ∃ g, gs[i.toNat]? = some g ∧ nodeC gs i = .po (.ag [nodeC gs g.parent, eEntryS g.sets, .i .i64 (linksOf gs i.toNat), lvT (fullM gs i.toNat)]) 0 := by
    intro i h0 hi
    obtain ⟨g, hg⟩ : ∃ g, gs[i.toNat]? = some g := ⟨_, List.getElem?_eq_getElem (by omega)⟩
    have hk := hu i.toNat (by omega) g hg
    have hlo := hk.lo
    have hhi := hk.hi
    refine ⟨g, hg, ?_⟩
    unfold nodeC
    rw [if_neg (by omega), nodeOf_eq hg]
    by_cases hp : g.parent < 0
    · rw [if_neg (by omega), if_pos hp]
    · rw [if_pos (by omega), if_neg hp]
  obtain ⟨g0, _, hn0⟩ := hnc c (by omega) (by omega)
  rw [hn0] at hy'
  subst hy'
  simp -implicitDefEqProofs (maxSteps := 2000000) only [push_cast, Nat.reduceEqDiff, Nat.reduceLT, Nat.reduceLeDiff, Nat.reduceAdd, Nat.reduceMul, Nat.reduceSub, Nat.reduceBEq, ↓reduceIte, reduceCtorEq]
  refine WL.loop (ι := Int × Nat) (D := (fun _ => 0)) (fun x => -1 ≤ x.1 ∧ x.1 < gs.length ∧ x.1 + x.2 ≤ 1000 ∧ walkI gs (a, b) x.1 x.2 = walkI gs (a, b) c 0) (fun x => ⟨64, [(2, .t (.s a)), (3, .t (.s b)), (13, .t (.i .i64 x.2)), (14, .t (nodeC gs x.1))], []⟩) (fun x => (x.1 + 1).toNat) mixed (by kernel_rfl) (c, 0) ⟨by dsimp only; omega, by dsimp only; omega, by dsimp only; omega, rfl⟩ (Keep.wk (ids := []) ?_) ?_
  · simp only [push_cast, Nat.reduceEqDiff, Nat.reduceLT, Nat.reduceLeDiff, Nat.reduceAdd, Nat.reduceMul, Nat.reduceSub, Nat.reduceBEq, ↓reduceIte, reduceCtorEq, hn0] <;> trivial
  · rintro ⟨i, v⟩ ⟨hi1, hi2, hi3, hw⟩
    dsimp only at hi1 hi2 hi3 hw ⊢
    by_cases hn : i < 0
    · have hnc : nodeC gs i = .np := by unfold nodeC; rw [if_pos hn]
      rw [hnc]
      simp -implicitDefEqProofs (maxSteps := 2000000) only [push_cast, Nat.reduceEqDiff, Nat.reduceLT, Nat.reduceLeDiff, Nat.reduceAdd, Nat.reduceMul, Nat.reduceSub, Nat.reduceBEq, ↓reduceIte, reduceCtorEq]
      rw [← hw]
      unfold walkI lkT
      rw [if_pos hn]
    obtain ⟨g, hg, hnc⟩ := hnc i (by omega) hi2
    have hk := hu i.toNat (by omega) g hg
    have hlo := hk.lo
    have hhi := hk.hi
    rw [hnc]
    simp -implicitDefEqProofs (maxSteps := 2000000) only [push_cast, Nat.reduceEqDiff, Nat.reduceLT, Nat.reduceLeDiff, Nat.reduceAdd, Nat.reduceMul, Nat.reduceSub, Nat.reduceBEq, ↓reduceIte, reduceCtorEq]
    refine ⟨by unfold inI64; omega, Callx.closed (liveOf g.sets) rfl rfl (.inl rfl) ?_⟩
    simp -implicitDefEqProofs (maxSteps := 2000000) only [push_cast, Nat.reduceEqDiff, Nat.reduceLT, Nat.reduceLeDiff, Nat.reduceAdd, Nat.reduceMul, Nat.reduceSub, Nat.reduceBEq, ↓reduceIte, reduceCtorEq]
    have hkk : T.ag [T.s a, T.s b] = eK (a, b) := rfl
    rw [hkk]
    have hlm := live_map (inOrd_nodup hk.ord)
    refine look_assoc (ev := T.s) eK_inj (live_nodup g.sets) (fun p _ => of_eq_true eK_key) (fun x hx => ?_) (fun hx => ?_)
    · simp -implicitDefEqProofs (maxSteps := 2000000) only [push_cast, Nat.reduceEqDiff, Nat.reduceLT, Nat.reduceLeDiff, Nat.reduceAdd, Nat.reduceMul, Nat.reduceSub, Nat.reduceBEq, ↓reduceIte, reduceCtorEq]
      rw [hlm] at hx
      have hnx := walk_some (v := v) (by omega) hg hx
      rw [hw] at hnx
      rw [hnx]
      rfl
    · simp -implicitDefEqProofs (maxSteps := 2000000) only [push_cast, Nat.reduceEqDiff, Nat.reduceLT, Nat.reduceLeDiff, Nat.reduceAdd, Nat.reduceMul, Nat.reduceSub, Nat.reduceBEq, ↓reduceIte, reduceCtorEq]
      rw [hlm] at hx
      have hnx := walk_none (v := v) (by omega) hg hx (by omega)
      rw [hw] at hnx
      refine ⟨(g.parent, v + 1), ⟨by dsimp only; omega, by dsimp only; omega, by dsimp only; omega, hnx.symm⟩, by dsimp only; omega, Keep.wk (ids := []) ?_⟩
      simp only [push_cast, Nat.reduceEqDiff, Nat.reduceLT, Nat.reduceLeDiff, Nat.reduceAdd, Nat.reduceMul, Nat.reduceSub, Nat.reduceBEq, ↓reduceIte, reduceCtorEq] <;> trivial

theorem lawLookup (st : Store) (c : Int) (a b : List UInt8) (hB : mxs [eStore st, .i .i64 c, .s a, .s b] ≤ 1048576 → Bd.B ≤ 2147483648) : Con P0 3 [eStore st, .i .i64 c, .s a, .s b] (.t (.b true)) [] := by
  refine Con.intro (fn := Try.f3) [.tmp 8] (fun i => if i = 14 then 5 else 0) mixed (by kernel_rfl) rfl (by decide) rfl (by rfl) (by kernel_rfl) ?_
  simp -implicitDefEqProofs (maxSteps := 2000000) only [push_cast, Nat.reduceEqDiff, Nat.reduceLT, Nat.reduceLeDiff, Nat.reduceAdd, Nat.reduceMul, Nat.reduceSub, Nat.reduceBEq, ↓reduceIte, reduceCtorEq, lkT]
  intro _
  split
  · trivial
  intro _
  split
  · trivial
  refine Callx.closed (szStore st _ (by omega) (by omega)) rfl rfl (.inl rfl) ?_
  simp -implicitDefEqProofs (maxSteps := 2000000) only [push_cast, Nat.reduceEqDiff, Nat.reduceLT, Nat.reduceLeDiff, Nat.reduceAdd, Nat.reduceMul, Nat.reduceSub, Nat.reduceBEq, ↓reduceIte, reduceCtorEq, lkT]
  rcases szR_cases (eStore st).wt 1048576 with ⟨g1, g2⟩ | ⟨g1, g2⟩
  rotate_left
  · simp only [g2]
    rw [if_pos (by omega)]
    trivial
  simp only [g2]
  rw [if_neg (by omega)]
  have hB := hB (mxs_cons (mx_of (by omega)) (mxs_cons (by simp only [T.mx]; omega) (mxs_cons (by simp only [T.mx]; omega) (mxs_cons (by simp only [T.mx]; omega) mxs_nil))))
  refine Callx.closed (toStore hB st) rfl rfl (.inl rfl) ?_
  simp -implicitDefEqProofs (maxSteps := 2000000) only [push_cast, Nat.reduceEqDiff, Nat.reduceLT, Nat.reduceLeDiff, Nat.reduceAdd, Nat.reduceMul, Nat.reduceSub, Nat.reduceBEq, ↓reduceIte, reduceCtorEq, lkT]
  refine Callx.closed (specLookup st.groups c a b hB) rfl rfl (.inr ⟨rfl, rfl⟩) ?_
  simp -implicitDefEqProofs (maxSteps := 2000000) only [push_cast, Nat.reduceEqDiff, Nat.reduceLT, Nat.reduceLeDiff, Nat.reduceAdd, Nat.reduceMul, Nat.reduceSub, Nat.reduceBEq, ↓reduceIte, reduceCtorEq, lkT]
  refine Callx.closed (toStore hB st) rfl rfl (.inl rfl) ?_
  simp -implicitDefEqProofs (maxSteps := 2000000) only [push_cast, Nat.reduceEqDiff, Nat.reduceLT, Nat.reduceLeDiff, Nat.reduceAdd, Nat.reduceMul, Nat.reduceSub, Nat.reduceBEq, ↓reduceIte, reduceCtorEq, lkT]
  refine Callx.closed (implLookup st.groups c a b hB) rfl rfl (.inr ⟨rfl, rfl⟩) ?_
  simp -implicitDefEqProofs (maxSteps := 2000000) only [push_cast, Nat.reduceEqDiff, Nat.reduceLT, Nat.reduceLeDiff, Nat.reduceAdd, Nat.reduceMul, Nat.reduceSub, Nat.reduceBEq, ↓reduceIte, reduceCtorEq, lkT]
  refine CallV.of (r := eStore st) (toStore hB st) (by simp only [push_cast, Nat.reduceEqDiff, Nat.reduceLT, Nat.reduceLeDiff, Nat.reduceAdd, Nat.reduceMul, Nat.reduceSub, Nat.reduceBEq, ↓reduceIte, reduceCtorEq]; rfl) rfl (.inl rfl) ?_
  simp -implicitDefEqProofs (maxSteps := 2000000) only [push_cast, Nat.reduceEqDiff, Nat.reduceLT, Nat.reduceLeDiff, Nat.reduceAdd, Nat.reduceMul, Nat.reduceSub, Nat.reduceBEq, ↓reduceIte, reduceCtorEq, lkT]
  refine CallV.t (eqStore st st) (.inr rfl) ?_
  simp -implicitDefEqProofs (maxSteps := 2000000) only [push_cast, Nat.reduceEqDiff, Nat.reduceLT, Nat.reduceLeDiff, Nat.reduceAdd, Nat.reduceMul, Nat.reduceSub, Nat.reduceBEq, ↓reduceIte, reduceCtorEq, lkT]

end Go.Proofs.Ytgblonnnojdneaa.BX
