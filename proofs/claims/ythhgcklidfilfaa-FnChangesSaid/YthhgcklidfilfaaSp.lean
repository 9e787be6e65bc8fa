/-
  'StoreOk' of the document.
-/
import Derived.Test.YthhgcklidfilfaaSo
namespace Go.Proofs.Ythhgcklidfilfaa.BX
set_option linter.unusedSectionVars false
set_option linter.unusedSimpArgs false
set_option linter.unusedVariables false
open Go Go.RowKit
set_option maxRecDepth 20000
set_option maxHeartbeats 400000

/-- the links above a group -/
def linksOf (gs : List Group) (i : Nat) : Nat := match gs[i]? with
  | none => 0
  | some g => if _h : 0 ≤ g.parent ∧ g.parent.toNat < i then 1 + linksOf gs g.parent.toNat else 0
termination_by i
decreasing_by exact _h.2
/-- the state of a group -/
def expandOf (gs : List Group) (i : Nat) : List Entry := match gs[i]? with
  | none => []
  | some g => if _h : 0 ≤ g.parent ∧ g.parent.toNat < i then patchL (expandOf gs g.parent.toNat) g.sets else g.sets
termination_by i
decreasing_by exact _h.2
theorem linksOf_eq {gs : List Group} {i : Nat} {g : Group} (h : gs[i]? = some g) : linksOf gs i = if 0 ≤ g.parent ∧ g.parent.toNat < i then 1 + linksOf gs g.parent.toNat else 0 := by
  rw [linksOf, h]
  simp only [dite_eq_ite]
theorem expandOf_eq {gs : List Group} {i : Nat} {g : Group} (h : gs[i]? = some g) : expandOf gs i = if 0 ≤ g.parent ∧ g.parent.toNat < i then patchL (expandOf gs g.parent.toNat) g.sets else g.sets := by
  rw [expandOf, h]
  simp only [dite_eq_ite]
/-- what is asked of one group -/
structure OkAt (gs : List Group) (i : Nat) (g : Group) : Prop where
  lo : -1 ≤ g.parent
  hi : g.parent < i
  len : g.sets.length ≤ 600
  ord : inOrd g.sets = true
  base : g.parent = -1 → stateOk g.sets = true
  links : linksOf gs i ≤ 4
  full : (expandOf gs i).length ≤ 300
def Ups (gs : List Group) (i : Nat) : Prop := ∀ j < i, ∀ g, gs[j]? = some g → OkAt gs j g
noncomputable def storeOk (gs : List Group) : Bool := decide (gs.length ≤ 1000) && @decide (Ups gs gs.length) (Classical.propDecidable _)
theorem linksOf_le {gs : List Group} : ∀ (i : Nat), linksOf gs i ≤ i := by
  intro i
  induction i using Nat.strongRecOn with
  | ind i ih =>
    rw [linksOf]
    split
    · omega
    · split
      · rename_i h; have := ih _ h.2; omega
      · omega
theorem expandOf_ord {gs : List Group} (i : Nat) (h : ∀ j ≤ i, ∀ g, gs[j]? = some g → inOrd g.sets = true) : Ordered (expandOf gs i) := by
  induction i using Nat.strongRecOn with
  | ind i ih =>
    rw [expandOf]
    split
    · exact .nil
    · rename_i g hg
      split
      · rename_i hc
        exact (patchL_ord (ih _ hc.2 fun j hj => h j (by omega))).1
      · exact ordered_of (h i (by omega) g hg)

variable [Bd]

theorem l4Links (gs : List Group) : ∀ (i : Nat), i < gs.length → (∀ j ≤ i, ∀ g, gs[j]? = some g → g.parent < j) → i < 1048576 → Con P0 83 [eStore ⟨gs⟩, .i .i64 i] (.t (.i .i64 (linksOf gs i))) [] := by
  intro i
  induction i using Nat.strongRecOn with
  | ind i ih =>
  intro hi hp hn
  refine Con.intro (fn := Try.f83) [.tmp 4] (fun i => if i = 3 then (10, []) else (0, [])) mixed (by kernel_rfl) rfl (by decide) rfl (by rfl) (by kernel_rfl) ?_
  simp -implicitDefEqProofs (maxSteps := 2000000) only [push_cast, Nat.reduceEqDiff, Nat.reduceLT, Nat.reduceLeDiff, Nat.reduceAdd, Nat.reduceMul, Nat.reduceSub, Nat.reduceBEq, ↓reduceIte, reduceCtorEq, eStore, eGroup]
  refine ⟨by omega, fun g hg => ?_⟩
  rw [Int.toNat_natCast] at hg
  have hpi := hp i (by omega) g hg
  have hli := linksOf_le (gs := gs) i
  have hlq := linksOf_eq hg
  split
  · rw [if_neg (by omega)] at hlq
    rw [hlq]; rfl
  · rw [if_pos (by omega)] at hlq
    have hlp := linksOf_le (gs := gs) g.parent.toNat
    refine ⟨by omega, fun g' hg' => ?_⟩
    rw [Int.toNat_natCast, hg] at hg'
    cases hg'
    have h := ih g.parent.toNat (by omega) (by omega) (fun j hj => hp j (by omega)) (by omega)
    rw [Int.toNat_of_nonneg (by omega)] at h
    refine CallV.t h (.inl rfl) ?_
    simp -implicitDefEqProofs (maxSteps := 2000000) only [push_cast, Nat.reduceEqDiff, Nat.reduceLT, Nat.reduceLeDiff, Nat.reduceAdd, Nat.reduceMul, Nat.reduceSub, Nat.reduceBEq, ↓reduceIte, reduceCtorEq]
    refine ⟨by unfold inI64; omega, ?_⟩
    rw [hlq]; push_cast; rfl

theorem l4Expand (gs : List Group) (hB : Bd.B ≤ 2147483648) : ∀ (i : Nat), i < gs.length → (∀ j ≤ i, ∀ g, gs[j]? = some g → g.parent < j ∧ inOrd g.sets = true ∧ g.sets.length ≤ 600) → (∀ j < i, (expandOf gs j).length ≤ 300) → i < 1048576 → Con P0 80 [eStore ⟨gs⟩, .i .i64 i] (.sr 0) [.arr 32 3 (.own (.ag [.leaf, .leaf, .leaf])) ((expandOf gs i).map eEntry)] := by
  intro i
  induction i using Nat.strongRecOn with
  | ind i ih =>
  intro hi hp hl hn
  have := Bd.lo
  refine Con.intro (fn := Try.f80) [.tmp 4] (fun i => if i = 4 then (6, []) else (0, [])) mixed (by kernel_rfl) rfl (by decide) rfl (by rfl) (by kernel_rfl) ?_
  simp -implicitDefEqProofs (maxSteps := 2000000) only [push_cast, Nat.reduceEqDiff, Nat.reduceLT, Nat.reduceLeDiff, Nat.reduceAdd, Nat.reduceMul, Nat.reduceSub, Nat.reduceBEq, ↓reduceIte, reduceCtorEq, eStore, eGroup]
  refine ⟨by omega, fun g hg => ?_⟩
  rw [Int.toNat_natCast] at hg
  obtain ⟨hp1, hp2, hp3⟩ := hp i (by omega) g hg
  have hlq := expandOf_eq hg
  split
  · rw [if_neg (by omega)] at hlq
    refine Callx.closed (l4Copy g.sets hB (by omega)) rfl rfl (.inl rfl) ?_
    rw [hlq]
    simp -implicitDefEqProofs (maxSteps := 2000000) only [push_cast, Nat.reduceEqDiff, Nat.reduceLT, Nat.reduceLeDiff, Nat.reduceAdd, Nat.reduceMul, Nat.reduceSub, Nat.reduceBEq, ↓reduceIte, reduceCtorEq]
    exact Close.of [some 2] rfl rfl rfl rfl (by simp only [push_cast, Nat.reduceEqDiff, Nat.reduceLT, Nat.reduceLeDiff, Nat.reduceAdd, Nat.reduceMul, Nat.reduceSub, Nat.reduceBEq, ↓reduceIte, reduceCtorEq] <;> rfl)
  · rw [if_pos (by omega)] at hlq
    have h := ih g.parent.toNat (by omega) (by omega) (fun j hj => hp j (by omega)) (fun j hj => hl j (by omega)) (by omega)
    rw [Int.toNat_of_nonneg (by omega)] at h
    have ho := expandOf_ord (gs := gs) g.parent.toNat (fun j hj x hx => (hp j (by omega) x hx).2.1)
    have hle := hl g.parent.toNat (by omega)
    refine CallV.of (r := eEntryS (expandOf gs g.parent.toNat)) h (by simp only [push_cast, Nat.reduceEqDiff, Nat.reduceLT, Nat.reduceLeDiff, Nat.reduceAdd, Nat.reduceMul, Nat.reduceSub, Nat.reduceBEq, ↓reduceIte, reduceCtorEq]; rfl) rfl (.inl rfl) ?_
    simp -implicitDefEqProofs (maxSteps := 2000000) only [push_cast, Nat.reduceEqDiff, Nat.reduceLT, Nat.reduceLeDiff, Nat.reduceAdd, Nat.reduceMul, Nat.reduceSub, Nat.reduceBEq, ↓reduceIte, reduceCtorEq]
    refine Callx.closed (l4Patch (expandOf gs g.parent.toNat) g.sets hB ho (by omega)) rfl rfl (.inl rfl) ?_
    rw [hlq]
    simp -implicitDefEqProofs (maxSteps := 2000000) only [push_cast, Nat.reduceEqDiff, Nat.reduceLT, Nat.reduceLeDiff, Nat.reduceAdd, Nat.reduceMul, Nat.reduceSub, Nat.reduceBEq, ↓reduceIte, reduceCtorEq]
    exact Close.of [some 2] rfl rfl rfl rfl (by simp only [push_cast, Nat.reduceEqDiff, Nat.reduceLT, Nat.reduceLeDiff, Nat.reduceAdd, Nat.reduceMul, Nat.reduceSub, Nat.reduceBEq, ↓reduceIte, reduceCtorEq] <;> rfl)

theorem specStoreOk (gs : List Group) (hB : Bd.B ≤ 2147483648) : Con P0 79 [eStore ⟨gs⟩] (.t (.b (storeOk gs))) [] := by
  refine Con.intro (fn := Try.f79) [.tmp 2] (fun _ => (0, [])) mixed (by kernel_rfl) rfl (by decide) rfl (by rfl) (by kernel_rfl) ?_
  simp -implicitDefEqProofs (maxSteps := 2000000) only [push_cast, Nat.reduceEqDiff, Nat.reduceLT, Nat.reduceLeDiff, Nat.reduceAdd, Nat.reduceMul, Nat.reduceSub, Nat.reduceBEq, ↓reduceIte, reduceCtorEq, eStore]
  intro hlen
  split
  · rename_i h
    simp only [storeOk]
    rw [decide_eq_false (by omega)]
    rfl
  rename_i hm
  refine WL.loop (ι := Nat) (D := (fun _ => (0, []))) (fun i => i ≤ gs.length ∧ Ups gs i) (fun i => ⟨58, [(1, .rf 0 0), (3, .t (.i .i64 i))], [.box (.t (eStore ⟨gs⟩))]⟩) (fun i => gs.length - i) mixed (by kernel_rfl) 0 ⟨by omega, fun j hj => absurd hj (by omega)⟩ (Keep.wk (ids := [some 0]) ?_) ?_
  · simp only [push_cast, Nat.reduceEqDiff, Nat.reduceLT, Nat.reduceLeDiff, Nat.reduceAdd, Nat.reduceMul, Nat.reduceSub, Nat.reduceBEq, ↓reduceIte, reduceCtorEq, eStore] <;> rfl
  · rintro i ⟨hi, hu⟩
    simp -implicitDefEqProofs (maxSteps := 2000000) only [push_cast, Nat.reduceEqDiff, Nat.reduceLT, Nat.reduceLeDiff, Nat.reduceAdd, Nat.reduceMul, Nat.reduceSub, Nat.reduceBEq, ↓reduceIte, reduceCtorEq, eStore, eGroup]
    intro _
    have hno : ∀ g, gs[i]? = some g → ¬ OkAt gs i g → storeOk gs = false := by
      intro g hg hn
      simp only [storeOk]
      rw [Bool.and_eq_false_iff]
      refine .inr (@decide_eq_false _ (Classical.propDecidable _) fun h => hn (h i ?_ g hg))
      exact (List.getElem?_eq_some_iff.1 hg).1
    split
    case isFalse =>
      have hi : i = gs.length := by omega
      subst hi
      simp only [storeOk]
      rw [decide_eq_true (by omega), @decide_eq_true _ (Classical.propDecidable _) hu]
      rfl
    rename_i h
    refine ⟨by omega, fun g hg => ?_⟩
    rw [Int.toNat_natCast] at hg
    split
    · rename_i h1
      rw [hno g hg fun h => absurd h.lo (by omega)]
    split
    · rename_i h2
      rw [hno g hg fun h => absurd h.hi (by omega)]
    refine Callx.closed (l4Changes g.sets) rfl rfl (.inl rfl) ?_
    simp -implicitDefEqProofs (maxSteps := 2000000) only [push_cast, Nat.reduceEqDiff, Nat.reduceLT, Nat.reduceLeDiff, Nat.reduceAdd, Nat.reduceMul, Nat.reduceSub, Nat.reduceBEq, ↓reduceIte, reduceCtorEq]
    split
    · rename_i h3
      rw [hno g hg fun h => ?_]
      have h4 := h.len
      rw [h.ord, decide_eq_true (by omega)] at h3
      simp at h3
    rename_i h1 h2 h3
    have hc : g.sets.length ≤ 600 ∧ inOrd g.sets = true := by
      simp only [Bool.not_eq_true', Bool.not_eq_false, Bool.and_eq_true, decide_eq_true_eq] at h3
      exact ⟨by omega, h3.2⟩
    have hall : ∀ j ≤ i, ∀ x, gs[j]? = some x → x.parent < j ∧ inOrd x.sets = true ∧ x.sets.length ≤ 600 := by
      intro j hj x hx
      rcases Nat.lt_or_ge j i with hj' | hj'
      · exact ⟨(hu j hj' x hx).hi, (hu j hj' x hx).ord, (hu j hj' x hx).len⟩
      · have hji : j = i := by omega
        subst hji
        rw [hg] at hx; cases hx
        exact ⟨by omega, hc.2, hc.1⟩
    have hpar : ∀ j ≤ i, ∀ x, gs[j]? = some x → x.parent < j := fun j hj x hx => (hall j hj x hx).1
    have hful : ∀ j < i, (expandOf gs j).length ≤ 300 := by
      intro j hj
      obtain ⟨x, hx⟩ : ∃ x, gs[j]? = some x := ⟨_, List.getElem?_eq_getElem (by omega)⟩
      exact (hu j hj x hx).full
    split
    · rename_i h5
      refine Callx.closed (specStateOk g.sets) rfl rfl (.inl rfl) ?_
      simp -implicitDefEqProofs (maxSteps := 2000000) only [push_cast, Nat.reduceEqDiff, Nat.reduceLT, Nat.reduceLeDiff, Nat.reduceAdd, Nat.reduceMul, Nat.reduceSub, Nat.reduceBEq, ↓reduceIte, reduceCtorEq]
      split
      · rename_i h6
        rw [hno g hg fun h => ?_]
        rw [h.base h5] at h6
        simp at h6
      rename_i h8
      have hlk := linksOf_le (gs := gs) i
      refine Callx.closed (l4Links gs i (by omega) hpar (by omega)) rfl rfl (.inl rfl) ?_
      simp -implicitDefEqProofs (maxSteps := 2000000) only [push_cast, Nat.reduceEqDiff, Nat.reduceLT, Nat.reduceLeDiff, Nat.reduceAdd, Nat.reduceMul, Nat.reduceSub, Nat.reduceBEq, ↓reduceIte, reduceCtorEq]
      split
      · rename_i h6
        rw [hno g hg fun h => absurd h.links (by omega)]
      refine Callx.closed (l4Expand gs hB i (by omega) hall (fun j hj => hful j hj) (by omega)) rfl rfl (.inl rfl) ?_
      simp -implicitDefEqProofs (maxSteps := 2000000) only [push_cast, Nat.reduceEqDiff, Nat.reduceLT, Nat.reduceLeDiff, Nat.reduceAdd, Nat.reduceMul, Nat.reduceSub, Nat.reduceBEq, ↓reduceIte, reduceCtorEq]
      split
      · rename_i h7
        rw [hno g hg fun h => absurd h.full (by omega)]
        exact fun _ => rfl
      rename_i h6 h7
      intro _
      refine ⟨by unfold inI64; omega, i + 1, ⟨by omega, fun j hj x hx => ?_⟩, by omega, Keep.wk (ids := [some 0]) ?_⟩
      · rcases Nat.lt_or_ge j i with hj' | hj'
        · exact hu j hj' x hx
        · have hji : j = i := by omega
          subst hji
          rw [hg] at hx; cases hx
          exact ⟨by omega, by omega, by omega, hc.2, fun _ => by simpa using h8, by omega, by omega⟩
      · simp only [push_cast, Nat.reduceEqDiff, Nat.reduceLT, Nat.reduceLeDiff, Nat.reduceAdd, Nat.reduceMul, Nat.reduceSub, Nat.reduceBEq, ↓reduceIte, reduceCtorEq, eStore] <;> rfl
    · rename_i h5
      have hlk := linksOf_le (gs := gs) i
      refine Callx.closed (l4Links gs i (by omega) hpar (by omega)) rfl rfl (.inl rfl) ?_
      simp -implicitDefEqProofs (maxSteps := 2000000) only [push_cast, Nat.reduceEqDiff, Nat.reduceLT, Nat.reduceLeDiff, Nat.reduceAdd, Nat.reduceMul, Nat.reduceSub, Nat.reduceBEq, ↓reduceIte, reduceCtorEq]
      split
      · rename_i h6
        rw [hno g hg fun h => absurd h.links (by omega)]
      refine Callx.closed (l4Expand gs hB i (by omega) hall (fun j hj => hful j hj) (by omega)) rfl rfl (.inl rfl) ?_
      simp -implicitDefEqProofs (maxSteps := 2000000) only [push_cast, Nat.reduceEqDiff, Nat.reduceLT, Nat.reduceLeDiff, Nat.reduceAdd, Nat.reduceMul, Nat.reduceSub, Nat.reduceBEq, ↓reduceIte, reduceCtorEq]
      split
      · rename_i h7
        rw [hno g hg fun h => absurd h.full (by omega)]
        exact fun _ => rfl
      rename_i h6 h7
      intro _
      refine ⟨by unfold inI64; omega, i + 1, ⟨by omega, fun j hj x hx => ?_⟩, by omega, Keep.wk (ids := [some 0]) ?_⟩
      · rcases Nat.lt_or_ge j i with hj' | hj'
        · exact hu j hj' x hx
        · have hji : j = i := by omega
          subst hji
          rw [hg] at hx; cases hx
          exact ⟨by omega, by omega, by omega, hc.2, fun hh => absurd hh h5, by omega, by omega⟩
      · simp only [push_cast, Nat.reduceEqDiff, Nat.reduceLT, Nat.reduceLeDiff, Nat.reduceAdd, Nat.reduceMul, Nat.reduceSub, Nat.reduceBEq, ↓reduceIte, reduceCtorEq, eStore] <;> rfl

end Go.Proofs.Ythhgcklidfilfaa.BX
