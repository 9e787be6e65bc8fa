/-
  'Reaches', the document's and the program's.
-/
import Derived.Test.YtdlpmicjmclfnaaTo
import Derived.Test.YtdlpmicjmclfnaaEq
import Derived.Test.YtdlpmicjmclfnaaSz
import Derived.Test.YtdlpmicjmclfnaaLa
namespace Go.Proofs.Ytdlpmicjmclfnaa.BX
set_option linter.unusedSectionVars false
set_option linter.unusedSimpArgs false
set_option linter.unusedVariables false
open Go Go.RowKit
variable [Bd]
set_option maxRecDepth 20000
set_option maxHeartbeats 400000

/-- what 'Reaches' answers -/
def reaches (c : Cover) (a b : Int) : Bool :=
  if a < 0 then false else if (c.reach.length : Int) ≤ a then false else if b < 0 then false else if (c.spots.length : Int) ≤ b then false else
  match c.spots[b.toNat]?, c.reach[a.toNat]? with
  | some s, some r => decide (1 ≤ s.seq) && decide (0 ≤ s.chain) && decide (s.chain < r.length) && (match r[s.chain.toNat]? with | some x => decide (s.seq ≤ x) | none => false)
  | _, _ => false

theorem specReaches (c : Cover) (a b : Int) : Con P0 10 [eCover c, .i .i64 a, .i .i64 b] (.t (.b (reaches c a b))) [] := by
  refine Con.intro (fn := Try.f10) [.tmp 6] (fun i => if i = 4 then 34 else 0) mixed (by kernel_rfl) rfl (by decide) rfl (by rfl) (by kernel_rfl) ?_
  simp -implicitDefEqProofs (maxSteps := 2000000) only [push_cast, Nat.reduceEqDiff, Nat.reduceLT, Nat.reduceLeDiff, Nat.reduceAdd, Nat.reduceMul, Nat.reduceSub, Nat.reduceBEq, ↓reduceIte, reduceCtorEq, eCover, eSpot]
  unfold reaches
  by_cases h1 : a < 0
  · simp only [if_pos h1]
  simp only [if_neg h1]
  intro _
  by_cases h2 : (c.reach.length : Int) ≤ a
  · simp only [if_pos h2]
  simp only [if_neg h2]
  by_cases h3 : b < 0
  · simp only [if_pos h3]
  simp only [if_neg h3]
  intro _
  by_cases h4 : (c.spots.length : Int) ≤ b
  · simp only [if_pos h4]
  simp only [if_neg h4]
  refine ⟨by omega, fun s hs => ?_⟩
  have hr : ∃ r, c.reach[a.toNat]? = some r := ⟨_, List.getElem?_eq_getElem (by omega)⟩
  obtain ⟨r, hr⟩ := hr
  simp only [hs, hr, Option.some.injEq, forall_eq']
  by_cases h5 : 1 ≤ s.seq
  case neg => simp [h5]
  by_cases h6 : 0 ≤ s.chain
  case neg => simp [h6]
  simp only [if_pos h5, if_pos h6]
  refine ⟨by omega, fun _ => ?_⟩
  by_cases h7 : s.chain < r.length
  case neg => simp [h7]
  simp only [if_pos h7]
  refine ⟨by omega, ⟨h6, h7⟩, fun x hx => ?_⟩
  simp only [hx, decide_eq_true h5, decide_eq_true h6, decide_eq_true h7, Bool.true_and]

theorem implReaches (c : Cover) (a b : Int) : Con P0 12 [eCover c, .i .i64 a, .i .i64 b] (.t (.b (reaches c a b))) [] := by
  refine Con.intro (fn := Try.f12) [.tmp 6] (fun i => if i = 4 then 34 else 0) mixed (by kernel_rfl) rfl (by decide) rfl (by rfl) (by kernel_rfl) ?_
  simp -implicitDefEqProofs (maxSteps := 2000000) only [push_cast, Nat.reduceEqDiff, Nat.reduceLT, Nat.reduceLeDiff, Nat.reduceAdd, Nat.reduceMul, Nat.reduceSub, Nat.reduceBEq, ↓reduceIte, reduceCtorEq, eCover, eSpot]
  unfold reaches
  by_cases h1 : a < 0
  · simp only [if_pos h1]
  simp only [if_neg h1]
  intro _
  by_cases h2 : (c.reach.length : Int) ≤ a
  · simp only [if_pos h2]
  simp only [if_neg h2]
  by_cases h3 : b < 0
  · simp only [if_pos h3]
  simp only [if_neg h3]
  intro _
  by_cases h4 : (c.spots.length : Int) ≤ b
  · simp only [if_pos h4]
  simp only [if_neg h4]
  refine ⟨by omega, fun s hs => ?_⟩
  have hr : ∃ r, c.reach[a.toNat]? = some r := ⟨_, List.getElem?_eq_getElem (by omega)⟩
  obtain ⟨r, hr⟩ := hr
  simp only [hs, hr, Option.some.injEq, forall_eq']
  by_cases h5 : 1 ≤ s.seq
  case neg => simp [h5]
  by_cases h6 : 0 ≤ s.chain
  case neg => simp [h6]
  simp only [if_pos h5, if_pos h6]
  refine ⟨by omega, fun _ => ?_⟩
  by_cases h7 : s.chain < r.length
  case neg => simp [h7]
  simp only [if_pos h7]
  refine ⟨by omega, ⟨h6, h7⟩, fun x hx => ?_⟩
  simp only [hx, decide_eq_true h5, decide_eq_true h6, decide_eq_true h7, Bool.true_and]

theorem lawReaches (c : Cover) (a b : Int) (hB : mxs [eCover c, .i .i64 a, .i .i64 b] ≤ 1048576 → Bd.B ≤ 2147483648) : Con P0 4 [eCover c, .i .i64 a, .i .i64 b] (.t (.b true)) [] := by
  refine Con.intro (fn := Try.f4) [.tmp 6] (fun i => if i = 10 then 5 else 0) mixed (by kernel_rfl) rfl (by decide) rfl (by rfl) (by kernel_rfl) ?_
  simp -implicitDefEqProofs (maxSteps := 2000000) only [push_cast, Nat.reduceEqDiff, Nat.reduceLT, Nat.reduceLeDiff, Nat.reduceAdd, Nat.reduceMul, Nat.reduceSub, Nat.reduceBEq, ↓reduceIte, reduceCtorEq]
  refine Callx.closed (szCover c _ (by omega) (by omega)) rfl rfl (.inl rfl) ?_
  simp -implicitDefEqProofs (maxSteps := 2000000) only [push_cast, Nat.reduceEqDiff, Nat.reduceLT, Nat.reduceLeDiff, Nat.reduceAdd, Nat.reduceMul, Nat.reduceSub, Nat.reduceBEq, ↓reduceIte, reduceCtorEq]
  rcases szR_cases (eCover c).wt 1048576 with ⟨g1, g2⟩ | ⟨g1, g2⟩
  rotate_left
  · simp only [g2]
    rw [if_pos (by omega)]
    trivial
  simp only [g2]
  rw [if_neg (by omega)]
  have hB := hB (mxs_cons (mx_of (by omega)) (mxs_cons (Nat.zero_le _) (mxs_cons (Nat.zero_le _) mxs_nil)))
  refine Callx.closed (toCover hB c) rfl rfl (.inl rfl) ?_
  simp -implicitDefEqProofs (maxSteps := 2000000) only [push_cast, Nat.reduceEqDiff, Nat.reduceLT, Nat.reduceLeDiff, Nat.reduceAdd, Nat.reduceMul, Nat.reduceSub, Nat.reduceBEq, ↓reduceIte, reduceCtorEq]
  refine Callx.closed (specReaches c a b) rfl rfl (.inr ⟨rfl, rfl⟩) ?_
  simp -implicitDefEqProofs (maxSteps := 2000000) only [push_cast, Nat.reduceEqDiff, Nat.reduceLT, Nat.reduceLeDiff, Nat.reduceAdd, Nat.reduceMul, Nat.reduceSub, Nat.reduceBEq, ↓reduceIte, reduceCtorEq]
  refine Callx.closed (toCover hB c) rfl rfl (.inl rfl) ?_
  simp -implicitDefEqProofs (maxSteps := 2000000) only [push_cast, Nat.reduceEqDiff, Nat.reduceLT, Nat.reduceLeDiff, Nat.reduceAdd, Nat.reduceMul, Nat.reduceSub, Nat.reduceBEq, ↓reduceIte, reduceCtorEq]
  refine Callx.closed (implReaches c a b) rfl rfl (.inr ⟨rfl, rfl⟩) ?_
  simp -implicitDefEqProofs (maxSteps := 2000000) only [push_cast, Nat.reduceEqDiff, Nat.reduceLT, Nat.reduceLeDiff, Nat.reduceAdd, Nat.reduceMul, Nat.reduceSub, Nat.reduceBEq, ↓reduceIte, reduceCtorEq]
  refine CallV.of (r := eCover c) (toCover hB c) (by simp only [push_cast, Nat.reduceEqDiff, Nat.reduceLT, Nat.reduceLeDiff, Nat.reduceAdd, Nat.reduceMul, Nat.reduceSub, Nat.reduceBEq, ↓reduceIte, reduceCtorEq]; rfl) rfl (.inl rfl) ?_
  simp -implicitDefEqProofs (maxSteps := 2000000) only [push_cast, Nat.reduceEqDiff, Nat.reduceLT, Nat.reduceLeDiff, Nat.reduceAdd, Nat.reduceMul, Nat.reduceSub, Nat.reduceBEq, ↓reduceIte, reduceCtorEq]
  refine CallV.t (eqCover c c) (.inr rfl) ?_
  simp -implicitDefEqProofs (maxSteps := 2000000) only [push_cast, Nat.reduceEqDiff, Nat.reduceLT, Nat.reduceLeDiff, Nat.reduceAdd, Nat.reduceMul, Nat.reduceSub, Nat.reduceBEq, ↓reduceIte, reduceCtorEq]

end Go.Proofs.Ytdlpmicjmclfnaa.BX
