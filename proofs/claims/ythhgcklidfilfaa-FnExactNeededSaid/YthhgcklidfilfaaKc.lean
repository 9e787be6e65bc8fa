/-
  'slices.Compact' of slots.
-/
import Derived.Test.YthhgcklidfilfaaSg
namespace Go.Proofs.Ythhgcklidfilfaa.BX
set_option linter.unusedSectionVars false
set_option linter.unusedSimpArgs false
set_option linter.unusedVariables false
open Go Go.RowKit
set_option maxRecDepth 20000
set_option maxHeartbeats 400000

/-- what is kept of the first ones: none that is as the one in front -/
def keptTo {α : Type} [DecidableEq α] (l : List α) : Nat → List α
  | 0 => []
  | i + 1 => match l[i]? with
    | some x => if 0 < i ∧ l[i - 1]? = some x then keptTo l i else keptTo l i ++ [x]
    | none => keptTo l i
def kept {α : Type} [DecidableEq α] (l : List α) : List α := keptTo l l.length
section
variable {α : Type} [DecidableEq α]
theorem keptTo_len {l : List α} : ∀ {i : Nat}, (keptTo l i).length ≤ i
  | 0 => Nat.le_refl _
  | i + 1 => by
    have := keptTo_len (l := l) (i := i)
    unfold keptTo
    split
    · split
      · omega
      · simp; omega
    · omega
theorem keptTo_dup {l : List α} {i : Nat} {x : α} (h : l[i]? = some x) (h0 : 0 < i) (h1 : l[i - 1]? = some x) : keptTo l (i + 1) = keptTo l i := by
  rw [keptTo, h]; dsimp only; rw [if_pos ⟨h0, h1⟩]
theorem keptTo_new {l : List α} {i : Nat} {x : α} (h : l[i]? = some x) (h1 : 0 < i → l[i - 1]? ≠ some x) : keptTo l (i + 1) = keptTo l i ++ [x] := by
  rw [keptTo, h]; dsimp only; rw [if_neg (fun hh => h1 hh.1 hh.2)]
end
variable [Bd]

theorem dec_t {p : Prop} {i : Decidable p} (h : @decide p i = true) : p := @of_decide_eq_true p i h
theorem dec_i {p : Prop} {i : Decidable p} (h : p) : @decide p i = true := @decide_eq_true p i h
theorem slot_eq {a b : Slot} (h : T.ag [T.s a.typ, T.s a.key] = T.ag [T.s b.typ, T.s b.key]) : a = b := by
  cases a; cases b
  simpa using h
theorem compactSame (l : List Slot) (h : ∀ i x, l[i]? = some x → 0 < i → l[i - 1]? ≠ some x) : ConM P0 125 [.sr 0] [.arr 164 2 (.own (.ag [.leaf, .leaf])) (l.map eSlot)] (.sr 0) [.arr 164 2 (.own (.ag [.leaf, .leaf])) (l.map eSlot)] := by
  refine ConM.intro (fn := Try.f125) [.tmp 2] (fun i => if i = 11 then (10, []) else if i = 6 then (10, []) else (0, [])) mixed (by kernel_rfl) rfl (by decide) rfl (by rfl) (by kernel_rfl) ?_
  simp -implicitDefEqProofs (maxSteps := 2000000) only [push_cast, Nat.reduceEqDiff, Nat.reduceLT, Nat.reduceLeDiff, Nat.reduceAdd, Nat.reduceMul, Nat.reduceSub, Nat.reduceBEq, ↓reduceIte, reduceCtorEq]
  intro _
  have := Bd.hi
  have hr : Close 1 (AV.sr 0) [Ob.arr 164 2 (.own (.ag [.leaf, .leaf])) (l.map eSlot)] (.sr 0) [Ob.arr 164 2 (.own (.ag [.leaf, .leaf])) (l.map eSlot)] := Close.of [some 0] rfl rfl rfl (by simp only [push_cast, Nat.reduceEqDiff, Nat.reduceLT, Nat.reduceLeDiff, Nat.reduceAdd, Nat.reduceMul, Nat.reduceSub, Nat.reduceBEq, ↓reduceIte, reduceCtorEq] <;> rfl) (by simp only [push_cast, Nat.reduceEqDiff, Nat.reduceLT, Nat.reduceLeDiff, Nat.reduceAdd, Nat.reduceMul, Nat.reduceSub, Nat.reduceBEq, ↓reduceIte, reduceCtorEq] <;> rfl)
  refine iteI (fun _ => hr) (fun h2 => ?_)
  refine WL.loop (ι := Nat) (D := (fun i => if i = 11 then (10, []) else if i = 6 then (10, []) else (0, []))) (fun i => 1 ≤ i ∧ i ≤ l.length) (fun i => ⟨61, [(0, .sr 0), (3, .t (.i .i64 i))], [.arr 164 2 (.own (.ag [.leaf, .leaf])) (l.map eSlot)]⟩) (fun i => l.length - i) mixed (by kernel_rfl) 1 (by omega) (Keep.wk (ids := [some 0]) ?_) ?_
  · simp only [push_cast, Nat.reduceEqDiff, Nat.reduceLT, Nat.reduceLeDiff, Nat.reduceAdd, Nat.reduceMul, Nat.reduceSub, Nat.reduceBEq, ↓reduceIte, reduceCtorEq] <;> trivial
  intro i ⟨h1, hi⟩
  simp -implicitDefEqProofs (maxSteps := 2000000) only [push_cast, Nat.reduceEqDiff, Nat.reduceLT, Nat.reduceLeDiff, Nat.reduceAdd, Nat.reduceMul, Nat.reduceSub, Nat.reduceBEq, ↓reduceIte, reduceCtorEq, eSlot]
  intro _
  refine iteI (fun hlt => ?_) (fun _ => hr)
  refine ⟨by omega, by omega, fun a ha => ⟨by unfold inI64; omega, by omega, by omega, fun b hb => ?_⟩⟩
  rw [show (i : Int).toNat = i by omega] at ha
  rw [show ((i : Int) - 1).toNat = i - 1 by omega] at hb
  refine iteI (fun he => ?_) (fun he => ?_)
  · rw [slot_eq (dec_t he)] at ha
    exact absurd hb (h i b ha (by omega))
  · refine ⟨by unfold inI64; omega, i + 1, by omega, by omega, Keep.wk (ids := [some 0]) ?_⟩
    simp only [push_cast, Nat.reduceEqDiff, Nat.reduceLT, Nat.reduceLeDiff, Nat.reduceAdd, Nat.reduceMul, Nat.reduceSub, Nat.reduceBEq, ↓reduceIte, reduceCtorEq] <;> rfl

theorem compactCut (l : List Slot) (h : ∃ i x, l[i]? = some x ∧ 0 < i ∧ l[i - 1]? = some x) : ConM P0 125 [.sr 0] [.arr 164 2 (.own (.ag [.leaf, .leaf])) (l.map eSlot)] (.sr 1) [.dead, .arr 164 2 (.own (.ag [.leaf, .leaf])) ((kept l).map eSlot)] := by
  refine ConM.intro (fn := Try.f125) [.tmp 2] (fun i => if i = 11 then (10, []) else if i = 6 then (10, []) else (0, [])) mixed (by kernel_rfl) rfl (by decide) rfl (by rfl) (by kernel_rfl) ?_
  simp -implicitDefEqProofs (maxSteps := 2000000) only [push_cast, Nat.reduceEqDiff, Nat.reduceLT, Nat.reduceLeDiff, Nat.reduceAdd, Nat.reduceMul, Nat.reduceSub, Nat.reduceBEq, ↓reduceIte, reduceCtorEq]
  intro _
  have := Bd.hi
  obtain ⟨p, x0, hp, hp0, hp1⟩ := h
  have hpl := (List.getElem?_eq_some_iff.1 hp).1
  refine iteI (fun _ => by omega) (fun h2 => ?_)
  refine WL.loop (ι := Nat) (D := (fun i => if i = 11 then (10, []) else if i = 6 then (10, []) else (0, []))) (fun i => 1 ≤ i ∧ i ≤ p ∧ keptTo l i = l.take i) (fun i => ⟨61, [(0, .sr 0), (3, .t (.i .i64 i))], [.arr 164 2 (.own (.ag [.leaf, .leaf])) (l.map eSlot)]⟩) (fun i => l.length - i) mixed (by kernel_rfl) 1 ⟨by omega, by omega, ?_⟩ (Keep.wk (ids := [some 0]) ?_) ?_
  · obtain ⟨y, hy⟩ : ∃ y, l[0]? = some y := ⟨l[0]'(by omega), List.getElem?_eq_getElem (by omega)⟩
    rw [keptTo_new hy (by omega), List.take_add_one, hy]
    rfl
  · simp only [push_cast, Nat.reduceEqDiff, Nat.reduceLT, Nat.reduceLeDiff, Nat.reduceAdd, Nat.reduceMul, Nat.reduceSub, Nat.reduceBEq, ↓reduceIte, reduceCtorEq] <;> trivial
  intro i ⟨h1, hi, hk⟩
  simp -implicitDefEqProofs (maxSteps := 2000000) only [push_cast, Nat.reduceEqDiff, Nat.reduceLT, Nat.reduceLeDiff, Nat.reduceAdd, Nat.reduceMul, Nat.reduceSub, Nat.reduceBEq, ↓reduceIte, reduceCtorEq, eSlot]
  intro _
  refine iteI (fun hlt => ?_) (fun _ => by omega)
  refine ⟨by omega, by omega, fun a ha => ⟨by unfold inI64; omega, by omega, by omega, fun b hb => ?_⟩⟩
  rw [show (i : Int).toNat = i by omega] at ha
  rw [show ((i : Int) - 1).toNat = i - 1 by omega] at hb
  refine iteI (fun he => ?_) (fun he => ?_)
  rotate_left
  · have hne : ¬ a = b := fun h => he (by rw [h]; exact dec_i rfl)
    have hip : i ≠ p := by
      rintro rfl
      rw [hp] at ha
      rw [hp1] at hb
      exact hne ((Option.some.inj ha).symm.trans (Option.some.inj hb))
    refine ⟨by unfold inI64; omega, i + 1, ⟨by omega, by omega, ?_⟩, by omega, Keep.wk (ids := [some 0]) ?_⟩
    · rw [keptTo_new ha (fun _ => by rw [hb]; exact fun h => hne (Option.some.inj h).symm), hk, List.take_add_one, ha]
      rfl
    · simp only [push_cast, Nat.reduceEqDiff, Nat.reduceLT, Nat.reduceLeDiff, Nat.reduceAdd, Nat.reduceMul, Nat.reduceSub, Nat.reduceBEq, ↓reduceIte, reduceCtorEq] <;> rfl
  have he := slot_eq (dec_t he)
  subst he
  refine ⟨by omega, ?_⟩
  rw [show (i : Int).toNat = i by omega, show (l.length : Int).toNat = l.length by omega]
  have hd := keptTo_dup ha (by omega) hb
  have hkl : (keptTo l i).length = i := by rw [hk, List.length_take]; omega
  refine WL.loop (ι := Nat × Nat × List Slot) (D := (fun i => if i = 11 then (10, []) else if i = 6 then (10, []) else (0, []))) (fun q => 1 ≤ q.2.1 ∧ i + q.2.1 ≤ l.length ∧ q.1 < i + q.2.1 ∧ q.2.2.length = l.length ∧ q.2.2.take q.1 = keptTo l (i + q.2.1) ∧ (keptTo l (i + q.2.1)).length = q.1 ∧ ∀ j, i + q.2.1 ≤ j + 1 → q.2.2[j]? = l[j]?)
    (fun q => ⟨61, [(0, .sr 0), (3, .t (.i .i64 q.1)), (4, .sv 0 i 2 (l.length - i)), (5, .t (.i .i64 q.2.1))], [.arr 164 2 (.own (.ag [.leaf, .leaf])) (q.2.2.map eSlot)]⟩) (fun q => l.length - (i + q.2.1)) mixed (by kernel_rfl) (i, 1, l) ⟨by dsimp only; omega, by dsimp only; omega, by dsimp only; omega, rfl, by dsimp only; rw [hd, hk], by dsimp only; rw [hd, hkl], fun j _ => rfl⟩ (Keep.wk (ids := [some 0]) ?_) ?_
  · simp only [push_cast, Nat.reduceEqDiff, Nat.reduceLT, Nat.reduceLeDiff, Nat.reduceAdd, Nat.reduceMul, Nat.reduceSub, Nat.reduceBEq, ↓reduceIte, reduceCtorEq] <;> trivial
  rintro ⟨k, n, d⟩ ⟨q1, q2, q3, q4, q5, q6, q7⟩
  dsimp only at q1 q2 q3 q4 q5 q6 q7 ⊢
  simp -implicitDefEqProofs (maxSteps := 2000000) only [push_cast, Nat.reduceEqDiff, Nat.reduceLT, Nat.reduceLeDiff, Nat.reduceAdd, Nat.reduceMul, Nat.reduceSub, Nat.reduceBEq, ↓reduceIte, reduceCtorEq, eSlot]
  refine iteI (fun hn => ?_) (fun hn => ?_)
  · refine ⟨by omega, by omega, fun u hu => ⟨by unfold inI64; omega, by omega, by omega, fun v hv => ?_⟩⟩
    rw [Int.toNat_natCast, q7 _ (by omega)] at hu
    rw [show ((n : Int) - 1).toNat = n - 1 by omega, q7 _ (by omega), show i + (n - 1) = i + n - 1 by omega] at hv
    refine iteI (fun hne => ?_) (fun hne => ?_)
    · have hne : ¬ u = v := fun h => dec_t hne (by rw [h])
      refine ⟨by omega, by omega, fun u' hu' => ⟨by omega, by omega, fun z hz => ⟨by unfold inI64; omega, by unfold inI64; omega, (k + 1, n + 1, d.set k u), ⟨?_, ?_, ?_, ?_, ?_, ?_, ?_⟩, ?_, Keep.wk (ids := [some 0]) ?_⟩⟩⟩
      all_goals dsimp only
      · omega
      · omega
      · omega
      · rw [List.length_set]; exact q4
      · rw [show i + (n + 1) = i + n + 1 by omega, keptTo_new hu (fun _ => by rw [hv]; exact fun h => hne (Option.some.inj h).symm), ← q5, List.take_add_one, List.getElem?_set_self (by omega), List.take_set_of_le (by omega)]
        rfl
      · rw [show i + (n + 1) = i + n + 1 by omega, keptTo_new hu (fun _ => by rw [hv]; exact fun h => hne (Option.some.inj h).symm), List.length_append, q6]
        rfl
      · intro j hj
        rw [List.getElem?_set_ne (by omega)]
        exact q7 j (by omega)
      · omega
      · rw [Int.toNat_natCast, q7 _ (by omega)] at hu'
        rw [hu] at hu'
        cases hu'
        have hst : (d.map eSlot).set k (T.ag [T.s u.typ, T.s u.key]) = (d.set k u).map eSlot := by rw [List.map_set]; rfl
        simp only [push_cast, Nat.reduceEqDiff, Nat.reduceLT, Nat.reduceLeDiff, Nat.reduceAdd, Nat.reduceMul, Nat.reduceSub, Nat.reduceBEq, ↓reduceIte, reduceCtorEq, Int.toNat_natCast, hst] <;> rfl
    · have he : u = v := Classical.byContradiction fun h => hne (dec_i fun hh => h (slot_eq hh))
      subst he
      have hdup := keptTo_dup hu (by omega) hv
      refine ⟨by unfold inI64; omega, (k, n + 1, d), ⟨?_, ?_, ?_, q4, ?_, ?_, ?_⟩, ?_, Keep.wk (ids := [some 0]) ?_⟩
      all_goals dsimp only
      · omega
      · omega
      · omega
      · rw [show i + (n + 1) = i + n + 1 by omega, hdup]; exact q5
      · rw [show i + (n + 1) = i + n + 1 by omega, hdup]; exact q6
      · exact fun j hj => q7 j (by omega)
      · omega
      · simp only [push_cast, Nat.reduceEqDiff, Nat.reduceLT, Nat.reduceLeDiff, Nat.reduceAdd, Nat.reduceMul, Nat.reduceSub, Nat.reduceBEq, ↓reduceIte, reduceCtorEq] <;> rfl
  · have hl : i + n = l.length := by omega
    rw [hl] at q5 q6
    have hkd : kept l = d.take k := q5.symm
    simp only [Int.toNat_natCast, List.length_take, List.length_replicate, List.length_drop, List.length_map]
    refine ⟨by omega, by omega, by omega, by omega, ?_⟩
    rw [hkd, List.take_append_of_le_length (by rw [List.length_take, List.length_map]; omega), List.take_take, Nat.min_self, ← List.map_take]
    exact Close.of [some 0, some 1] rfl rfl rfl (by simp only [push_cast, Nat.reduceEqDiff, Nat.reduceLT, Nat.reduceLeDiff, Nat.reduceAdd, Nat.reduceMul, Nat.reduceSub, Nat.reduceBEq, ↓reduceIte, reduceCtorEq] <;> rfl) (by simp only [push_cast, Nat.reduceEqDiff, Nat.reduceLT, Nat.reduceLeDiff, Nat.reduceAdd, Nat.reduceMul, Nat.reduceSub, Nat.reduceBEq, ↓reduceIte, reduceCtorEq] <;> rfl)
end Go.Proofs.Ythhgcklidfilfaa.BX
