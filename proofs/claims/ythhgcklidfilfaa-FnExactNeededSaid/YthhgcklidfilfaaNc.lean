/-
  'Needed': the slots that an event's rules look at.
-/
import Derived.Test.YthhgcklidfilfaaKc
import Derived.Test.YthhgcklidfilfaaNd
import Derived.Test.YthhgcklidfilfaaEv
namespace Go.Proofs.Ythhgcklidfilfaa.BX
set_option linter.unusedSectionVars false
set_option linter.unusedSimpArgs false
set_option linter.unusedVariables false
open Go Go.RowKit
set_option maxRecDepth 20000
set_option maxHeartbeats 400000

def usersOf (e : Event) : List (List UInt8) := if e.typ = sMember then [e.sender, e.key] else [e.sender]
def slotM (u : List UInt8) : Slot := ⟨sMember, u⟩
def rulesOf (e : Event) : List Slot := if e.typ = sMember ∧ e.value = sJoin then [⟨sRules, []⟩] else []
def needL (e : Event) : List Slot := [⟨sCreate, []⟩] ++ rulesOf e ++ (sset (usersOf e)).map slotM ++ [⟨sPower, []⟩]
/-- the slots that an event's rules look at -/
noncomputable def needOf (e : Event) : List Slot := if evOk e ≠ 0 then [] else if e.typ = sCreate then [⟨sCreate, []⟩] else needL e
/-- .. in order, one of them twice -/
def needD (e : Event) : List Slot := [⟨sCreate, []⟩] ++ rulesOf e ++ (if e.typ = sMember then (if Op.bytesLess e.key e.sender = true then [slotM e.key, slotM e.sender] else [slotM e.sender, slotM e.key]) else [slotM e.sender]) ++ [⟨sPower, []⟩]
/-- .. as they are put together -/
def needU (e : Event) : List Slot := [⟨sCreate, []⟩, ⟨sPower, []⟩, slotM e.sender] ++ (if e.typ = sMember then [slotM e.key] else []) ++ rulesOf e

theorem needU_perm (e : Event) : List.Perm (needU e) (needD e) := by
  have sw : ∀ (l r : List Slot) (x : Slot), List.Perm (l ++ x :: r) (x :: (l ++ r)) := fun l r x => List.perm_middle
  unfold needU needD rulesOf
  by_cases h1 : e.typ = sMember <;> by_cases h2 : e.value = sJoin <;> by_cases h3 : Op.bytesLess e.key e.sender = true <;> simp only [h1, h2, h3, and_self, and_true, true_and, if_true, if_false, List.append_nil, List.nil_append, List.cons_append, false_and, and_false, Bool.false_eq_true] <;> refine List.Perm.cons _ ?_
  all_goals rw [List.perm_iff_count]; intro a; simp only [List.count_cons, List.count_nil]; omega
theorem beforeT (a b : Slot) : before a.e b.e = (if ¬ a.typ = b.typ then Op.bytesLess a.typ b.typ else Op.bytesLess a.key b.key) := rfl
theorem needD_ord (e : Event) : OrdT (needD e) := by
  have hll : ∀ x : List UInt8, Op.bytesLess x x = false := less_irrefl
  have a1 : Op.bytesLess sRules sCreate = false := by decide
  have a2 : Op.bytesLess sMember sCreate = false := by decide
  have a3 : Op.bytesLess sPower sCreate = false := by decide
  have a4 : Op.bytesLess sMember sRules = false := by decide
  have a5 : Op.bytesLess sPower sRules = false := by decide
  have a6 : Op.bytesLess sPower sMember = false := by decide
  have n1 : ¬ sRules = sCreate := by decide
  have n2 : ¬ sMember = sCreate := by decide
  have n3 : ¬ sPower = sCreate := by decide
  have n4 : ¬ sMember = sRules := by decide
  have n5 : ¬ sPower = sRules := by decide
  have n6 : ¬ sPower = sMember := by decide
  unfold needD rulesOf OrdT slotM
  by_cases h3 : Op.bytesLess e.key e.sender = true
  · have h4 := less_asymm h3
    by_cases h1 : e.typ = sMember <;> by_cases h2 : e.value = sJoin <;> simp [h1, h2, h3, h4, beforeT, hll, a1, a2, a3, a4, a5, a6, n1, n2, n3, n4, n5, n6]
  · have h3 : Op.bytesLess e.key e.sender = false := by simpa using h3
    by_cases h1 : e.typ = sMember <;> by_cases h2 : e.value = sJoin <;> simp [h1, h2, h3, beforeT, hll, a1, a2, a3, a4, a5, a6, n1, n2, n3, n4, n5, n6]
theorem sset_one {x : List UInt8} : sset [x] = [x] := rfl
theorem sset_two {x y : List UInt8} : sset [x, y] = if x = y then [x] else if Op.bytesLess y x = true then [y, x] else [x, y] := by
  show insS y (insS x []) = _
  have : insS x [] = [x] := rfl
  rw [this]
  unfold insS
  by_cases h : x = y
  · subst h; simp
  · rw [if_neg h, if_neg (by simpa using Ne.symm h), bytesLess_eq]
    by_cases h2 : y < x
    · have : ¬ x < y := List.lt_asymm h2
      simp [h2, this]
    · have : x < y := by
        rcases List.le_iff_lt_or_eq.1 (List.not_lt.1 h2) with h3 | h3
        · exact h3
        · exact absurd h3 h
      simp [h2, this]
/-- two of them are the same -/
theorem needD_dup {e : Event} (h : e.typ = sMember ∧ e.sender = e.key) : (∃ i x, (needD e)[i]? = some x ∧ 0 < i ∧ (needD e)[i - 1]? = some x) ∧ kept (needD e) = needL e := by
  obtain ⟨h1, h2⟩ := h
  have hl := less_irrefl e.key
  have n1 : ¬ sMember = sCreate := by decide
  have n4 : ¬ sMember = sRules := by decide
  have n5 : ¬ sRules = sCreate := by decide
  have n6 : ¬ sPower = sMember := by decide
  have hD : needD e = [⟨sCreate, []⟩] ++ rulesOf e ++ [slotM e.key, slotM e.key] ++ [⟨sPower, []⟩] := by
    unfold needD; rw [if_pos h1, h2, hl]; rfl
  have hL : needL e = [⟨sCreate, []⟩] ++ rulesOf e ++ [slotM e.key] ++ [⟨sPower, []⟩] := by
    unfold needL usersOf; rw [if_pos h1, sset_two, h2, if_pos rfl]; rfl
  rw [hD, hL]
  unfold rulesOf
  by_cases h3 : e.value = sJoin
  · rw [if_pos ⟨h1, h3⟩]
    exact ⟨⟨3, slotM e.key, rfl, by omega, rfl⟩, by simp [kept, keptTo, slotM, n1, n4, n5, n6, Ne.symm n1, Ne.symm n4, Ne.symm n5, Ne.symm n6]⟩
  · rw [if_neg (fun hh => h3 hh.2)]
    exact ⟨⟨2, slotM e.key, rfl, by omega, rfl⟩, by simp [kept, keptTo, slotM, n1, n4, n5, n6, Ne.symm n1, Ne.symm n4, Ne.symm n5, Ne.symm n6]⟩
theorem needD_new {e : Event} (h : ¬ (e.typ = sMember ∧ e.sender = e.key)) : (∀ i x, (needD e)[i]? = some x → 0 < i → (needD e)[i - 1]? ≠ some x) ∧ needD e = needL e := by
  have n1 : ¬ sMember = sCreate := by decide
  have n4 : ¬ sMember = sRules := by decide
  have n5 : ¬ sRules = sCreate := by decide
  have n6 : ¬ sPower = sMember := by decide
  have hn : (needD e).Nodup := by
    unfold needD rulesOf slotM
    by_cases h1 : e.typ = sMember
    · have h2 : ¬ e.sender = e.key := fun hh => h ⟨h1, hh⟩
      by_cases h3 : e.value = sJoin <;> by_cases h4 : Op.bytesLess e.key e.sender = true <;> simp [h1, h2, Ne.symm h2, h3, h4, n1, n4, n5, n6, Ne.symm n1, Ne.symm n4, Ne.symm n5, Ne.symm n6] <;> decide
    · simp [h1, n1, n4, n5, n6, Ne.symm n1, Ne.symm n4, Ne.symm n5, Ne.symm n6]; decide
  refine ⟨fun i x hx hi hy => ?_, ?_⟩
  · have hx' := List.getElem?_eq_some_iff.1 hx
    have hy' := List.getElem?_eq_some_iff.1 hy
    obtain ⟨l1, e1⟩ := hx'
    obtain ⟨l2, e2⟩ := hy'
    exact List.pairwise_iff_getElem.1 hn (i - 1) i l2 l1 (by omega) (e2.trans e1.symm)
  · unfold needD needL usersOf
    by_cases h1 : e.typ = sMember
    · have h2 : ¬ e.sender = e.key := fun hh => h ⟨h1, hh⟩
      rw [if_pos h1, if_pos h1, sset_two, if_neg h2]
      by_cases h4 : Op.bytesLess e.key e.sender = true
      · rw [if_pos h4, if_pos h4]; rfl
      · rw [if_neg h4, if_neg h4]; rfl
    · rw [if_neg h1, if_neg h1]; rfl

variable [Bd]
abbrev slO (l : List Slot) : Ob := .arr 164 2 (.own (.ag [.leaf, .leaf])) (l.map eSlot)
theorem specNeeded (e : Event) (hB : Bd.B ≤ 2147483648) : Con P0 44 [eEvent e] (.sr 0) [slO (needOf e)] := by
  refine Con.intro (fn := Try.f44) [.tmp 2] (fun i => if i = 1000012 then (999999, []) else if i = 1000009 then (999999, []) else (0, [])) mixed (by kernel_rfl) rfl (by decide) rfl (by rfl) (by kernel_rfl) ?_
  simp -implicitDefEqProofs (maxSteps := 2000000) only [push_cast, Nat.reduceEqDiff, Nat.reduceLT, Nat.reduceLeDiff, Nat.reduceAdd, Nat.reduceMul, Nat.reduceSub, Nat.reduceBEq, ↓reduceIte, reduceCtorEq, eEvent]
  have := Bd.lo
  refine ⟨rfl, by omega, ?_⟩
  refine Callx.closed (specEventOk e) rfl rfl (.inl rfl) ?_
  simp -implicitDefEqProofs (maxSteps := 2000000) only [push_cast, Nat.reduceEqDiff, Nat.reduceLT, Nat.reduceLeDiff, Nat.reduceAdd, Nat.reduceMul, Nat.reduceSub, Nat.reduceBEq, ↓reduceIte, reduceCtorEq, eEvent]
  refine iteI (fun h0 => ?_) (fun h0 => ?_)
  · rw [show needOf e = [] from if_pos h0]
    exact Close.of [some 1] rfl rfl rfl (by simp only [push_cast, Nat.reduceEqDiff, Nat.reduceLT, Nat.reduceLeDiff, Nat.reduceAdd, Nat.reduceMul, Nat.reduceSub, Nat.reduceBEq, ↓reduceIte, reduceCtorEq] <;> rfl) (by simp only [push_cast, Nat.reduceEqDiff, Nat.reduceLT, Nat.reduceLeDiff, Nat.reduceAdd, Nat.reduceMul, Nat.reduceSub, Nat.reduceBEq, ↓reduceIte, reduceCtorEq] <;> rfl)
  have h0' : ¬ evOk e ≠ 0 := h0
  refine ⟨rfl, by omega, rfl, by omega, by omega, ?_⟩
  refine iteI (fun h1 => ?_) (fun h1 => ?_)
  · rw [show needOf e = [⟨sCreate, []⟩] by unfold needOf; rw [if_neg h0', if_pos (show e.typ = sCreate from h1)]]
    exact Close.of [some 3] rfl rfl rfl (by simp only [push_cast, Nat.reduceEqDiff, Nat.reduceLT, Nat.reduceLeDiff, Nat.reduceAdd, Nat.reduceMul, Nat.reduceSub, Nat.reduceBEq, ↓reduceIte, reduceCtorEq] <;> rfl) (by simp only [push_cast, Nat.reduceEqDiff, Nat.reduceLT, Nat.reduceLeDiff, Nat.reduceAdd, Nat.reduceMul, Nat.reduceSub, Nat.reduceBEq, ↓reduceIte, reduceCtorEq] <;> rfl)
  rw [show needOf e = needL e by unfold needOf; rw [if_neg h0', if_neg (show ¬ e.typ = sCreate from h1)]]
  refine W.join (ι := Unit) (D := (fun i => if i = 1000012 then (999999, []) else if i = 1000009 then (999999, []) else (0, []))) (fun _ => True) (fun _ => ⟨62, [(1, .rf 0 0), (3, .sr 1)], [.box (.t (eEvent e)), slO ([⟨sCreate, []⟩] ++ rulesOf e)]⟩) mixed (by kernel_rfl) ?_ (fun _ _ => ?_)
  · simp -implicitDefEqProofs (maxSteps := 2000000) only [push_cast, Nat.reduceEqDiff, Nat.reduceLT, Nat.reduceLeDiff, Nat.reduceAdd, Nat.reduceMul, Nat.reduceSub, Nat.reduceBEq, ↓reduceIte, reduceCtorEq, eEvent]
    refine iteI (fun q1 => iteI (fun q2 => ⟨rfl, by omega, rfl, by omega, by omega, (), Keep.wk (ids := [some 0, some 5]) ?_⟩) (fun q2 => ⟨(), Keep.wk (ids := [some 0, some 3]) ?_⟩)) (fun q1 => ⟨(), Keep.wk (ids := [some 0, some 3]) ?_⟩)
    · rw [show rulesOf e = [⟨sRules, []⟩] from if_pos ⟨q1, q2⟩]
      simp only [push_cast, Nat.reduceEqDiff, Nat.reduceLT, Nat.reduceLeDiff, Nat.reduceAdd, Nat.reduceMul, Nat.reduceSub, Nat.reduceBEq, ↓reduceIte, reduceCtorEq] <;> exact ⟨rfl, rfl⟩
    · rw [show rulesOf e = [] from if_neg fun hh => q2 hh.2]
      simp only [push_cast, Nat.reduceEqDiff, Nat.reduceLT, Nat.reduceLeDiff, Nat.reduceAdd, Nat.reduceMul, Nat.reduceSub, Nat.reduceBEq, ↓reduceIte, reduceCtorEq] <;> exact ⟨rfl, rfl⟩
    · rw [show rulesOf e = [] from if_neg fun hh => q1 hh.1]
      simp only [push_cast, Nat.reduceEqDiff, Nat.reduceLT, Nat.reduceLeDiff, Nat.reduceAdd, Nat.reduceMul, Nat.reduceSub, Nat.reduceBEq, ↓reduceIte, reduceCtorEq] <;> exact ⟨rfl, rfl⟩
  simp -implicitDefEqProofs (maxSteps := 2000000) only [push_cast, Nat.reduceEqDiff, Nat.reduceLT, Nat.reduceLeDiff, Nat.reduceAdd, Nat.reduceMul, Nat.reduceSub, Nat.reduceBEq, ↓reduceIte, reduceCtorEq, eEvent]
  refine ⟨rfl, by omega, ?_⟩
  refine W.join (ι := Unit) (D := (fun i => if i = 1000012 then (999999, []) else if i = 1000009 then (999999, []) else (0, []))) (fun _ => True) (fun _ => ⟨62, [(1, .rf 0 0), (3, .sr 1), (4, .sr 2)], [.box (.t (eEvent e)), slO ([⟨sCreate, []⟩] ++ rulesOf e), .arr 9 1 (.own .leaf) ((usersOf e).map T.s)]⟩) mixed (by kernel_rfl) ?_ (fun _ _ => ?_)
  · simp -implicitDefEqProofs (maxSteps := 2000000) only [push_cast, Nat.reduceEqDiff, Nat.reduceLT, Nat.reduceLeDiff, Nat.reduceAdd, Nat.reduceMul, Nat.reduceSub, Nat.reduceBEq, ↓reduceIte, reduceCtorEq, eEvent]
    refine iteI (fun q1 => ?_) (fun q1 => ?_)
    · rw [show usersOf e = [e.sender, e.key] from if_pos q1]
      refine ⟨rfl, by omega, rfl, by omega, by omega, (), Keep.wk (ids := [some 0, some 1, some 4]) ?_⟩
      simp only [push_cast, Nat.reduceEqDiff, Nat.reduceLT, Nat.reduceLeDiff, Nat.reduceAdd, Nat.reduceMul, Nat.reduceSub, Nat.reduceBEq, ↓reduceIte, reduceCtorEq] <;> rfl
    · rw [show usersOf e = [e.sender] from if_neg q1]
      refine ⟨(), Keep.wk (ids := [some 0, some 1, some 2]) ?_⟩
      simp only [push_cast, Nat.reduceEqDiff, Nat.reduceLT, Nat.reduceLeDiff, Nat.reduceAdd, Nat.reduceMul, Nat.reduceSub, Nat.reduceBEq, ↓reduceIte, reduceCtorEq] <;> rfl
  simp -implicitDefEqProofs (maxSteps := 2000000) only [push_cast, Nat.reduceEqDiff, Nat.reduceLT, Nat.reduceLeDiff, Nat.reduceAdd, Nat.reduceMul, Nat.reduceSub, Nat.reduceBEq, ↓reduceIte, reduceCtorEq, eEvent]
  refine Callx.closed (l2Sorted (usersOf e) hB) rfl rfl (.inr ⟨rfl, rfl⟩) ?_
  simp -implicitDefEqProofs (maxSteps := 2000000) only [push_cast, Nat.reduceEqDiff, Nat.reduceLT, Nat.reduceLeDiff, Nat.reduceAdd, Nat.reduceMul, Nat.reduceSub, Nat.reduceBEq, ↓reduceIte, reduceCtorEq]
  have hul : (usersOf e).length ≤ 2 := by unfold usersOf; split <;> simp
  have hml := sset_len (l := usersOf e)
  have hN : needL e = [⟨sCreate, []⟩] ++ rulesOf e ++ (sset (usersOf e)).map slotM ++ [⟨sPower, []⟩] := rfl
  have hrl : (rulesOf e).length ≤ 1 := by unfold rulesOf; split <;> simp
  generalize sset (usersOf e) = us at *
  refine WL.loop (ι := Nat) (D := (fun i => if i = 1000012 then (999999, []) else if i = 1000009 then (999999, []) else (0, []))) (fun i => i ≤ us.length) (fun i => ⟨62, [(3, .sr 0), (4, .sr 1), (5, .t (.i .i64 i))], [slO ([⟨sCreate, []⟩] ++ rulesOf e ++ (us.take i).map slotM), .arr 9 1 (.own .leaf) (us.map T.s)]⟩) (fun i => us.length - i) mixed (by kernel_rfl) 0 (by omega) (Keep.wk (ids := [some 1, some 3]) ?_) ?_
  · simp only [push_cast, Nat.reduceEqDiff, Nat.reduceLT, Nat.reduceLeDiff, Nat.reduceAdd, Nat.reduceMul, Nat.reduceSub, Nat.reduceBEq, ↓reduceIte, reduceCtorEq, List.take_zero, List.map_nil, List.append_nil] <;> trivial
  intro i hi
  simp -implicitDefEqProofs (maxSteps := 2000000) only [push_cast, Nat.reduceEqDiff, Nat.reduceLT, Nat.reduceLeDiff, Nat.reduceAdd, Nat.reduceMul, Nat.reduceSub, Nat.reduceBEq, ↓reduceIte, reduceCtorEq]
  intro _
  have htl : (us.take i).length ≤ 2 := by rw [List.length_take]; omega
  refine iteI (fun h => ⟨by omega, by omega, fun u hu => ⟨rfl, by omega, rfl, by omega, by omega, by unfold inI64; omega, i + 1, by omega, by omega, Keep.wk (ids := [some 3, some 1]) ?_⟩⟩) (fun h => ⟨rfl, by omega, rfl, by omega, by omega, ?_⟩)
  · rw [Int.toNat_natCast] at hu
    simp only [push_cast, Nat.reduceEqDiff, Nat.reduceLT, Nat.reduceLeDiff, Nat.reduceAdd, Nat.reduceMul, Nat.reduceSub, Nat.reduceBEq, ↓reduceIte, reduceCtorEq, List.take_add_one, hu, Option.toList_some, List.map_append, List.append_assoc] <;> exact ⟨rfl, rfl⟩
  · have hi : i = us.length := by omega
    subst hi
    rw [hN, List.take_length]
    exact Close.of [some 3] rfl rfl rfl (by simp only [push_cast, Nat.reduceEqDiff, Nat.reduceLT, Nat.reduceLeDiff, Nat.reduceAdd, Nat.reduceMul, Nat.reduceSub, Nat.reduceBEq, ↓reduceIte, reduceCtorEq] <;> rfl) (by simp only [push_cast, Nat.reduceEqDiff, Nat.reduceLT, Nat.reduceLeDiff, Nat.reduceAdd, Nat.reduceMul, Nat.reduceSub, Nat.reduceBEq, ↓reduceIte, reduceCtorEq, List.map_append, List.append_assoc] <;> rfl)

theorem implNeeded (e : Event) (hB : Bd.B ≤ 2147483648) : Con P0 46 [eEvent e] (.sr 0) [slO (needOf e)] := by
  refine Con.intro (fn := Try.f46) [.tmp 2] (fun i => if i = 1000011 then (999999, []) else (0, [])) mixed (by kernel_rfl) rfl (by decide) rfl (by rfl) (by kernel_rfl) ?_
  simp -implicitDefEqProofs (maxSteps := 2000000) only [push_cast, Nat.reduceEqDiff, Nat.reduceLT, Nat.reduceLeDiff, Nat.reduceAdd, Nat.reduceMul, Nat.reduceSub, Nat.reduceBEq, ↓reduceIte, reduceCtorEq, eEvent]
  have := Bd.lo
  refine Callx.closed (implEventOk e hB) rfl rfl (.inl rfl) ?_
  simp -implicitDefEqProofs (maxSteps := 2000000) only [push_cast, Nat.reduceEqDiff, Nat.reduceLT, Nat.reduceLeDiff, Nat.reduceAdd, Nat.reduceMul, Nat.reduceSub, Nat.reduceBEq, ↓reduceIte, reduceCtorEq, eEvent]
  refine iteI (fun h0 => ?_) (fun h0 => ?_)
  · rw [show needOf e = [] from if_pos h0]
    exact Close.of [none] rfl rfl rfl (by simp only [push_cast, Nat.reduceEqDiff, Nat.reduceLT, Nat.reduceLeDiff, Nat.reduceAdd, Nat.reduceMul, Nat.reduceSub, Nat.reduceBEq, ↓reduceIte, reduceCtorEq] <;> rfl) (by simp only [push_cast, Nat.reduceEqDiff, Nat.reduceLT, Nat.reduceLeDiff, Nat.reduceAdd, Nat.reduceMul, Nat.reduceSub, Nat.reduceBEq, ↓reduceIte, reduceCtorEq] <;> rfl)
  have h0' : ¬ evOk e ≠ 0 := h0
  refine ⟨rfl, by omega, ?_⟩
  refine iteI (fun h1 => ?_) (fun h1 => ?_)
  · rw [show needOf e = [⟨sCreate, []⟩] by unfold needOf; rw [if_neg h0', if_pos (show e.typ = sCreate from h1)]]
    exact Close.of [some 1] rfl rfl rfl (by simp only [push_cast, Nat.reduceEqDiff, Nat.reduceLT, Nat.reduceLeDiff, Nat.reduceAdd, Nat.reduceMul, Nat.reduceSub, Nat.reduceBEq, ↓reduceIte, reduceCtorEq] <;> rfl) (by simp only [push_cast, Nat.reduceEqDiff, Nat.reduceLT, Nat.reduceLeDiff, Nat.reduceAdd, Nat.reduceMul, Nat.reduceSub, Nat.reduceBEq, ↓reduceIte, reduceCtorEq] <;> rfl)
  rw [show needOf e = needL e by unfold needOf; rw [if_neg h0', if_neg (show ¬ e.typ = sCreate from h1)]]
  refine ⟨rfl, by omega, rfl, by omega, by omega, ?_⟩
  refine W.join (ι := Unit) (D := (fun i => if i = 1000011 then (999999, []) else (0, []))) (fun _ => True) (fun _ => ⟨40, [(3, .sr 0)], [slO (needU e)]⟩) mixed (by kernel_rfl) ?_ (fun _ _ => ?_)
  · simp -implicitDefEqProofs (maxSteps := 2000000) only [push_cast, Nat.reduceEqDiff, Nat.reduceLT, Nat.reduceLeDiff, Nat.reduceAdd, Nat.reduceMul, Nat.reduceSub, Nat.reduceBEq, ↓reduceIte, reduceCtorEq, eEvent]
    refine iteI (fun q1 => ⟨rfl, by omega, rfl, by omega, by omega, iteI (fun q2 => ⟨rfl, by omega, rfl, by omega, by omega, (), Keep.wk (ids := [some 7]) ?_⟩) (fun q2 => ⟨(), Keep.wk (ids := [some 5]) ?_⟩)⟩) (fun q1 => ⟨(), Keep.wk (ids := [some 3]) ?_⟩)
    · rw [show needU e = [⟨sCreate, []⟩, ⟨sPower, []⟩, slotM e.sender, slotM e.key, ⟨sRules, []⟩] by unfold needU rulesOf; rw [if_pos (show e.typ = sMember from q1), if_pos (show e.typ = sMember ∧ e.value = sJoin from ⟨q1, q2⟩)]; rfl]
      simp only [push_cast, Nat.reduceEqDiff, Nat.reduceLT, Nat.reduceLeDiff, Nat.reduceAdd, Nat.reduceMul, Nat.reduceSub, Nat.reduceBEq, ↓reduceIte, reduceCtorEq] <;> rfl
    · rw [show needU e = [⟨sCreate, []⟩, ⟨sPower, []⟩, slotM e.sender, slotM e.key] by unfold needU rulesOf; rw [if_pos (show e.typ = sMember from q1), if_neg (show ¬ (e.typ = sMember ∧ e.value = sJoin) from fun hh => q2 hh.2)]; rfl]
      simp only [push_cast, Nat.reduceEqDiff, Nat.reduceLT, Nat.reduceLeDiff, Nat.reduceAdd, Nat.reduceMul, Nat.reduceSub, Nat.reduceBEq, ↓reduceIte, reduceCtorEq] <;> rfl
    · rw [show needU e = [⟨sCreate, []⟩, ⟨sPower, []⟩, slotM e.sender] by unfold needU rulesOf; rw [if_neg (show ¬ e.typ = sMember from q1), if_neg (show ¬ (e.typ = sMember ∧ e.value = sJoin) from fun hh => q1 hh.1)]; rfl]
      simp only [push_cast, Nat.reduceEqDiff, Nat.reduceLT, Nat.reduceLeDiff, Nat.reduceAdd, Nat.reduceMul, Nat.reduceSub, Nat.reduceBEq, ↓reduceIte, reduceCtorEq] <;> rfl
  simp -implicitDefEqProofs (maxSteps := 2000000) only [push_cast, Nat.reduceEqDiff, Nat.reduceLT, Nat.reduceLeDiff, Nat.reduceAdd, Nat.reduceMul, Nat.reduceSub, Nat.reduceBEq, ↓reduceIte, reduceCtorEq, eEvent]
  refine Callx.hand [0] (sortT (needU e) (needD e) hB (needU_perm e) (needD_ord e)) (by decide) (by simp only [push_cast, Nat.reduceEqDiff, Nat.reduceLT, Nat.reduceLeDiff, Nat.reduceAdd, Nat.reduceMul, Nat.reduceSub, Nat.reduceBEq, ↓reduceIte, reduceCtorEq]) rfl rfl (by simp only [push_cast, Nat.reduceEqDiff, Nat.reduceLT, Nat.reduceLeDiff, Nat.reduceAdd, Nat.reduceMul, Nat.reduceSub, Nat.reduceBEq, ↓reduceIte, reduceCtorEq] <;> rfl) rfl (.inr ⟨rfl, by simp only [push_cast, Nat.reduceEqDiff, Nat.reduceLT, Nat.reduceLeDiff, Nat.reduceAdd, Nat.reduceMul, Nat.reduceSub, Nat.reduceBEq, ↓reduceIte, reduceCtorEq]⟩) ?_
  simp -implicitDefEqProofs (maxSteps := 2000000) only [push_cast, Nat.reduceEqDiff, Nat.reduceLT, Nat.reduceLeDiff, Nat.reduceAdd, Nat.reduceMul, Nat.reduceSub, Nat.reduceBEq, ↓reduceIte, reduceCtorEq, eEvent]
  by_cases hd : e.typ = sMember ∧ e.sender = e.key
  · obtain ⟨d1, d2⟩ := needD_dup hd
    refine Callx.hand [0] (compactCut (needD e) d1) (by decide) (by simp only [push_cast, Nat.reduceEqDiff, Nat.reduceLT, Nat.reduceLeDiff, Nat.reduceAdd, Nat.reduceMul, Nat.reduceSub, Nat.reduceBEq, ↓reduceIte, reduceCtorEq]) rfl rfl (by simp only [push_cast, Nat.reduceEqDiff, Nat.reduceLT, Nat.reduceLeDiff, Nat.reduceAdd, Nat.reduceMul, Nat.reduceSub, Nat.reduceBEq, ↓reduceIte, reduceCtorEq] <;> rfl) rfl (.inr ⟨rfl, by simp only [push_cast, Nat.reduceEqDiff, Nat.reduceLT, Nat.reduceLeDiff, Nat.reduceAdd, Nat.reduceMul, Nat.reduceSub, Nat.reduceBEq, ↓reduceIte, reduceCtorEq]⟩) ?_
    simp -implicitDefEqProofs (maxSteps := 2000000) only [push_cast, Nat.reduceEqDiff, Nat.reduceLT, Nat.reduceLeDiff, Nat.reduceAdd, Nat.reduceMul, Nat.reduceSub, Nat.reduceBEq, ↓reduceIte, reduceCtorEq, eEvent]
    rw [d2]
    exact Close.of [some 1] rfl rfl rfl (by simp only [push_cast, Nat.reduceEqDiff, Nat.reduceLT, Nat.reduceLeDiff, Nat.reduceAdd, Nat.reduceMul, Nat.reduceSub, Nat.reduceBEq, ↓reduceIte, reduceCtorEq] <;> rfl) (by simp only [push_cast, Nat.reduceEqDiff, Nat.reduceLT, Nat.reduceLeDiff, Nat.reduceAdd, Nat.reduceMul, Nat.reduceSub, Nat.reduceBEq, ↓reduceIte, reduceCtorEq] <;> rfl)
  · obtain ⟨d1, d2⟩ := needD_new hd
    refine Callx.hand [0] (compactSame (needD e) d1) (by decide) (by simp only [push_cast, Nat.reduceEqDiff, Nat.reduceLT, Nat.reduceLeDiff, Nat.reduceAdd, Nat.reduceMul, Nat.reduceSub, Nat.reduceBEq, ↓reduceIte, reduceCtorEq]) rfl rfl (by simp only [push_cast, Nat.reduceEqDiff, Nat.reduceLT, Nat.reduceLeDiff, Nat.reduceAdd, Nat.reduceMul, Nat.reduceSub, Nat.reduceBEq, ↓reduceIte, reduceCtorEq] <;> rfl) rfl (.inr ⟨rfl, by simp only [push_cast, Nat.reduceEqDiff, Nat.reduceLT, Nat.reduceLeDiff, Nat.reduceAdd, Nat.reduceMul, Nat.reduceSub, Nat.reduceBEq, ↓reduceIte, reduceCtorEq]⟩) ?_
    simp -implicitDefEqProofs (maxSteps := 2000000) only [push_cast, Nat.reduceEqDiff, Nat.reduceLT, Nat.reduceLeDiff, Nat.reduceAdd, Nat.reduceMul, Nat.reduceSub, Nat.reduceBEq, ↓reduceIte, reduceCtorEq, eEvent]
    rw [d2]
    exact Close.of [some 0] rfl rfl rfl (by simp only [push_cast, Nat.reduceEqDiff, Nat.reduceLT, Nat.reduceLeDiff, Nat.reduceAdd, Nat.reduceMul, Nat.reduceSub, Nat.reduceBEq, ↓reduceIte, reduceCtorEq] <;> rfl) (by simp only [push_cast, Nat.reduceEqDiff, Nat.reduceLT, Nat.reduceLeDiff, Nat.reduceAdd, Nat.reduceMul, Nat.reduceSub, Nat.reduceBEq, ↓reduceIte, reduceCtorEq] <;> rfl)
end Go.Proofs.Ythhgcklidfilfaa.BX
