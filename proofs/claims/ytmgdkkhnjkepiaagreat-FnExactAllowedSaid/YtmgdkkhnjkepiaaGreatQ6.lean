/-
  Part 6 of what LFnExactAllowed leans on: its texts, merged by a program (prune.py), with what it needs alone.
-/
import Derived.Test.YtmgdkkhnjkepiaaGreatQ5
namespace Go.Proofs.YtmgdkkhnjkepiaaGreat.BX
set_option linter.unusedSectionVars false
set_option linter.unusedSimpArgs false
set_option linter.unusedVariables false
open Go Go.RowKit
set_option maxRecDepth 20000
set_option maxHeartbeats 400000
theorem bytesLess_eq : ∀ (x y : List UInt8), Op.bytesLess x y = decide (x < y)
  | [], [] => by simp [Op.bytesLess]
  | _ :: _, [] => by simp [Op.bytesLess]
  | [], _ :: _ => by simp [Op.bytesLess]
  | a :: x, b :: y => by
    rw [Op.bytesLess, bytesLess_eq x y]
    simp only [List.cons_lt_cons_iff]
    by_cases h1 : a < b <;> by_cases h2 : a = b <;> by_cases h3 : x < y <;> simp [h1, h2, h3]
theorem less_irrefl (x : List UInt8) : Op.bytesLess x x = false := by
  rw [bytesLess_eq]; simp [List.lt_irrefl]
theorem less_trans {x y z : List UInt8} (h : Op.bytesLess x y = true) (k : Op.bytesLess y z = true) : Op.bytesLess x z = true := by
  rw [bytesLess_eq] at h k ⊢
  simp only [decide_eq_true_eq] at h k ⊢
  exact List.lt_trans h k
theorem less_total {x y : List UInt8} (h : Op.bytesLess x y = false) (k : Op.bytesLess y x = false) : x = y := by
  rw [bytesLess_eq] at h k
  simp only [decide_eq_false_iff_not] at h k
  exact List.le_antisymm k h
def before (a b : Entry) : Bool := if ¬ a.typ = b.typ then Op.bytesLess a.typ b.typ else Op.bytesLess a.key b.key
open Classical in
noncomputable def inOrd (s : List Entry) : Bool := decide (∀ (i : Nat) (a b : Entry), s[i]? = some a → s[i + 1]? = some b → before a b = true)
noncomputable def stateOk (s : List Entry) : Bool := decide (∀ e ∈ s, e.id ≠ []) && (decide ((s.length : Int) ≤ 300) && inOrd s)
def cmpS (x y : List UInt8) : Int := if Op.bytesLess x y = true then -1 else if Op.bytesLess y x = true then 1 else 0
def cmpE (a b : Entry) : Int := if cmpS a.typ b.typ ≠ 0 then cmpS a.typ b.typ else cmpS a.key b.key
theorem inOrd_false {s : List Entry} {i : Nat} {a b : Entry} (h1 : s[i]? = some a) (h2 : s[i + 1]? = some b) (h : before a b = false) : inOrd s = false := by
  unfold inOrd
  rw [decide_eq_false_iff_not]
  intro hh
  rw [hh i a b h1 h2] at h
  cases h
theorem cmpS_neg {x y : List UInt8} : cmpS x y < 0 ↔ Op.bytesLess x y = true := by
  unfold cmpS
  split
  · simp [*]
  · split <;> simp_all
theorem cmpS_zero {x y : List UInt8} : cmpS x y = 0 ↔ x = y := by
  unfold cmpS
  split
  · rename_i h
    refine ⟨fun h => by omega, fun e => ?_⟩
    subst e; rw [less_irrefl] at h; cases h
  · split
    · rename_i _ h
      refine ⟨fun h => by omega, fun e => ?_⟩
      subst e; rw [less_irrefl] at h; cases h
    · rename_i h k
      exact ⟨fun _ => less_total (by simpa using h) (by simpa using k), fun _ => rfl⟩
theorem cmpE_neg {a b : Entry} : (0 ≤ cmpE a b) ↔ before a b = false := by
  unfold cmpE before
  by_cases h : a.typ = b.typ
  · have h0 := cmpS_zero.2 h
    have := @cmpS_neg a.key b.key
    simp only [h0, not_true, if_false, ne_eq, h]
    rw [if_neg (by simp [h0, ← h, cmpS_zero])]
    rw [← Bool.not_eq_true, ← this]; omega
  · have h0 : cmpS a.typ b.typ ≠ 0 := fun e => h (cmpS_zero.1 e)
    have := @cmpS_neg a.typ b.typ
    simp only [h0, h, not_false_eq_true, if_true, ne_eq]
    rw [← Bool.not_eq_true, ← this]; omega
theorem toNat_s {i : Nat} : ((i : Int) + 1).toNat = i + 1 := by omega
theorem toNat_sp {i : Nat} : ((i : Int) + 1 - 1).toNat = i := by omega
variable [Bd]
theorem l4Before (a b : Entry) : Con P0 178 [eEntry a, eEntry b] (.t (.b (before a b))) [] := by
  refine Con.intro (fn := Tryz.f178) [.tmp 4] (fun _ => (0, [])) mixed (by kernel_rfl) rfl (by decide) rfl (by rfl) (by kernel_rfl) ?_
  simp -implicitDefEqProofs (maxSteps := 2000000) only [push_cast, Nat.reduceEqDiff, Nat.reduceLT, Nat.reduceLeDiff, Nat.reduceAdd, Nat.reduceMul, Nat.reduceSub, Nat.reduceBEq, ↓reduceIte, reduceCtorEq, eEntry]
  unfold before
  split <;> rfl
theorem l4InOrder (s : List Entry) : Con P0 188 [eEntryS s] (.t (.b (inOrd s))) [] := by
  refine Con.intro (fn := Tryz.f188) [.tmp 2] (fun i => if i = 4 then (11, []) else (0, [])) mixed (by kernel_rfl) rfl (by decide) rfl (by rfl) (by kernel_rfl) ?_
  simp -implicitDefEqProofs (maxSteps := 2000000) only [push_cast, Nat.reduceEqDiff, Nat.reduceLT, Nat.reduceLeDiff, Nat.reduceAdd, Nat.reduceMul, Nat.reduceSub, Nat.reduceBEq, ↓reduceIte, reduceCtorEq]
  refine WL.loop (ι := Nat) (D := (fun i => if i = 4 then (11, []) else (0, []))) (fun i => (s = [] ∨ i + 1 ≤ s.length) ∧ ∀ (j : Nat) (a b : Entry), j < i → s[j]? = some a → s[j + 1]? = some b → before a b = true) (fun i => ⟨21, [(0, .t (eEntryS s)), (3, .t (.i .i64 (i + 1 : Nat)))], []⟩) (fun i => s.length - i) mixed (by kernel_rfl) 0 ⟨by cases s <;> simp, fun j a b hj => absurd hj (by omega)⟩ (Keep.wk (ids := []) ?_) ?_
  · simp only [push_cast, Nat.reduceEqDiff, Nat.reduceLT, Nat.reduceLeDiff, Nat.reduceAdd, Nat.reduceMul, Nat.reduceSub, Nat.reduceBEq, ↓reduceIte, reduceCtorEq] <;> rfl
  · rintro i ⟨hi, hc⟩
    simp -implicitDefEqProofs (maxSteps := 2000000) only [push_cast, Nat.reduceEqDiff, Nat.reduceLT, Nat.reduceLeDiff, Nat.reduceAdd, Nat.reduceMul, Nat.reduceSub, Nat.reduceBEq, ↓reduceIte, reduceCtorEq, eEntry_len, eEntry_isAg, eEntry_ones, eEntry_one]
    intro hl
    have := Bd.hi
    split
    · rename_i h
      refine ⟨by unfold inI64; omega, by omega, fun a ha => ⟨by omega, fun b hb => CallV.t (l4Before a b) (.inl rfl) ?_⟩⟩
      rw [toNat_sp] at ha
      rw [toNat_s] at hb
      simp -implicitDefEqProofs (maxSteps := 2000000) only [push_cast, Nat.reduceEqDiff, Nat.reduceLT, Nat.reduceLeDiff, Nat.reduceAdd, Nat.reduceMul, Nat.reduceSub, Nat.reduceBEq, ↓reduceIte, reduceCtorEq]
      cases hab : before a b with
      | false => exact congrArg T.b (inOrd_false ha hb hab).symm
      | true =>
        simp only [Bool.not_true, Bool.false_eq_true, if_false]
        refine ⟨by unfold inI64; omega, i + 1, ⟨by omega, fun j a' b' hj h1 h2 => ?_⟩, by omega, Keep.wk (ids := []) ?_⟩
        · rcases Nat.lt_or_ge j i with hj' | hj'
          · exact hc j a' b' hj' h1 h2
          · have : j = i := by omega
            subst this
            rw [h1] at ha; rw [h2] at hb
            cases ha; cases hb; exact hab
        · simp only [push_cast, Nat.reduceEqDiff, Nat.reduceLT, Nat.reduceLeDiff, Nat.reduceAdd, Nat.reduceMul, Nat.reduceSub, Nat.reduceBEq, ↓reduceIte, reduceCtorEq] <;> first | rfl | (push_cast; rfl) | trivial
    · refine congrArg T.b (Eq.symm ?_)
      unfold inOrd
      refine @decide_eq_true _ (Classical.propDecidable _) ?_
      intro j a b h1 h2
      refine hc j a b ?_ h1 h2
      have := (List.getElem?_eq_some_iff.1 h2).1
      omega
theorem specStateOk (s : List Entry) : Con P0 119 [eEntryS s] (.t (.b (stateOk s))) [] := by
  refine Con.intro (fn := Tryz.f119) [.tmp 2] (fun _ => (0, [])) mixed (by kernel_rfl) rfl (by decide) rfl (by rfl) (by kernel_rfl) ?_
  simp -implicitDefEqProofs (maxSteps := 2000000) only [push_cast, Nat.reduceEqDiff, Nat.reduceLT, Nat.reduceLeDiff, Nat.reduceAdd, Nat.reduceMul, Nat.reduceSub, Nat.reduceBEq, ↓reduceIte, reduceCtorEq]
  refine WL.loop (ι := Nat) (D := (fun _ => (0, []))) (fun i => i ≤ s.length ∧ ∀ e ∈ s.take i, e.id ≠ []) (fun i => ⟨23, [(0, .t (eEntryS s)), (3, .t (.i .i64 i))], []⟩) (fun i => s.length - i) mixed (by kernel_rfl) 0 ⟨by omega, by simp⟩ (Keep.wk (ids := []) ?_) ?_
  · simp only [push_cast, Nat.reduceEqDiff, Nat.reduceLT, Nat.reduceLeDiff, Nat.reduceAdd, Nat.reduceMul, Nat.reduceSub, Nat.reduceBEq, ↓reduceIte, reduceCtorEq] <;> rfl
  · rintro i ⟨hi, hc⟩
    simp -implicitDefEqProofs (maxSteps := 2000000) only [push_cast, Nat.reduceEqDiff, Nat.reduceLT, Nat.reduceLeDiff, Nat.reduceAdd, Nat.reduceMul, Nat.reduceSub, Nat.reduceBEq, ↓reduceIte, reduceCtorEq, eEntry_len, eEntry_isAg, eEntry_ones, eEntry_one]
    intro hl
    have := Bd.hi
    split
    · rename_i h
      refine ⟨by omega, fun a ha => ?_⟩
      rw [Int.toNat_natCast] at ha
      simp -implicitDefEqProofs (maxSteps := 2000000) only [push_cast, Nat.reduceEqDiff, Nat.reduceLT, Nat.reduceLeDiff, Nat.reduceAdd, Nat.reduceMul, Nat.reduceSub, Nat.reduceBEq, ↓reduceIte, reduceCtorEq, eEntry]
      have hm : a ∈ s := List.mem_of_getElem? ha
      split
      · rename_i hid
        refine congrArg T.b (Eq.symm ?_)
        unfold stateOk
        rw [decide_eq_false (fun hh => hh a hm hid)]
        rfl
      · rename_i hid
        refine ⟨by unfold inI64; omega, i + 1, ⟨by omega, fun e he => ?_⟩, by omega, Keep.wk (ids := []) ?_⟩
        · rw [List.take_add_one, ha] at he
          rcases List.mem_append.1 he with he | he
          · exact hc e he
          · simp at he; subst he; exact hid
        · simp only [push_cast, Nat.reduceEqDiff, Nat.reduceLT, Nat.reduceLeDiff, Nat.reduceAdd, Nat.reduceMul, Nat.reduceSub, Nat.reduceBEq, ↓reduceIte, reduceCtorEq] <;> rfl
    · have hi : i = s.length := by omega
      subst hi
      rw [List.take_length] at hc
      intro _
      unfold stateOk
      rw [decide_eq_true hc, Bool.true_and]
      split
      · rename_i h3
        refine Callx.closed (l4InOrder s) rfl rfl (.inl rfl) ?_
        simp -implicitDefEqProofs (maxSteps := 2000000) only [push_cast, Nat.reduceEqDiff, Nat.reduceLT, Nat.reduceLeDiff, Nat.reduceAdd, Nat.reduceMul, Nat.reduceSub, Nat.reduceBEq, ↓reduceIte, reduceCtorEq]
        rw [decide_eq_true h3, Bool.true_and]
      · rename_i h3
        rw [decide_eq_false h3, Bool.false_and]
theorem isNaN (x : List UInt8) : Con P0 182 [.s x] (.t (.b false)) [] := by
  refine Con.intro (fn := Tryz.f182) [.tmp 2] (fun _ => (0, [])) mixed (by kernel_rfl) rfl (by decide) rfl (by rfl) (by kernel_rfl) ?_
  simp -implicitDefEqProofs (maxSteps := 2000000) only [push_cast, Nat.reduceEqDiff, Nat.reduceLT, Nat.reduceLeDiff, Nat.reduceAdd, Nat.reduceMul, Nat.reduceSub, Nat.reduceBEq, ↓reduceIte, reduceCtorEq]
theorem compareS (x y : List UInt8) : Con P0 111 [.s x, .s y] (.t (.i .i64 (cmpS x y))) [] := by
  refine Con.intro (fn := Tryz.f111) [.tmp 4] (fun _ => (0, [])) mixed (by kernel_rfl) rfl (by decide) rfl (by rfl) (by kernel_rfl) ?_
  simp -implicitDefEqProofs (maxSteps := 2000000) only [push_cast, Nat.reduceEqDiff, Nat.reduceLT, Nat.reduceLeDiff, Nat.reduceAdd, Nat.reduceMul, Nat.reduceSub, Nat.reduceBEq, ↓reduceIte, reduceCtorEq]
  refine Callx.closed (isNaN x) rfl rfl (.inl rfl) ?_
  simp -implicitDefEqProofs (maxSteps := 2000000) only [push_cast, Nat.reduceEqDiff, Nat.reduceLT, Nat.reduceLeDiff, Nat.reduceAdd, Nat.reduceMul, Nat.reduceSub, Nat.reduceBEq, ↓reduceIte, reduceCtorEq]
  refine Callx.closed (isNaN y) rfl rfl (.inl rfl) ?_
  simp -implicitDefEqProofs (maxSteps := 2000000) only [push_cast, Nat.reduceEqDiff, Nat.reduceLT, Nat.reduceLeDiff, Nat.reduceAdd, Nat.reduceMul, Nat.reduceSub, Nat.reduceBEq, ↓reduceIte, reduceCtorEq]
  unfold cmpS
  split
  · rfl
  rename_i h
  split
  · rename_i k
    refine congrArg (T.i .i64) (if_pos ?_).symm
    cases hyx : Op.bytesLess y x with
    | true => rfl
    | false =>
      have := less_total (by simpa using h) hyx
      simp [this] at k
  · rename_i k
    refine congrArg (T.i .i64) (if_neg ?_).symm
    intro hyx
    refine k ?_
    have hne : ¬ x = y := by rintro rfl; rw [less_irrefl] at hyx; cases hyx
    simp [h, hne]
def firstNz : List Int → Int
  | [] => 0
  | x :: xs => if x ≠ 0 then x else firstNz xs
theorem firstNz_at {xs : List Int} : ∀ {i : Nat} {a : Int}, xs[i]? = some a → (∀ x ∈ xs.take i, x = 0) → a ≠ 0 → firstNz xs = a := by
  induction xs with
  | nil => intro i a h; simp at h
  | cons x xs ih =>
    intro i a h h0 ha
    cases i with
    | zero => simp at h; subst h; simp [firstNz, ha]
    | succ i =>
      simp only [List.getElem?_cons_succ] at h
      have hx : x = 0 := h0 x (by simp)
      simp only [firstNz, hx, ne_eq, not_true, if_false]
      exact ih h (fun y hy => h0 y (by simp [hy])) ha
theorem firstNz_all {xs : List Int} (h : ∀ x ∈ xs, x = 0) : firstNz xs = 0 := by
  induction xs with
  | nil => rfl
  | cons x xs ih => simp only [firstNz, h x (by simp), ne_eq, not_true, if_false]; exact ih fun y hy => h y (by simp [hy])
theorem cmpOr (xs : List Int) : Con P0 110 [eIntS xs] (.t (.i .i64 (firstNz xs))) [] := by
  refine Con.intro (fn := Tryz.f110) [.tmp 2] (fun _ => (0, [])) mixed (by kernel_rfl) rfl (by decide) rfl (by rfl) (by kernel_rfl) ?_
  simp -implicitDefEqProofs (maxSteps := 2000000) only [push_cast, Nat.reduceEqDiff, Nat.reduceLT, Nat.reduceLeDiff, Nat.reduceAdd, Nat.reduceMul, Nat.reduceSub, Nat.reduceBEq, ↓reduceIte, reduceCtorEq]
  intro hl
  have := Bd.hi
  refine WL.loop (ι := Nat) (D := (fun _ => (0, []))) (fun i => i ≤ xs.length ∧ ∀ x ∈ xs.take i, x = 0) (fun i => ⟨18, [(8, .t (.i .i64 i)), (7, .t (.i .i64 xs.length)), (6, .t (eIntS xs)), (3, .t (.i .i64 0))], []⟩) (fun i => xs.length - i) mixed (by kernel_rfl) 0 ⟨by omega, by simp⟩ (Keep.wk (ids := []) ?_) ?_
  · simp only [push_cast, Nat.reduceEqDiff, Nat.reduceLT, Nat.reduceLeDiff, Nat.reduceAdd, Nat.reduceMul, Nat.reduceSub, Nat.reduceBEq, ↓reduceIte, reduceCtorEq] <;> rfl
  · rintro i ⟨hi, hc⟩
    simp -implicitDefEqProofs (maxSteps := 2000000) only [push_cast, Nat.reduceEqDiff, Nat.reduceLT, Nat.reduceLeDiff, Nat.reduceAdd, Nat.reduceMul, Nat.reduceSub, Nat.reduceBEq, ↓reduceIte, reduceCtorEq]
    split
    · rename_i h
      refine ⟨by omega, fun a ha => ?_⟩
      rw [Int.toNat_natCast] at ha
      split
      · rename_i hne
        exact congrArg (T.i .i64) (firstNz_at ha hc hne).symm
      · rename_i h0
        refine ⟨by unfold inI64; omega, i + 1, ⟨by omega, fun e he => ?_⟩, by omega, Keep.wk (ids := []) ?_⟩
        · rw [List.take_add_one, ha] at he
          rcases List.mem_append.1 he with he | he
          · exact hc e he
          · simp at he; subst he; omega
        · simp only [push_cast, Nat.reduceEqDiff, Nat.reduceLT, Nat.reduceLeDiff, Nat.reduceAdd, Nat.reduceMul, Nat.reduceSub, Nat.reduceBEq, ↓reduceIte, reduceCtorEq] <;> rfl
    · have hi : i = xs.length := by omega
      subst hi
      rw [List.take_length] at hc
      exact congrArg (T.i .i64) (firstNz_all hc).symm
theorem compareEntries (a b : Entry) : Con P0 227 [eEntry a, eEntry b] (.t (.i .i64 (cmpE a b))) [] := by
  refine Con.intro (fn := Tryz.f227) [.tmp 4] (fun i => if i = 1 then (10, []) else (0, [])) mixed (by kernel_rfl) rfl (by decide) rfl (by rfl) (by kernel_rfl) ?_
  simp -implicitDefEqProofs (maxSteps := 2000000) only [push_cast, Nat.reduceEqDiff, Nat.reduceLT, Nat.reduceLeDiff, Nat.reduceAdd, Nat.reduceMul, Nat.reduceSub, Nat.reduceBEq, ↓reduceIte, reduceCtorEq, eEntry]
  refine CallV.t (compareS _ _) (.inl rfl) ?_
  simp -implicitDefEqProofs (maxSteps := 2000000) only [push_cast, Nat.reduceEqDiff, Nat.reduceLT, Nat.reduceLeDiff, Nat.reduceAdd, Nat.reduceMul, Nat.reduceSub, Nat.reduceBEq, ↓reduceIte, reduceCtorEq, eEntry]
  refine CallV.t (compareS _ _) (.inl rfl) ?_
  simp -implicitDefEqProofs (maxSteps := 2000000) only [push_cast, Nat.reduceEqDiff, Nat.reduceLT, Nat.reduceLeDiff, Nat.reduceAdd, Nat.reduceMul, Nat.reduceSub, Nat.reduceBEq, ↓reduceIte, reduceCtorEq, eEntry]
  refine ⟨rfl, by have := Bd.lo; omega, ?_⟩
  refine Callx.closed (cmpOr [cmpS a.typ b.typ, cmpS a.key b.key]) rfl rfl (.inr ⟨rfl, rfl⟩) ?_
  simp -implicitDefEqProofs (maxSteps := 2000000) only [push_cast, Nat.reduceEqDiff, Nat.reduceLT, Nat.reduceLeDiff, Nat.reduceAdd, Nat.reduceMul, Nat.reduceSub, Nat.reduceBEq, ↓reduceIte, reduceCtorEq, eEntry]
  refine congrArg (T.i .i64) ?_
  unfold cmpE firstNz firstNz firstNz
  split
  · rfl
  · split
    · rfl
    · omega
theorem implInOrder (s : List Entry) : Con P0 190 [eEntryS s] (.t (.b (inOrd s))) [] := by
  refine Con.intro (fn := Tryz.f190) [.tmp 2] (fun i => if i = 4 then (11, []) else (0, [])) mixed (by kernel_rfl) rfl (by decide) rfl (by rfl) (by kernel_rfl) ?_
  simp -implicitDefEqProofs (maxSteps := 2000000) only [push_cast, Nat.reduceEqDiff, Nat.reduceLT, Nat.reduceLeDiff, Nat.reduceAdd, Nat.reduceMul, Nat.reduceSub, Nat.reduceBEq, ↓reduceIte, reduceCtorEq]
  refine WL.loop (ι := Nat) (D := (fun i => if i = 4 then (11, []) else (0, []))) (fun i => (s = [] ∨ i + 1 ≤ s.length) ∧ ∀ (j : Nat) (a b : Entry), j < i → s[j]? = some a → s[j + 1]? = some b → before a b = true) (fun i => ⟨21, [(0, .t (eEntryS s)), (3, .t (.i .i64 (i + 1 : Nat)))], []⟩) (fun i => s.length - i) mixed (by kernel_rfl) 0 ⟨by cases s <;> simp, fun j a b hj => absurd hj (by omega)⟩ (Keep.wk (ids := []) ?_) ?_
  · simp only [push_cast, Nat.reduceEqDiff, Nat.reduceLT, Nat.reduceLeDiff, Nat.reduceAdd, Nat.reduceMul, Nat.reduceSub, Nat.reduceBEq, ↓reduceIte, reduceCtorEq] <;> rfl
  · rintro i ⟨hi, hc⟩
    simp -implicitDefEqProofs (maxSteps := 2000000) only [push_cast, Nat.reduceEqDiff, Nat.reduceLT, Nat.reduceLeDiff, Nat.reduceAdd, Nat.reduceMul, Nat.reduceSub, Nat.reduceBEq, ↓reduceIte, reduceCtorEq, eEntry_len, eEntry_isAg, eEntry_ones, eEntry_one]
    intro hl
    have := Bd.hi
    split
    · rename_i h
      refine ⟨by unfold inI64; omega, by omega, fun a ha => ⟨by omega, fun b hb => CallV.t (compareEntries a b) (.inl rfl) ?_⟩⟩
      rw [toNat_sp] at ha
      rw [toNat_s] at hb
      simp -implicitDefEqProofs (maxSteps := 2000000) only [push_cast, Nat.reduceEqDiff, Nat.reduceLT, Nat.reduceLeDiff, Nat.reduceAdd, Nat.reduceMul, Nat.reduceSub, Nat.reduceBEq, ↓reduceIte, reduceCtorEq]
      cases hab : before a b with
      | false =>
        rw [if_pos (cmpE_neg.2 hab)]
        exact congrArg T.b (inOrd_false ha hb hab).symm
      | true =>
        rw [if_neg (fun hh => by rw [cmpE_neg.1 hh] at hab; cases hab)]
        refine ⟨by unfold inI64; omega, i + 1, ⟨by omega, fun j a' b' hj h1 h2 => ?_⟩, by omega, Keep.wk (ids := []) ?_⟩
        · rcases Nat.lt_or_ge j i with hj' | hj'
          · exact hc j a' b' hj' h1 h2
          · have : j = i := by omega
            subst this
            rw [h1] at ha; rw [h2] at hb
            cases ha; cases hb; exact hab
        · simp only [push_cast, Nat.reduceEqDiff, Nat.reduceLT, Nat.reduceLeDiff, Nat.reduceAdd, Nat.reduceMul, Nat.reduceSub, Nat.reduceBEq, ↓reduceIte, reduceCtorEq] <;> first | rfl | (push_cast; rfl) | trivial
    · refine congrArg T.b (Eq.symm ?_)
      unfold inOrd
      refine @decide_eq_true _ (Classical.propDecidable _) ?_
      intro j a b h1 h2
      refine hc j a b ?_ h1 h2
      have := (List.getElem?_eq_some_iff.1 h2).1
      omega
theorem noId (e : Entry) : Con P0 192 [eEntry e] (.t (.b (decide (e.id = [])))) [] := by
  refine Con.intro (fn := Tryz.f192) [.tmp 2] (fun _ => (0, [])) mixed (by kernel_rfl) rfl (by decide) rfl (by rfl) (by kernel_rfl) ?_
  simp -implicitDefEqProofs (maxSteps := 2000000) only [push_cast, Nat.reduceEqDiff, Nat.reduceLT, Nat.reduceLeDiff, Nat.reduceAdd, Nat.reduceMul, Nat.reduceSub, Nat.reduceBEq, ↓reduceIte, reduceCtorEq, eEntry]
def firstAt {α : Type} (p : α → Bool) : List α → Int → Int
  | [], _ => -1
  | x :: xs, i => if p x = true then i else firstAt p xs (i + 1)
theorem firstAt_at {α : Type} {p : α → Bool} {xs : List α} : ∀ {i : Nat} {a : α} {k : Int}, xs[i]? = some a → (∀ x ∈ xs.take i, p x = false) → p a = true → firstAt p xs k = k + i := by
  induction xs with
  | nil => intro i a k h; simp at h
  | cons x xs ih =>
    intro i a k h h0 ha
    cases i with
    | zero => simp at h; subst h; simp [firstAt, ha]
    | succ i =>
      simp only [List.getElem?_cons_succ] at h
      have hx : p x = false := h0 x (by simp)
      simp only [firstAt, hx, Bool.false_eq_true, if_false]
      rw [ih h (fun y hy => h0 y (by simp [hy])) ha]
      omega
theorem firstAt_all {α : Type} {p : α → Bool} {xs : List α} : ∀ {k : Int}, (∀ x ∈ xs, p x = false) → firstAt p xs k = -1 := by
  induction xs with
  | nil => intro k _; rfl
  | cons x xs ih => intro k h; simp only [firstAt, h x (by simp), Bool.false_eq_true, if_false]; exact ih fun y hy => h y (by simp [hy])
theorem firstAt_nn {α : Type} {p : α → Bool} {xs : List α} : ∀ {k : Int}, 0 ≤ k → (0 ≤ firstAt p xs k ↔ ∃ x ∈ xs, p x = true) := by
  induction xs with
  | nil => intro k hk; simp [firstAt]
  | cons x xs ih =>
    intro k hk
    simp only [firstAt]
    split
    · rename_i h; simp [h, hk]
    · rename_i h
      rw [ih (by omega)]
      simp [h]
theorem indexNoId (s : List Entry) : Con P0 228 [eEntryS s, .fn 192 []] (.t (.i .i64 (firstAt (fun e => decide (e.id = [])) s 0))) [] := by
  refine Con.intro (fn := Tryz.f228) [.tmp 4] (fun _ => (0, [])) mixed (by kernel_rfl) rfl (by decide) rfl (by rfl) (by kernel_rfl) ?_
  simp -implicitDefEqProofs (maxSteps := 2000000) only [push_cast, Nat.reduceEqDiff, Nat.reduceLT, Nat.reduceLeDiff, Nat.reduceAdd, Nat.reduceMul, Nat.reduceSub, Nat.reduceBEq, ↓reduceIte, reduceCtorEq]
  intro hl
  have := Bd.hi
  refine WL.loop (ι := Nat) (D := (fun _ => (0, []))) (fun i => i ≤ s.length ∧ ∀ x ∈ s.take i, decide (x.id = []) = false) (fun i => ⟨19, [(8, .t (.i .i64 i)), (7, .t (.i .i64 s.length)), (0, .t (eEntryS s)), (1, .t (.fn 192 []))], []⟩) (fun i => s.length - i) mixed (by kernel_rfl) 0 ⟨by omega, by simp⟩ (Keep.wk (ids := []) ?_) ?_
  · simp only [push_cast, Nat.reduceEqDiff, Nat.reduceLT, Nat.reduceLeDiff, Nat.reduceAdd, Nat.reduceMul, Nat.reduceSub, Nat.reduceBEq, ↓reduceIte, reduceCtorEq] <;> rfl
  · rintro i ⟨hi, hc⟩
    simp -implicitDefEqProofs (maxSteps := 2000000) only [push_cast, Nat.reduceEqDiff, Nat.reduceLT, Nat.reduceLeDiff, Nat.reduceAdd, Nat.reduceMul, Nat.reduceSub, Nat.reduceBEq, ↓reduceIte, reduceCtorEq, eEntry_len, eEntry_isAg, eEntry_ones, eEntry_one]
    split
    · rename_i h
      refine ⟨by omega, fun a ha => ?_⟩
      rw [Int.toNat_natCast] at ha
      refine Callx.closed (noId a) rfl rfl (.inl rfl) ?_
      simp -implicitDefEqProofs (maxSteps := 2000000) only [push_cast, Nat.reduceEqDiff, Nat.reduceLT, Nat.reduceLeDiff, Nat.reduceAdd, Nat.reduceMul, Nat.reduceSub, Nat.reduceBEq, ↓reduceIte, reduceCtorEq]
      split
      · rename_i hne
        refine congrArg (T.i .i64) ?_
        rw [firstAt_at ha hc (by simpa using hne)]; omega
      · rename_i h0
        refine ⟨by unfold inI64; omega, i + 1, ⟨by omega, fun e he => ?_⟩, by omega, Keep.wk (ids := []) ?_⟩
        · rw [List.take_add_one, ha] at he
          rcases List.mem_append.1 he with he | he
          · exact hc e he
          · simp at he; subst he; simpa using h0
        · simp only [push_cast, Nat.reduceEqDiff, Nat.reduceLT, Nat.reduceLeDiff, Nat.reduceAdd, Nat.reduceMul, Nat.reduceSub, Nat.reduceBEq, ↓reduceIte, reduceCtorEq] <;> rfl
    · have hi : i = s.length := by omega
      subst hi
      rw [List.take_length] at hc
      exact congrArg (T.i .i64) (firstAt_all hc).symm
theorem containsNoId (s : List Entry) : Con P0 191 [eEntryS s, .fn 192 []] (.t (.b (decide (0 ≤ firstAt (fun e => decide (e.id = [])) s 0)))) [] := by
  refine Con.intro (fn := Tryz.f191) [.tmp 4] (fun _ => (0, [])) mixed (by kernel_rfl) rfl (by decide) rfl (by rfl) (by kernel_rfl) ?_
  simp -implicitDefEqProofs (maxSteps := 2000000) only [push_cast, Nat.reduceEqDiff, Nat.reduceLT, Nat.reduceLeDiff, Nat.reduceAdd, Nat.reduceMul, Nat.reduceSub, Nat.reduceBEq, ↓reduceIte, reduceCtorEq]
  refine Callx.closed (indexNoId s) rfl rfl (.inl rfl) ?_
  simp -implicitDefEqProofs (maxSteps := 2000000) only [push_cast, Nat.reduceEqDiff, Nat.reduceLT, Nat.reduceLeDiff, Nat.reduceAdd, Nat.reduceMul, Nat.reduceSub, Nat.reduceBEq, ↓reduceIte, reduceCtorEq]
theorem implStateOk (s : List Entry) : Con P0 128 [eEntryS s] (.t (.b (stateOk s))) [] := by
  refine Con.intro (fn := Tryz.f128) [.tmp 2] (fun _ => (0, [])) mixed (by kernel_rfl) rfl (by decide) rfl (by rfl) (by kernel_rfl) ?_
  simp -implicitDefEqProofs (maxSteps := 2000000) only [push_cast, Nat.reduceEqDiff, Nat.reduceLT, Nat.reduceLeDiff, Nat.reduceAdd, Nat.reduceMul, Nat.reduceSub, Nat.reduceBEq, ↓reduceIte, reduceCtorEq]
  intro _
  split
  case isFalse h3 =>
    unfold stateOk
    rw [decide_eq_false h3]
    simp
  rename_i h3
  refine Callx.closed (implInOrder s) rfl rfl (.inl rfl) ?_
  simp -implicitDefEqProofs (maxSteps := 2000000) only [push_cast, Nat.reduceEqDiff, Nat.reduceLT, Nat.reduceLeDiff, Nat.reduceAdd, Nat.reduceMul, Nat.reduceSub, Nat.reduceBEq, ↓reduceIte, reduceCtorEq]
  split
  case isFalse h4 =>
    unfold stateOk
    simp_all
  rename_i h4
  refine Callx.closed (containsNoId s) rfl rfl (.inr ⟨rfl, rfl⟩) ?_
  simp -implicitDefEqProofs (maxSteps := 2000000) only [push_cast, Nat.reduceEqDiff, Nat.reduceLT, Nat.reduceLeDiff, Nat.reduceAdd, Nat.reduceMul, Nat.reduceSub, Nat.reduceBEq, ↓reduceIte, reduceCtorEq]
  refine congrArg T.b ?_
  unfold stateOk
  rw [decide_eq_true h3, h4, Bool.true_and, Bool.and_true, Bool.eq_iff_iff]
  simp only [Bool.not_eq_true', decide_eq_false_iff_not, decide_eq_true_eq]
  rw [firstAt_nn (by omega)]
  simp
end Go.Proofs.YtmgdkkhnjkepiaaGreat.BX
namespace Go.Proofs.YtmgdkkhnjkepiaaGreat.BX
set_option linter.unusedSectionVars false
set_option linter.unusedSimpArgs false
set_option linter.unusedVariables false
open Go Go.RowKit
set_option maxRecDepth 20000
set_option maxHeartbeats 400000
def same (a b : Entry) : Bool := decide (a.typ = b.typ) && decide (a.key = b.key)
abbrev SlotK := List UInt8 × List UInt8
def Entry.slot (e : Entry) : SlotK := (e.typ, e.key)
def eK (k : SlotK) : T := .ag [.s k.1, .s k.2]
theorem eK_inj : ∀ a b : SlotK, eK a = eK b → a = b := by
  rintro ⟨a, b⟩ ⟨c, d⟩ h
  simpa [eK] using h
@[push_cast] theorem eK_key {k : SlotK} : isKey (true, [.str, .str]) (eK k) = True := by simp [eK, isKey, keyCells, keyCell]
def live (s : List Entry) : List (SlotK × List UInt8) := s.foldl (fun m e => aset e.slot e.id m) []
theorem live_snoc {s : List Entry} {e : Entry} : live (s ++ [e]) = aset e.slot e.id (live s) := by simp [live, List.foldl_append]
theorem live_nodup (s : List Entry) : ((live s).map (·.1)).Nodup := by
  unfold live
  suffices ∀ (s : List Entry) (m : List (SlotK × List UInt8)), (m.map (·.1)).Nodup → ((s.foldl (fun m e => aset e.slot e.id m) m).map (·.1)).Nodup from this s [] (by simp)
  intro s
  induction s with
  | nil => intro m h; exact h
  | cons e s ih => intro m h; exact ih _ (aset_nodup h)
theorem live_len (s : List Entry) : (live s).length ≤ s.length := by
  unfold live
  suffices ∀ (s : List Entry) (m : List (SlotK × List UInt8)), (s.foldl (fun m e => aset e.slot e.id m) m).length ≤ m.length + s.length from by simpa using this s []
  intro s
  induction s with
  | nil => intro m; simp
  | cons e s ih => intro m; have := ih (aset e.slot e.id m); have := (aset_len (k := e.slot) (v := e.id) (l := m)).2; simp only [List.foldl_cons, List.length_cons]; omega
theorem before_slot {a b : Entry} (h : before a b = true) : a.slot ≠ b.slot := by
  intro e
  simp only [Entry.slot, Prod.mk.injEq] at e
  unfold before at h
  rw [e.1, e.2] at h
  simp [less_irrefl] at h
theorem before_trans {a b c : Entry} (h : before a b = true) (k : before b c = true) : before a c = true := by
  unfold before at *
  by_cases h1 : a.typ = b.typ <;> by_cases h2 : b.typ = c.typ <;> simp only [h1, h2, not_true, not_false_eq_true, if_true, if_false] at h k ⊢
  · exact less_trans h k
  · exact k
  · rw [h2] at h1
    simp only [h1, not_false_eq_true, if_true] at h ⊢
    exact h
  · have h3 := less_trans h k
    by_cases h4 : a.typ = c.typ
    · rw [h4, less_irrefl] at h3; cases h3
    · simp only [h4, not_false_eq_true, if_true]; exact h3
theorem inOrd_spec {s : List Entry} (h : inOrd s = true) : ∀ (i : Nat) (a b : Entry), s[i]? = some a → s[i + 1]? = some b → before a b = true := by
  unfold inOrd at h
  exact @of_decide_eq_true _ (Classical.propDecidable _) h
theorem inOrd_far {s : List Entry} (h : inOrd s = true) : ∀ (d i : Nat) (a b : Entry), s[i]? = some a → s[i + 1 + d]? = some b → before a b = true
  | 0, i, a, b, ha, hb => inOrd_spec h i a b ha hb
  | d + 1, i, a, b, ha, hb => by
    have hl := (List.getElem?_eq_some_iff.1 hb).1
    have hm : s[i + 1 + d]? = some (s[i + 1 + d]'(by omega)) := List.getElem?_eq_getElem (by omega)
    exact before_trans (inOrd_far h d i a _ ha hm) (inOrd_spec h (i + 1 + d) _ b hm (by rw [← hb]; congr 1))
theorem inOrd_nodup {s : List Entry} (h : inOrd s = true) : (s.map Entry.slot).Nodup := by
  refine List.pairwise_iff_getElem.2 fun i j hi hj hij => ?_
  rw [List.length_map] at hi hj
  rw [List.getElem_map, List.getElem_map]
  refine before_slot (inOrd_far h (j - (i + 1)) i _ _ (List.getElem?_eq_getElem (by omega)) ?_)
  rw [show i + 1 + (j - (i + 1)) = j by omega]
  exact List.getElem?_eq_getElem hj
theorem live_map {s : List Entry} (h : (s.map Entry.slot).Nodup) : live s = s.map fun e => (e.slot, e.id) := by
  unfold live
  suffices ∀ (s : List Entry) (m : List (SlotK × List UInt8)), (m.map (·.1) ++ s.map Entry.slot).Nodup → s.foldl (fun m e => aset e.slot e.id m) m = m ++ s.map fun e => (e.slot, e.id) from by simpa using this s [] (by simpa using h)
  intro s
  induction s with
  | nil => intro m _; simp
  | cons e s ih =>
    intro m hn
    have hne : e.slot ∉ m.map (·.1) := by
      intro hm
      rw [List.nodup_append] at hn
      exact hn.2.2 _ hm _ (by simp) rfl
    rw [List.foldl_cons, aset_new hne, ih _ (by simpa using hn)]
    simp
theorem stateOk_ord {s : List Entry} (h : stateOk s = true) : inOrd s = true ∧ (s.length : Int) ≤ 300 ∧ ∀ e ∈ s, e.id ≠ [] := by
  unfold stateOk at h
  simp only [Bool.and_eq_true, decide_eq_true_eq] at h
  exact ⟨h.2.2, h.2.1, h.1⟩
def findId (k : SlotK) : List Entry → List UInt8
  | [] => []
  | e :: r => if e.slot = k then e.id else findId k r
theorem findId_get {k : SlotK} : ∀ {s : List Entry}, (∀ e ∈ s, e.id ≠ []) → (aget k (s.map fun e => (e.slot, e.id)) = none ∧ findId k s = []) ∨ (aget k (s.map fun e => (e.slot, e.id)) = some (findId k s) ∧ findId k s ≠ [])
  | [], _ => .inl ⟨rfl, rfl⟩
  | e :: r, h => by
    simp only [List.map_cons, aget, findId]
    by_cases he : e.slot = k
    · simp only [he, if_true]
      exact .inr ⟨by first | rfl | trivial, h e (by simp)⟩
    · simp only [he, if_false]
      exact findId_get fun x hx => h x (by simp [hx])
theorem same_slot {x : Entry} {a b i : List UInt8} : same x ⟨a, b, i⟩ = decide (x.slot = (a, b)) := by
  simp [same, Entry.slot]
theorem findId_at {k : SlotK} {q : Entry → Bool} (hq : ∀ e, q e = decide (e.slot = k)) : ∀ {s : List Entry} {n : Int}, (firstAt q s n = -1 ∧ findId k s = []) ∨ ∃ (j : Nat) (e : Entry), firstAt q s n = n + j ∧ s[j]? = some e ∧ findId k s = e.id
  | [], n => .inl ⟨rfl, rfl⟩
  | e :: r, n => by
    simp only [firstAt, findId, hq]
    by_cases he : e.slot = k
    · simp only [he, decide_true, if_true]
      exact .inr ⟨0, e, by simp, rfl, rfl⟩
    · simp only [he, decide_false, Bool.false_eq_true, if_false]
      rcases findId_at hq (s := r) (n := n + 1) with h | ⟨j, x, h1, h2, h3⟩
      · exact .inl h
      · exact .inr ⟨j + 1, x, by rw [h1]; push_cast; omega, by simpa using h2, h3⟩
variable [Bd]
theorem l4Same (a b : Entry) : Con P0 215 [eEntry a, eEntry b] (.t (.b (same a b))) [] := by
  refine Con.intro (fn := Tryz.f215) [.tmp 4] (fun _ => (0, [])) mixed (by kernel_rfl) rfl (by decide) rfl (by rfl) (by kernel_rfl) ?_
  simp -implicitDefEqProofs (maxSteps := 2000000) only [push_cast, Nat.reduceEqDiff, Nat.reduceLT, Nat.reduceLeDiff, Nat.reduceAdd, Nat.reduceMul, Nat.reduceSub, Nat.reduceBEq, ↓reduceIte, reduceCtorEq, eEntry]
  unfold same
  split <;> simp [*]
theorem l4At (s : List Entry) (e : Entry) : Con P0 179 [eEntryS s, eEntry e] (.t (.i .i64 (firstAt (fun x => same x e) s 0))) [] := by
  refine Con.intro (fn := Tryz.f179) [.tmp 4] (fun i => if i = 4 then (6, []) else (0, [])) mixed (by kernel_rfl) rfl (by decide) rfl (by rfl) (by kernel_rfl) ?_
  simp -implicitDefEqProofs (maxSteps := 2000000) only [push_cast, Nat.reduceEqDiff, Nat.reduceLT, Nat.reduceLeDiff, Nat.reduceAdd, Nat.reduceMul, Nat.reduceSub, Nat.reduceBEq, ↓reduceIte, reduceCtorEq]
  refine WL.loop (ι := Nat) (D := (fun i => if i = 4 then (6, []) else (0, []))) (fun i => i ≤ s.length ∧ ∀ x ∈ s.take i, same x e = false) (fun i => ⟨19, [(0, .t (eEntryS s)), (3, .rf 0 0), (5, .t (.i .i64 i))], [.box (.t (eEntry e))]⟩) (fun i => s.length - i) mixed (by kernel_rfl) 0 ⟨by omega, by simp⟩ (Keep.wk (ids := [some 0]) ?_) ?_
  · simp only [push_cast, Nat.reduceEqDiff, Nat.reduceLT, Nat.reduceLeDiff, Nat.reduceAdd, Nat.reduceMul, Nat.reduceSub, Nat.reduceBEq, ↓reduceIte, reduceCtorEq] <;> rfl
  · rintro i ⟨hi, hc⟩
    simp -implicitDefEqProofs (maxSteps := 2000000) only [push_cast, Nat.reduceEqDiff, Nat.reduceLT, Nat.reduceLeDiff, Nat.reduceAdd, Nat.reduceMul, Nat.reduceSub, Nat.reduceBEq, ↓reduceIte, reduceCtorEq, eEntry_len, eEntry_isAg, eEntry_ones, eEntry_one]
    intro hl
    have := Bd.hi
    split
    · rename_i h
      refine ⟨by omega, fun a ha => CallV.t (l4Same a e) (.inl rfl) ?_⟩
      rw [Int.toNat_natCast] at ha
      simp -implicitDefEqProofs (maxSteps := 2000000) only [push_cast, Nat.reduceEqDiff, Nat.reduceLT, Nat.reduceLeDiff, Nat.reduceAdd, Nat.reduceMul, Nat.reduceSub, Nat.reduceBEq, ↓reduceIte, reduceCtorEq]
      split
      · rename_i hne
        refine congrArg (T.i .i64) ?_
        rw [firstAt_at ha hc hne]; omega
      · rename_i h0
        refine ⟨by unfold inI64; omega, i + 1, ⟨by omega, fun x hx => ?_⟩, by omega, Keep.wk (ids := [some 0]) ?_⟩
        · rw [List.take_add_one, ha] at hx
          rcases List.mem_append.1 hx with hx | hx
          · exact hc x hx
          · simp at hx; subst hx; simpa using h0
        · simp only [push_cast, Nat.reduceEqDiff, Nat.reduceLT, Nat.reduceLeDiff, Nat.reduceAdd, Nat.reduceMul, Nat.reduceSub, Nat.reduceBEq, ↓reduceIte, reduceCtorEq] <;> rfl
    · have hi : i = s.length := by omega
      subst hi
      rw [List.take_length] at hc
      exact congrArg (T.i .i64) (firstAt_all hc).symm
theorem l4Find (s : List Entry) (a b : List UInt8) : Con P0 107 [eEntryS s, .s a, .s b] (.t (.s (findId (a, b) s))) [] := by
  refine Con.intro (fn := Tryz.f107) [.tmp 6] (fun _ => (0, [])) mixed (by kernel_rfl) rfl (by decide) rfl (by rfl) (by kernel_rfl) ?_
  simp -implicitDefEqProofs (maxSteps := 2000000) only [push_cast, Nat.reduceEqDiff, Nat.reduceLT, Nat.reduceLeDiff, Nat.reduceAdd, Nat.reduceMul, Nat.reduceSub, Nat.reduceBEq, ↓reduceIte, reduceCtorEq]
  refine Callx.closed (l4At s ⟨a, b, []⟩) rfl rfl (.inl rfl) ?_
  simp -implicitDefEqProofs (maxSteps := 2000000) only [push_cast, Nat.reduceEqDiff, Nat.reduceLT, Nat.reduceLeDiff, Nat.reduceAdd, Nat.reduceMul, Nat.reduceSub, Nat.reduceBEq, ↓reduceIte, reduceCtorEq]
  rcases findId_at (k := (a, b)) (fun e => same_slot (x := e) (a := a) (b := b) (i := [])) (s := s) (n := 0) with ⟨h1, h2⟩ | ⟨j, e, h1, h2, h3⟩
  · simp only [h1, h2]
    rw [if_pos (by omega)]
    trivial
  · simp only [h1, h3]
    have hj := (List.getElem?_eq_some_iff.1 h2).1
    rw [if_neg (by omega)]
    refine ⟨by omega, fun x hx => ?_⟩
    have hx2 : x = e := by
      rw [show ((0 : Int) + j).toNat = j by omega, h2] at hx
      exact (Option.some.inj hx).symm
    subst hx2
    simp -implicitDefEqProofs (maxSteps := 2000000) only [push_cast, Nat.reduceEqDiff, Nat.reduceLT, Nat.reduceLeDiff, Nat.reduceAdd, Nat.reduceMul, Nat.reduceSub, Nat.reduceBEq, ↓reduceIte, reduceCtorEq, eEntry]
theorem liveOf (s : List Entry) : Con P0 70 [eEntryS s] (.mr 0) [.map 176 9 (.own .leaf) ((live s).map fun p => eK p.1) ((live s).map fun p => T.s p.2) none] := by
  refine Con.intro (fn := Tryz.f70) [.tmp 2] (fun _ => (0, [])) mixed (by kernel_rfl) rfl (by decide) rfl (by rfl) (by kernel_rfl) ?_
  simp -implicitDefEqProofs (maxSteps := 2000000) only [push_cast, Nat.reduceEqDiff, Nat.reduceLT, Nat.reduceLeDiff, Nat.reduceAdd, Nat.reduceMul, Nat.reduceSub, Nat.reduceBEq, ↓reduceIte, reduceCtorEq]
  intro hl
  have := Bd.hi
  refine WL.loop (ι := Nat) (D := (fun _ => (0, []))) (fun i => i ≤ s.length) (fun i => ⟨23, [(9, .t (.i .i64 i)), (8, .t (.i .i64 s.length)), (7, .t (eEntryS s)), (3, .mr 0)], [.map 176 9 (.own .leaf) ((live (s.take i)).map fun p => eK p.1) ((live (s.take i)).map fun p => T.s p.2) none]⟩) (fun i => s.length - i) mixed (by kernel_rfl) 0 (by omega) (Keep.wk (ids := [some 0]) ?_) ?_
  · simp only [push_cast, Nat.reduceEqDiff, Nat.reduceLT, Nat.reduceLeDiff, Nat.reduceAdd, Nat.reduceMul, Nat.reduceSub, Nat.reduceBEq, ↓reduceIte, reduceCtorEq, live, List.foldl_nil] <;> trivial
  · intro i hi
    simp -implicitDefEqProofs (maxSteps := 2000000) only [push_cast, Nat.reduceEqDiff, Nat.reduceLT, Nat.reduceLeDiff, Nat.reduceAdd, Nat.reduceMul, Nat.reduceSub, Nat.reduceBEq, ↓reduceIte, reduceCtorEq, eEntry]
    split
    · rename_i h
      refine ⟨by omega, fun a ha => ?_⟩
      rw [Int.toNat_natCast] at ha
      have hlen := live_len (s.take i)
      rw [List.length_take] at hlen
      have hs : live (s.take (i + 1)) = aset a.slot a.id (live (s.take i)) := by rw [List.take_add_one, ha]; exact live_snoc
      obtain ⟨hu1, hu2⟩ := upd_assoc (ek := eK) (ev := T.s) eK_inj (k := a.slot) (v := a.id) (l := live (s.take i))
      have hk : T.ag [T.s a.typ, T.s a.key] = eK a.slot := rfl
      rw [hk, hu1, hu2, ← hs]
      refine ⟨fun _ => by omega, by unfold inI64; omega, i + 1, by omega, by omega, Keep.wk (ids := [some 0]) ?_⟩
      simp only [push_cast, Nat.reduceEqDiff, Nat.reduceLT, Nat.reduceLeDiff, Nat.reduceAdd, Nat.reduceMul, Nat.reduceSub, Nat.reduceBEq, ↓reduceIte, reduceCtorEq] <;> rfl
    · have hi : i = s.length := by omega
      subst hi
      rw [List.take_length]
      exact Close.of [some 0] rfl rfl rfl rfl (by simp only [push_cast, Nat.reduceEqDiff, Nat.reduceLT, Nat.reduceLeDiff, Nat.reduceAdd, Nat.reduceMul, Nat.reduceSub, Nat.reduceBEq, ↓reduceIte, reduceCtorEq] <;> rfl)
end Go.Proofs.YtmgdkkhnjkepiaaGreat.BX
namespace Go.Proofs.YtmgdkkhnjkepiaaGreat.BX
set_option linter.unusedSectionVars false
set_option linter.unusedSimpArgs false
set_option linter.unusedVariables false
open Go Go.RowKit
set_option maxRecDepth 20000
set_option maxHeartbeats 400000
def inFront (gs : List Grant) (u : List UInt8) : Nat := (gs.takeWhile fun g => decide (g.name < u)).length
theorem inFront_at {gs : List Grant} {u : List UInt8} {i : Nat} (h1 : ∀ k g, k < i → gs[k]? = some g → g.name < u) (h2 : ∀ g, gs[i]? = some g → ¬ g.name < u) (hi : i ≤ gs.length) : inFront gs u = i := by
  have : gs.takeWhile (fun g => decide (g.name < u)) = gs.take i := by
    induction gs generalizing i with
    | nil => simp
    | cons x r ih =>
      cases i with
      | zero =>
        have := h2 x rfl
        rw [List.takeWhile_cons_of_neg (by simpa using this)]; rfl
      | succ i =>
        have := h1 0 x (by omega) rfl
        rw [List.takeWhile_cons_of_pos (by simpa using this), List.take_succ_cons, ih (i := i) (fun k g hk hg => h1 (k + 1) g (by omega) (by simpa using hg)) (fun g hg => h2 g (by simpa using hg)) (by simpa using hi)]
  unfold inFront
  rw [this, List.length_take]
  omega
def GOrd (gs : List Grant) : Prop := ∀ (i j : Nat) (a b : Grant), i < j → gs[i]? = some a → gs[j]? = some b → a.name < b.name
theorem gOrd_of {gs : List Grant} (h : ∀ (i : Nat) (a b : Grant), gs[i]? = some a → gs[i + 1]? = some b → Op.bytesLess a.name b.name = true) : GOrd gs := by
  intro i j a b hij ha hb
  induction j generalizing b with
  | zero => omega
  | succ j ih =>
    have hj : j < gs.length := by have := (List.getElem?_eq_some_iff.1 hb).1; omega
    have h1 := h j gs[j] b (List.getElem?_eq_getElem hj) hb
    rw [Go.Proofs.bytesLess_eq, decide_eq_true_eq] at h1
    rcases Nat.lt_or_ge i j with h2 | h2
    · exact List.lt_trans (ih gs[j] h2 (List.getElem?_eq_getElem hj)) h1
    · have : i = j := by omega
      subst this
      rw [List.getElem?_eq_getElem hj] at ha
      cases ha; exact h1
def grantL (gs : List Grant) (u : List UInt8) : Option Grant := gs.find? fun g => decide (g.name = u)
theorem grant_none {gs : List Grant} {u : List UInt8} : grantL gs u = none ↔ ∀ g ∈ gs, g.name ≠ u := by
  unfold grantL; rw [List.find?_eq_none]; simp
theorem grant_at {gs : List Grant} {u : List UInt8} {i : Nat} {g : Grant} (hg : gs[i]? = some g) (hn : g.name = u) (h : ∀ x ∈ gs.take i, x.name ≠ u) : grantL gs u = some g := by
  obtain ⟨hi, hgi⟩ := List.getElem?_eq_some_iff.1 hg
  have hs : gs = gs.take i ++ g :: gs.drop (i + 1) := by
    rw [← hgi, ← List.drop_eq_getElem_cons hi, List.take_append_drop]
  unfold grantL
  rw [hs, List.find?_append, List.find?_eq_none.2 (by simpa using h), List.find?_cons_of_pos (by simpa using hn)]
  rfl
theorem grant_front {gs : List Grant} {u : List UInt8} {i : Nat} (ho : GOrd gs) (h1 : ∀ k g, k < i → gs[k]? = some g → g.name < u) (h2 : ∀ g, gs[i]? = some g → ¬ g.name < u) :
    (∃ g, gs[i]? = some g ∧ g.name = u ∧ grantL gs u = some g) ∨ ((∀ g, gs[i]? = some g → g.name ≠ u) ∧ grantL gs u = none) := by
  by_cases hg : ∃ g, gs[i]? = some g ∧ g.name = u
  · obtain ⟨g, hg, hn⟩ := hg
    refine .inl ⟨g, hg, hn, grant_at hg hn fun x hx => ?_⟩
    obtain ⟨k, hk, rfl⟩ := List.getElem_of_mem hx
    rw [List.getElem_take]
    rw [List.length_take] at hk
    intro he
    have := h1 k _ (by omega) (List.getElem?_eq_getElem (by omega))
    rw [he] at this
    exact List.lt_irrefl _ this
  · refine .inr ⟨fun g hgi hn => hg ⟨g, hgi, hn⟩, grant_none.2 fun g hm hn => ?_⟩
    obtain ⟨k, hk, rfl⟩ := List.getElem_of_mem hm
    rcases Nat.lt_trichotomy k i with h | h | h
    · have := h1 k _ h (List.getElem?_eq_getElem hk)
      rw [hn] at this
      exact List.lt_irrefl _ this
    · subst h
      exact hg ⟨_, List.getElem?_eq_getElem hk, hn⟩
    · have hi : i < gs.length := by omega
      have q := ho i k _ _ h (List.getElem?_eq_getElem hi) (List.getElem?_eq_getElem hk)
      rw [hn] at q
      exact h2 _ (List.getElem?_eq_getElem hi) q
theorem front_lt {u : List UInt8} : ∀ {gs : List Grant} {k : Nat} {g : Grant}, k < inFront gs u → gs[k]? = some g → g.name < u
  | [], k, g, h, _ => by simp [inFront] at h
  | x :: r, k, g, h, hg => by
    unfold inFront at h
    rw [List.takeWhile_cons] at h
    split at h
    · rename_i hx
      cases k with
      | zero => simp at hg; subst hg; simpa using hx
      | succ k => exact front_lt (gs := r) (k := k) (by unfold inFront; simpa using h) (by simpa using hg)
    · simp at h
theorem front_ge {u : List UInt8} : ∀ {gs : List Grant} {g : Grant}, gs[inFront gs u]? = some g → ¬ g.name < u
  | [], g, h => by simp at h
  | x :: r, g, h => by
    unfold inFront at h
    rw [List.takeWhile_cons] at h
    split at h
    · exact front_ge (gs := r) (by unfold inFront; simpa using h)
    · rename_i hx
      simp at h
      subst h
      simpa using hx
def grT (o : Option Grant) : T := match o with
  | some g => .tp [.i .i64 g.level, .b true]
  | none => .tp [.i .i64 0, .b false]
variable [Bd]
theorem l5Grant (gs : List Grant) (u : List UInt8) : Con P0 125 [eGrantS gs, .s u] (.t (grT (grantL gs u))) [] := by
  refine Con.intro (fn := Tryz.f125) [.tmp 4, .tmp 5] (fun _ => (0, [])) mixed (by kernel_rfl) rfl (by decide) rfl (by rfl) (by kernel_rfl) ?_
  simp -implicitDefEqProofs (maxSteps := 2000000) only [push_cast, Nat.reduceEqDiff, Nat.reduceLT, Nat.reduceLeDiff, Nat.reduceAdd, Nat.reduceMul, Nat.reduceSub, Nat.reduceBEq, ↓reduceIte, reduceCtorEq]
  refine WL.loop (ι := Nat) (D := (fun _ => (0, []))) (fun i => i ≤ gs.length ∧ ∀ x ∈ gs.take i, x.name ≠ u) (fun i => ⟨25, [(0, .t (eGrantS gs)), (1, .t (.s u)), (6, .t (.i .i64 i))], []⟩) (fun i => gs.length - i) mixed (by kernel_rfl) 0 ⟨by omega, by simp⟩ (Keep.wk (ids := []) ?_) ?_
  · simp only [push_cast, Nat.reduceEqDiff, Nat.reduceLT, Nat.reduceLeDiff, Nat.reduceAdd, Nat.reduceMul, Nat.reduceSub, Nat.reduceBEq, ↓reduceIte, reduceCtorEq] <;> rfl
  · rintro i ⟨hi, hc⟩
    simp -implicitDefEqProofs (maxSteps := 2000000) only [push_cast, Nat.reduceEqDiff, Nat.reduceLT, Nat.reduceLeDiff, Nat.reduceAdd, Nat.reduceMul, Nat.reduceSub, Nat.reduceBEq, ↓reduceIte, reduceCtorEq, eGrant]
    intro _
    have := Bd.hi
    refine iteI (fun h => ⟨by omega, fun g hg => ?_⟩) (fun h => ?_)
    · rw [Int.toNat_natCast] at hg
      refine iteI (fun h1 => ⟨by omega, fun g' hg' => ?_⟩) (fun h1 => ?_)
      · rw [Int.toNat_natCast, hg] at hg'
        cases hg'
        rw [grant_at hg h1 hc]
        rfl
      · refine ⟨by unfold inI64; omega, i + 1, ⟨by omega, take_snoc hg hc h1⟩, by omega, Keep.wk (ids := []) ?_⟩
        simp only [push_cast, Nat.reduceEqDiff, Nat.reduceLT, Nat.reduceLeDiff, Nat.reduceAdd, Nat.reduceMul, Nat.reduceSub, Nat.reduceBEq, ↓reduceIte, reduceCtorEq] <;> rfl
    · rw [List.take_of_length_le (by omega)] at hc
      rw [grant_none.2 hc]
      rfl
theorem cmpGrant (g : Grant) (u : List UInt8) : Con P0 231 [eGrant g, .s u] (.t (.i .i64 (cmpS g.name u))) [] := by
  refine Con.intro (fn := Tryz.f231) [.tmp 4] (fun _ => (0, [])) mixed (by kernel_rfl) rfl (by decide) rfl (by rfl) (by kernel_rfl) ?_
  simp -implicitDefEqProofs (maxSteps := 2000000) only [push_cast, Nat.reduceEqDiff, Nat.reduceLT, Nat.reduceLeDiff, Nat.reduceAdd, Nat.reduceMul, Nat.reduceSub, Nat.reduceBEq, ↓reduceIte, reduceCtorEq, eGrant]
  refine Callx.closed (compareS g.name u) rfl rfl (.inl rfl) ?_
  simp -implicitDefEqProofs (maxSteps := 2000000) only [push_cast, Nat.reduceEqDiff, Nat.reduceLT, Nat.reduceLeDiff, Nat.reduceAdd, Nat.reduceMul, Nat.reduceSub, Nat.reduceBEq, ↓reduceIte, reduceCtorEq, eGrant]
def bsB (gs : List Grant) (u : List UInt8) : Bool := match gs[inFront gs u]? with
  | some g => decide (g.name = u)
  | none => false
theorem bsearch (gs : List Grant) (u : List UInt8) (ho : GOrd gs) (hB : Bd.B ≤ 2147483648) : Con P0 230 [eGrantS gs, .s u, .fn 231 []] (.t (.tp [.i .i64 (inFront gs u), .b (bsB gs u)])) [] := by
  refine Con.intro (fn := Tryz.f230) [.tmp 6, .tmp 7] (fun _ => (0, [])) mixed (by kernel_rfl) rfl (by decide) rfl (by rfl) (by kernel_rfl) ?_
  simp -implicitDefEqProofs (maxSteps := 2000000) only [push_cast, Nat.reduceEqDiff, Nat.reduceLT, Nat.reduceLeDiff, Nat.reduceAdd, Nat.reduceMul, Nat.reduceSub, Nat.reduceBEq, ↓reduceIte, reduceCtorEq]
  intro hl
  have := Bd.hi
  refine WL.loop (ι := Nat × Nat) (D := (fun _ => (0, []))) (fun i => i.1 ≤ i.2 ∧ i.2 ≤ gs.length ∧ (∀ k g, k < i.1 → gs[k]? = some g → g.name < u) ∧ ∀ k g, i.2 ≤ k → gs[k]? = some g → ¬ g.name < u) (fun i => ⟨49, [(0, .t (eGrantS gs)), (1, .t (.s u)), (2, .t (.fn 231 [])), (8, .t (.i .i64 gs.length)), (9, .t (.i .i64 i.1)), (10, .t (.i .i64 i.2))], []⟩) (fun i => i.2 - i.1) mixed (by kernel_rfl) (0, gs.length) ⟨by simp, by simp, by simp, fun k g hk hg => by have := (List.getElem?_eq_some_iff.1 hg).1; simp only at hk; omega⟩ (Keep.wk (ids := []) ?_) ?_
  · simp only [push_cast, Nat.reduceEqDiff, Nat.reduceLT, Nat.reduceLeDiff, Nat.reduceAdd, Nat.reduceMul, Nat.reduceSub, Nat.reduceBEq, ↓reduceIte, reduceCtorEq] <;> rfl
  · rintro ⟨lo, hi⟩ ⟨h1, h2, h3, h4⟩
    simp only at h1 h2 h3 h4
    simp -implicitDefEqProofs (maxSteps := 2000000) only [push_cast, Nat.reduceEqDiff, Nat.reduceLT, Nat.reduceLeDiff, Nat.reduceAdd, Nat.reduceMul, Nat.reduceSub, Nat.reduceBEq, ↓reduceIte, reduceCtorEq]
    refine iteI (fun h => ?_) (fun h => ?_)
    · have hm : IntKind.i64.wrap (IntKind.u64.wrap ((lo : Int) + hi) / 2 ^ Int.toNat 1) = (((lo + hi) / 2 : Nat) : Int) := by
        rw [IntWalk.u64_in _ ⟨by omega, by omega⟩]
        have : (2 : Int) ^ Int.toNat 1 = 2 := rfl
        rw [this, IntWalk.i64_in _ ⟨by omega, by omega⟩]
        omega
      rw [hm]
      obtain ⟨m, hme⟩ : ∃ m, (lo + hi) / 2 = m := ⟨_, rfl⟩
      rw [hme]
      refine ⟨by unfold inI64; omega, by omega, by omega, by omega, fun g hg => ?_⟩
      rw [Int.toNat_natCast] at hg
      refine Callx.closed (cmpGrant g u) rfl rfl (.inl rfl) ?_
      simp -implicitDefEqProofs (maxSteps := 2000000) only [push_cast, Nat.reduceEqDiff, Nat.reduceLT, Nat.reduceLeDiff, Nat.reduceAdd, Nat.reduceMul, Nat.reduceSub, Nat.reduceBEq, ↓reduceIte, reduceCtorEq]
      have hlt : cmpS g.name u < 0 ↔ g.name < u := by rw [cmpS_neg, Go.Proofs.bytesLess_eq, decide_eq_true_eq]
      refine iteI (fun hc => ?_) (fun hc => ?_)
      · refine ⟨by unfold inI64; omega, (m + 1, hi), ⟨by simp only; omega, h2, fun k x hk hx => ?_, h4⟩, by simp only; omega, Keep.wk (ids := []) ?_⟩
        · rcases Nat.lt_or_ge k m with h | h
          · exact List.lt_trans (ho k m x g h hx hg) (hlt.1 hc)
          · have : k = m := by simp only at hk; omega
            subst this
            rw [hg] at hx; cases hx; exact hlt.1 hc
        · simp only [push_cast, Nat.reduceEqDiff, Nat.reduceLT, Nat.reduceLeDiff, Nat.reduceAdd, Nat.reduceMul, Nat.reduceSub, Nat.reduceBEq, ↓reduceIte, reduceCtorEq] <;> rfl
      · refine ⟨(lo, m), ⟨by simp only; omega, by simp only; omega, h3, fun k x hk hx hl => ?_⟩, by simp only; omega, Keep.wk (ids := []) ?_⟩
        · refine hc (hlt.2 ?_)
          rcases Nat.lt_or_ge m k with h | h
          · exact List.lt_trans (ho m k g x h hg hx) hl
          · have : k = m := by simp only at hk; omega
            subst this
            rw [hg] at hx; cases hx; exact hl
        · simp only [push_cast, Nat.reduceEqDiff, Nat.reduceLT, Nat.reduceLeDiff, Nat.reduceAdd, Nat.reduceMul, Nat.reduceSub, Nat.reduceBEq, ↓reduceIte, reduceCtorEq] <;> rfl
    · have hlh : lo = hi := by omega
      subst hlh
      have hf := inFront_at h3 (fun g hg => h4 lo g (Nat.le_refl _) hg) h2
      unfold bsB
      rw [hf]
      refine iteI (fun hc => ⟨by omega, fun g hg => ?_⟩) (fun hc => ?_)
      · rw [Int.toNat_natCast] at hg
        refine Callx.closed (cmpGrant g u) rfl rfl (.inl rfl) ?_
        simp -implicitDefEqProofs (maxSteps := 2000000) only [push_cast, Nat.reduceEqDiff, Nat.reduceLT, Nat.reduceLeDiff, Nat.reduceAdd, Nat.reduceMul, Nat.reduceSub, Nat.reduceBEq, ↓reduceIte, reduceCtorEq]
        rw [hg]
        simp only [cmpS_zero]
      · rw [List.getElem?_eq_none (by omega)]
theorem grantOf (e : Event) (u : List UInt8) (ho : GOrd e.grants) (hB : Bd.B ≤ 2147483648) : Con P0 198 [.po (eEvent e) 0, .s u] (.t (grT (grantL e.grants u))) [] := by
  refine Con.intro (fn := Tryz.f198) [.tmp 4, .tmp 5] (fun _ => (0, [])) mixed (by kernel_rfl) rfl (by decide) rfl (by rfl) (by kernel_rfl) ?_
  simp -implicitDefEqProofs (maxSteps := 2000000) only [push_cast, Nat.reduceEqDiff, Nat.reduceLT, Nat.reduceLeDiff, Nat.reduceAdd, Nat.reduceMul, Nat.reduceSub, Nat.reduceBEq, ↓reduceIte, reduceCtorEq, eEvent]
  refine Callx.closed (bsearch e.grants u ho hB) rfl rfl (.inr ⟨rfl, rfl⟩) ?_
  simp -implicitDefEqProofs (maxSteps := 2000000) only [push_cast, Nat.reduceEqDiff, Nat.reduceLT, Nat.reduceLeDiff, Nat.reduceAdd, Nat.reduceMul, Nat.reduceSub, Nat.reduceBEq, ↓reduceIte, reduceCtorEq, eEvent, eGrant]
  rcases grant_front ho (fun k g => front_lt (u := u)) (fun g => front_ge) with ⟨g, h1, h2, h3⟩ | ⟨h1, h2⟩
  · have hb : bsB e.grants u = true := by unfold bsB; rw [h1]; simp [h2]
    have hl := (List.getElem?_eq_some_iff.1 h1).1
    rw [hb, if_neg (by simp), h3]
    refine ⟨by omega, fun a ha => ?_⟩
    rw [Int.toNat_natCast, h1] at ha
    cases ha
    rfl
  · have hb : bsB e.grants u = false := by
      unfold bsB
      split
      · rename_i g hg; simp [h1 g hg]
      · rfl
    rw [hb, if_pos (by rfl), h2]
    rfl
def sDefault : List UInt8 := [42, 100, 101, 102, 97, 117, 108, 116]
def levelBy (gs : List Grant) (u : List UInt8) : Int := match grantL gs u with
  | some g => g.level
  | none => match grantL gs sDefault with
    | some g => g.level
    | none => 0
theorem l5ByGrants (gs : List Grant) (u : List UInt8) : Con P0 185 [eGrantS gs, .s u] (.t (.i .i64 (levelBy gs u))) [] := by
  refine Con.intro (fn := Tryz.f185) [.tmp 4] (fun _ => (0, [])) mixed (by kernel_rfl) rfl (by decide) rfl (by rfl) (by kernel_rfl) ?_
  simp -implicitDefEqProofs (maxSteps := 2000000) only [push_cast, Nat.reduceEqDiff, Nat.reduceLT, Nat.reduceLeDiff, Nat.reduceAdd, Nat.reduceMul, Nat.reduceSub, Nat.reduceBEq, ↓reduceIte, reduceCtorEq]
  refine Callx.closed (l5Grant gs u) rfl rfl (.inl rfl) ?_
  unfold levelBy
  cases h : grantL gs u with
  | some g =>
    simp -implicitDefEqProofs (maxSteps := 2000000) only [push_cast, Nat.reduceEqDiff, Nat.reduceLT, Nat.reduceLeDiff, Nat.reduceAdd, Nat.reduceMul, Nat.reduceSub, Nat.reduceBEq, ↓reduceIte, reduceCtorEq, grT]
  | none =>
    simp -implicitDefEqProofs (maxSteps := 2000000) only [push_cast, Nat.reduceEqDiff, Nat.reduceLT, Nat.reduceLeDiff, Nat.reduceAdd, Nat.reduceMul, Nat.reduceSub, Nat.reduceBEq, ↓reduceIte, reduceCtorEq, grT]
    refine Callx.closed (l5Grant gs sDefault) rfl rfl (.inl rfl) ?_
    cases h : grantL gs sDefault with
    | some g =>
      simp -implicitDefEqProofs (maxSteps := 2000000) only [push_cast, Nat.reduceEqDiff, Nat.reduceLT, Nat.reduceLeDiff, Nat.reduceAdd, Nat.reduceMul, Nat.reduceSub, Nat.reduceBEq, ↓reduceIte, reduceCtorEq, grT]
    | none =>
      simp -implicitDefEqProofs (maxSteps := 2000000) only [push_cast, Nat.reduceEqDiff, Nat.reduceLT, Nat.reduceLeDiff, Nat.reduceAdd, Nat.reduceMul, Nat.reduceSub, Nat.reduceBEq, ↓reduceIte, reduceCtorEq, grT]
theorem implLevelBy (e : Event) (u : List UInt8) (ho : GOrd e.grants) (hB : Bd.B ≤ 2147483648) : Con P0 184 [.po (eEvent e) 0, .s u] (.t (.i .i64 (levelBy e.grants u))) [] := by
  refine Con.intro (fn := Tryz.f184) [.tmp 4] (fun _ => (0, [])) mixed (by kernel_rfl) rfl (by decide) rfl (by rfl) (by kernel_rfl) ?_
  simp -implicitDefEqProofs (maxSteps := 2000000) only [push_cast, Nat.reduceEqDiff, Nat.reduceLT, Nat.reduceLeDiff, Nat.reduceAdd, Nat.reduceMul, Nat.reduceSub, Nat.reduceBEq, ↓reduceIte, reduceCtorEq]
  refine Callx.closed (grantOf e u ho hB) rfl rfl (.inl rfl) ?_
  unfold levelBy
  cases h : grantL e.grants u with
  | some g =>
    simp -implicitDefEqProofs (maxSteps := 2000000) only [push_cast, Nat.reduceEqDiff, Nat.reduceLT, Nat.reduceLeDiff, Nat.reduceAdd, Nat.reduceMul, Nat.reduceSub, Nat.reduceBEq, ↓reduceIte, reduceCtorEq, grT]
  | none =>
    simp -implicitDefEqProofs (maxSteps := 2000000) only [push_cast, Nat.reduceEqDiff, Nat.reduceLT, Nat.reduceLeDiff, Nat.reduceAdd, Nat.reduceMul, Nat.reduceSub, Nat.reduceBEq, ↓reduceIte, reduceCtorEq, grT]
    refine Callx.closed (grantOf e sDefault ho hB) rfl rfl (.inl rfl) ?_
    cases h : grantL e.grants sDefault with
    | some g =>
      simp -implicitDefEqProofs (maxSteps := 2000000) only [push_cast, Nat.reduceEqDiff, Nat.reduceLT, Nat.reduceLeDiff, Nat.reduceAdd, Nat.reduceMul, Nat.reduceSub, Nat.reduceBEq, ↓reduceIte, reduceCtorEq, grT]
    | none =>
      simp -implicitDefEqProofs (maxSteps := 2000000) only [push_cast, Nat.reduceEqDiff, Nat.reduceLT, Nat.reduceLeDiff, Nat.reduceAdd, Nat.reduceMul, Nat.reduceSub, Nat.reduceBEq, ↓reduceIte, reduceCtorEq, grT]
end Go.Proofs.YtmgdkkhnjkepiaaGreat.BX
namespace Go.Proofs.YtmgdkkhnjkepiaaGreat.BX
set_option linter.unusedSectionVars false
set_option linter.unusedSimpArgs false
set_option linter.unusedVariables false
open Go Go.RowKit
set_option maxRecDepth 20000
set_option maxHeartbeats 400000
def fitE (es : List Event) (x : Entry) : Bool := match posOf x.id es with
  | some j => match es[j]? with
    | some a => a.isState && decide (a.typ = x.typ) && decide (a.key = x.key)
    | none => false
  | none => false
noncomputable def fitsB (es : List Event) (s : List Entry) : Bool := s.all (fitE es) && stateOk s
theorem fit_no {es : List Event} {s : List Entry} {x : Entry} (hx : x ∈ s) (h : fitE es x = false) : fitsB es s = false := by
  unfold fitsB
  rw [Bool.and_eq_false_iff]
  refine .inl ?_
  rw [List.all_eq_false]
  exact ⟨x, hx, by simp [h]⟩
theorem fit_all {es : List Event} {s : List Entry} (h : ∀ x ∈ s, fitE es x = true) : fitsB es s = stateOk s := by
  unfold fitsB
  rw [List.all_eq_true.2 h, Bool.true_and]
variable [Bd]
theorem l5Fits (es : List Event) (s : List Entry) : Con P0 62 [eRoom ⟨es⟩, eEntryS s] (.t (.b (fitsB es s))) [] := by
  refine Con.intro (fn := Tryz.f62) [.tmp 4] (fun i => if i = 5 then (39, []) else if i = 4 then (8, []) else (0, [])) mixed (by kernel_rfl) rfl (by decide) rfl (by rfl) (by kernel_rfl) ?_
  simp -implicitDefEqProofs (maxSteps := 2000000) only [push_cast, Nat.reduceEqDiff, Nat.reduceLT, Nat.reduceLeDiff, Nat.reduceAdd, Nat.reduceMul, Nat.reduceSub, Nat.reduceBEq, ↓reduceIte, reduceCtorEq, eRoom]
  refine WL.loop (ι := Nat) (D := (fun i => if i = 5 then (39, []) else if i = 4 then (8, []) else (0, []))) (fun i => i ≤ s.length ∧ ∀ x ∈ s.take i, fitE es x = true) (fun i => ⟨61, [(1, .t (eEntryS s)), (2, .rf 0 0), (5, .t (.i .i64 i))], [.box (.t (eRoom ⟨es⟩))]⟩) (fun i => s.length - i) mixed (by kernel_rfl) 0 ⟨by omega, by simp⟩ (Keep.wk (ids := [some 0]) ?_) ?_
  · simp only [push_cast, Nat.reduceEqDiff, Nat.reduceLT, Nat.reduceLeDiff, Nat.reduceAdd, Nat.reduceMul, Nat.reduceSub, Nat.reduceBEq, ↓reduceIte, reduceCtorEq, eRoom] <;> rfl
  · rintro i ⟨hi, hc⟩
    simp -implicitDefEqProofs (maxSteps := 2000000) only [push_cast, Nat.reduceEqDiff, Nat.reduceLT, Nat.reduceLeDiff, Nat.reduceAdd, Nat.reduceMul, Nat.reduceSub, Nat.reduceBEq, ↓reduceIte, reduceCtorEq, eRoom]
    intro _
    have hhi := Bd.hi
    refine iteI (fun h => ⟨by omega, fun x hx => ?_⟩) (fun h => ?_)
    · rw [Int.toNat_natCast] at hx
      simp -implicitDefEqProofs (maxSteps := 2000000) only [push_cast, Nat.reduceEqDiff, Nat.reduceLT, Nat.reduceLeDiff, Nat.reduceAdd, Nat.reduceMul, Nat.reduceSub, Nat.reduceBEq, ↓reduceIte, reduceCtorEq, eRoom, eEntry]
      refine CallV.t (l2At es x.id) (.inl rfl) ?_
      simp -implicitDefEqProofs (maxSteps := 2000000) only [push_cast, Nat.reduceEqDiff, Nat.reduceLT, Nat.reduceLeDiff, Nat.reduceAdd, Nat.reduceMul, Nat.reduceSub, Nat.reduceBEq, ↓reduceIte, reduceCtorEq, eRoom, eEntry, eEvent]
      have hxm := List.mem_of_getElem? hx
      have no : fitE es x = false → T.b false = T.b (fitsB es s) := fun h => by rw [fit_no hxm h]
      cases hp : posOf x.id es with
      | none =>
        have hat : atI es x.id = -1 := by unfold atI; rw [hp]
        rw [hat, if_pos (by omega)]
        exact no (by unfold fitE; rw [hp])
      | some j =>
        obtain ⟨a, ha, _⟩ := posOf_some.1 hp
        have hjl := (List.getElem?_eq_some_iff.1 ha).1
        have hat : atI es x.id = j := by unfold atI; rw [hp]
        have hfe : fitE es x = (a.isState && decide (a.typ = x.typ) && decide (a.key = x.key)) := by unfold fitE; rw [hp]; dsimp only; rw [ha]
        rw [hat, if_neg (by omega)]
        have e1 : (Int.toNat (j : Int)) = j := Int.toNat_natCast _
        have e2 : (Int.toNat (i : Int)) = i := Int.toNat_natCast _
        simp only [e1, e2]
        refine ⟨by omega, fun a' ha' => ?_⟩
        rw [ha] at ha'; cases ha'
        refine iteI (fun q => no (by rw [hfe, show a.isState = false by simpa using q]; rfl)) (fun q1 => ⟨by omega, fun a' ha' => ⟨by omega, fun x' hx' => ?_⟩⟩)
        rw [ha] at ha'; cases ha'
        rw [hx] at hx'; cases hx'
        refine iteI (fun q => no (by rw [hfe, decide_eq_false q, Bool.and_false]; rfl)) (fun q2 => ⟨by omega, fun a' ha' => ⟨by omega, fun x' hx' => ?_⟩⟩)
        rw [ha] at ha'; cases ha'
        rw [hx] at hx'; cases hx'
        refine iteI (fun q => no (by rw [hfe, decide_eq_false q, Bool.and_false])) (fun q3 => ?_)
        have hyes : fitE es x = true := by
          rw [hfe, show a.isState = true by simpa using q1, decide_eq_true (Classical.not_not.1 q2), decide_eq_true (Classical.not_not.1 q3)]; rfl
        refine ⟨by unfold inI64; omega, i + 1, ⟨by omega, take_snoc hx hc hyes⟩, by omega, Keep.wk (ids := [some 0]) ?_⟩
        simp only [push_cast, Nat.reduceEqDiff, Nat.reduceLT, Nat.reduceLeDiff, Nat.reduceAdd, Nat.reduceMul, Nat.reduceSub, Nat.reduceBEq, ↓reduceIte, reduceCtorEq, eRoom] <;> rfl
    · rw [List.take_of_length_le (by omega)] at hc
      refine Callx.closed (specStateOk s) rfl rfl (.inl rfl) ?_
      simp -implicitDefEqProofs (maxSteps := 2000000) only [push_cast, Nat.reduceEqDiff, Nat.reduceLT, Nat.reduceLeDiff, Nat.reduceAdd, Nat.reduceMul, Nat.reduceSub, Nat.reduceBEq, ↓reduceIte, reduceCtorEq, eRoom]
      rw [fit_all hc]
theorem graphFitsNil (s : List Entry) : Con P0 68 [.np, eEntryS s] (.t (.b false)) [] := by
  refine Con.intro (fn := Tryz.f68) [.tmp 4] (fun i => if i = 7 then (39, []) else if i = 6 then (12, []) else (0, [])) mixed (by kernel_rfl) rfl (by decide) rfl (by rfl) (by kernel_rfl) ?_
  simp -implicitDefEqProofs (maxSteps := 2000000) only [push_cast, Nat.reduceEqDiff, Nat.reduceLT, Nat.reduceLeDiff, Nat.reduceAdd, Nat.reduceMul, Nat.reduceSub, Nat.reduceBEq, ↓reduceIte, reduceCtorEq]
theorem graphFits (es : List Event) (s : List Entry) : Con P0 68 [gT es, eEntryS s] (.t (.b (fitsB es s))) [] := by
  refine Con.intro (fn := Tryz.f68) [.tmp 4] (fun i => if i = 7 then (39, []) else if i = 6 then (12, []) else (0, [])) mixed (by kernel_rfl) rfl (by decide) rfl (by rfl) (by kernel_rfl) ?_
  simp -implicitDefEqProofs (maxSteps := 2000000) only [push_cast, Nat.reduceEqDiff, Nat.reduceLT, Nat.reduceLeDiff, Nat.reduceAdd, Nat.reduceMul, Nat.reduceSub, Nat.reduceBEq, ↓reduceIte, reduceCtorEq, gT]
  refine Callx.closed (implStateOk s) rfl rfl (.inl rfl) ?_
  simp -implicitDefEqProofs (maxSteps := 2000000) only [push_cast, Nat.reduceEqDiff, Nat.reduceLT, Nat.reduceLeDiff, Nat.reduceAdd, Nat.reduceMul, Nat.reduceSub, Nat.reduceBEq, ↓reduceIte, reduceCtorEq, gT]
  refine iteI (fun hs => ?_) (fun hs => ?_)
  · unfold fitsB
    rw [show stateOk s = false by simpa using hs, Bool.and_false]
  have hs : stateOk s = true := by simpa using hs
  intro hlen
  refine WL.loop (ι := Nat) (D := (fun i => if i = 7 then (39, []) else if i = 6 then (12, []) else (0, []))) (fun i => i ≤ s.length ∧ ∀ x ∈ s.take i, fitE es x = true) (fun i => ⟨72, [(0, .t (gT es)), (16, .t (eEntryS s)), (17, .t (.i .i64 s.length)), (18, .t (.i .i64 i))], []⟩) (fun i => s.length - i) mixed (by kernel_rfl) 0 ⟨by omega, by simp⟩ (Keep.wk (ids := []) ?_) ?_
  · simp only [push_cast, Nat.reduceEqDiff, Nat.reduceLT, Nat.reduceLeDiff, Nat.reduceAdd, Nat.reduceMul, Nat.reduceSub, Nat.reduceBEq, ↓reduceIte, reduceCtorEq, gT] <;> rfl
  · rintro i ⟨hi, hc⟩
    simp -implicitDefEqProofs (maxSteps := 2000000) only [push_cast, Nat.reduceEqDiff, Nat.reduceLT, Nat.reduceLeDiff, Nat.reduceAdd, Nat.reduceMul, Nat.reduceSub, Nat.reduceBEq, ↓reduceIte, reduceCtorEq, gT, eEntry, eEvent]
    have hhi := Bd.hi
    refine iteI (fun h => ⟨by omega, fun x hx => ?_⟩) (fun h => ?_)
    · rw [Int.toNat_natCast] at hx
      have hxm := List.mem_of_getElem? hx
      have no : fitE es x = false → T.b false = T.b (fitsB es s) := fun h => by rw [fit_no hxm h]
      refine gLook rfl (fun j hj => ?_) (fun hj => ?_)
      · simp -implicitDefEqProofs (maxSteps := 2000000) only [push_cast, Nat.reduceEqDiff, Nat.reduceLT, Nat.reduceLeDiff, Nat.reduceAdd, Nat.reduceMul, Nat.reduceSub, Nat.reduceBEq, ↓reduceIte, reduceCtorEq, gT, eEntry, eEvent]
        obtain ⟨a, ha, _⟩ := posOf_some.1 hj
        have hjl := (List.getElem?_eq_some_iff.1 ha).1
        have hfe : fitE es x = (a.isState && decide (a.typ = x.typ) && decide (a.key = x.key)) := by unfold fitE; rw [hj]; dsimp only; rw [ha]
        have e1 : (Int.toNat (j : Int)) = j := Int.toNat_natCast _
        simp only [e1]
        refine ⟨by omega, fun a' ha' => ?_⟩
        rw [ha] at ha'; cases ha'
        refine iteI (fun q => no (by rw [hfe, show a.isState = false by simpa using q]; rfl)) (fun q1 => ⟨by omega, fun a' ha' => ?_⟩)
        rw [ha] at ha'; cases ha'
        refine iteI (fun q => no (by rw [hfe, decide_eq_false q, Bool.and_false]; rfl)) (fun q2 => ⟨by omega, fun a' ha' => ?_⟩)
        rw [ha] at ha'; cases ha'
        refine iteI (fun q => no (by rw [hfe, decide_eq_false q, Bool.and_false])) (fun q3 => ?_)
        have hyes : fitE es x = true := by
          rw [hfe, show a.isState = true by simpa using q1, decide_eq_true (Classical.not_not.1 q2), decide_eq_true (Classical.not_not.1 q3)]; rfl
        refine ⟨by unfold inI64; omega, i + 1, ⟨by omega, take_snoc hx hc hyes⟩, by omega, Keep.wk (ids := []) ?_⟩
        simp only [push_cast, Nat.reduceEqDiff, Nat.reduceLT, Nat.reduceLeDiff, Nat.reduceAdd, Nat.reduceMul, Nat.reduceSub, Nat.reduceBEq, ↓reduceIte, reduceCtorEq, gT] <;> rfl
      · simp -implicitDefEqProofs (maxSteps := 2000000) only [push_cast, Nat.reduceEqDiff, Nat.reduceLT, Nat.reduceLeDiff, Nat.reduceAdd, Nat.reduceMul, Nat.reduceSub, Nat.reduceBEq, ↓reduceIte, reduceCtorEq, gT, eEntry, eEvent]
        exact no (by unfold fitE; rw [hj])
    · rw [List.take_of_length_le (by omega)] at hc
      rw [fit_all hc, hs]
end Go.Proofs.YtmgdkkhnjkepiaaGreat.BX
namespace Go.Proofs.YtmgdkkhnjkepiaaGreat.BX
set_option linter.unusedSectionVars false
set_option linter.unusedSimpArgs false
set_option linter.unusedVariables false
open Go Go.RowKit
set_option maxRecDepth 20000
set_option maxHeartbeats 400000
def slotE (es : List Event) (s : List Entry) (k : SlotK) : Option Event := match posOf (findId k s) es with
  | some j => es[j]?
  | none => none
def zeroEv : Event := ⟨[], [], [], false, [], 0, [], [], [], []⟩
def slotT (o : Option Event) : T := match o with
  | some e => .tp [eEvent e, .b true]
  | none => .tp [eEvent zeroEv, .b false]
def slotP (o : Option Event) : T := match o with
  | some e => .po (eEvent e) 0
  | none => .np
def lvl (es : List Event) (s : List Entry) (u : List UInt8) : Int := match slotE es s (sPower, []) with
  | some p => levelBy p.grants u
  | none => match slotE es s (sCreate, []) with
    | some c => if c.sender = u then 100 else 0
    | none => 0
def liveT (s : List Entry) : T := .mp ((live s).map fun p => eK p.1) ((live s).map fun p => T.s p.2)
def jT (es : List Event) (s : List Entry) (x : Event) : T := .ag [gT es, liveT s, .s x.id, .s x.sender, .s x.typ, .b x.isState, .s x.key, .i .i64 x.time, eStringS x.prev, eStringS x.auth, .s x.value, eGrantS x.grants]
theorem fits_of {es : List Event} {s : List Entry} (h : fitsB es s = true) : stateOk s = true ∧ ∀ x ∈ s, fitE es x = true := by
  unfold fitsB at h
  simp only [Bool.and_eq_true, List.all_eq_true] at h
  exact ⟨h.2, h.1⟩
variable [Bd]
theorem slot_none {es : List Event} {s : List Entry} {k : SlotK} (hv : Valid es) (hf : fitsB es s = true) (h : aget k (live s) = none) : slotE es s k = none := by
  obtain ⟨hs, _⟩ := fits_of hf
  obtain ⟨ho1, ho2, ho3⟩ := stateOk_ord hs
  rw [live_map (inOrd_nodup ho1)] at h
  rcases findId_get (k := k) ho3 with ⟨h1, h2⟩ | ⟨h1, h2⟩
  · unfold slotE
    rw [h2, pos_nil hv]
  · rw [h1] at h; cases h
theorem slot_some {es : List Event} {s : List Entry} {k : SlotK} {id : List UInt8} (hf : fitsB es s = true) (h : aget k (live s) = some id) : ∃ j e, posOf id es = some j ∧ es[j]? = some e ∧ slotE es s k = some e := by
  obtain ⟨hs, hx⟩ := fits_of hf
  obtain ⟨ho1, ho2, ho3⟩ := stateOk_ord hs
  rw [live_map (inOrd_nodup ho1)] at h
  rcases findId_get (k := k) ho3 with ⟨h1, h2⟩ | ⟨h1, h2⟩
  · rw [h1] at h; cases h
  · have hm : ∃ x ∈ s, x.id = id := by
      have := aget_in h
      obtain ⟨x, hx, he⟩ := List.mem_map.1 this
      exact ⟨x, hx, by simpa using congrArg Prod.snd he⟩
    rw [h1] at h
    cases h
    obtain ⟨x, hxs, hxi⟩ := hm
    have := hx x hxs
    unfold fitE at this
    rw [hxi] at this
    cases hp : posOf (findId k s) es with
    | none => rw [hp] at this; cases this
    | some j =>
      have hj := posOf_lt hp
      refine ⟨j, es[j], rfl, List.getElem?_eq_getElem hj, ?_⟩
      unfold slotE
      rw [hp]
      exact List.getElem?_eq_getElem hj
theorem l5Event (es : List Event) (s : List Entry) (a b : List UInt8) : Con P0 120 [eRoom ⟨es⟩, eEntryS s, .s a, .s b] (.t (slotT (slotE es s (a, b)))) [] := by
  refine Con.intro (fn := Tryz.f120) [.cell 8 42, .tmp 9] (fun i => if i = 1 then (7, []) else (0, [])) mixed (by kernel_rfl) rfl (by decide) rfl (by rfl) (by kernel_rfl) ?_
  simp -implicitDefEqProofs (maxSteps := 2000000) only [push_cast, Nat.reduceEqDiff, Nat.reduceLT, Nat.reduceLeDiff, Nat.reduceAdd, Nat.reduceMul, Nat.reduceSub, Nat.reduceBEq, ↓reduceIte, reduceCtorEq, eRoom]
  refine CallV.t (l4Find s a b) (.inl rfl) ?_
  simp -implicitDefEqProofs (maxSteps := 2000000) only [push_cast, Nat.reduceEqDiff, Nat.reduceLT, Nat.reduceLeDiff, Nat.reduceAdd, Nat.reduceMul, Nat.reduceSub, Nat.reduceBEq, ↓reduceIte, reduceCtorEq, eRoom]
  refine CallV.t (l2At es (findId (a, b) s)) (.inl rfl) ?_
  simp -implicitDefEqProofs (maxSteps := 2000000) only [push_cast, Nat.reduceEqDiff, Nat.reduceLT, Nat.reduceLeDiff, Nat.reduceAdd, Nat.reduceMul, Nat.reduceSub, Nat.reduceBEq, ↓reduceIte, reduceCtorEq, eRoom]
  unfold slotE
  cases hp : posOf (findId (a, b) s) es with
  | none =>
    have hat : atI es (findId (a, b) s) = -1 := by unfold atI; rw [hp]
    rw [hat, if_pos (by omega)]
    simp -implicitDefEqProofs (maxSteps := 2000000) only [push_cast, Nat.reduceEqDiff, Nat.reduceLT, Nat.reduceLeDiff, Nat.reduceAdd, Nat.reduceMul, Nat.reduceSub, Nat.reduceBEq, ↓reduceIte, reduceCtorEq, eRoom, slotT]
    rfl
  | some j =>
    have hat : atI es (findId (a, b) s) = j := by unfold atI; rw [hp]
    have hj := posOf_lt hp
    rw [hat, if_neg (by omega)]
    simp -implicitDefEqProofs (maxSteps := 2000000) only [push_cast, Nat.reduceEqDiff, Nat.reduceLT, Nat.reduceLeDiff, Nat.reduceAdd, Nat.reduceMul, Nat.reduceSub, Nat.reduceBEq, ↓reduceIte, reduceCtorEq, eRoom, slotT, eEvent_ones]
    refine ⟨by omega, fun e he => ⟨rfl, ?_⟩⟩
    rw [Int.toNat_natCast] at he
    rw [he]
theorem judgeAt (es : List Event) (s : List Entry) (x : Event) (a b : List UInt8) (hv : Valid es) (hf : fitsB es s = true) : Con P0 183 [jT es s x, .s a, .s b] (.t (slotP (slotE es s (a, b)))) [] := by
  refine Con.intro (fn := Tryz.f183) [.tmp 6] (fun i => if i = 4 then (14, []) else (0, [])) mixed (by kernel_rfl) rfl (by decide) rfl (by rfl) (by kernel_rfl) ?_
  simp -implicitDefEqProofs (maxSteps := 2000000) only [push_cast, Nat.reduceEqDiff, Nat.reduceLT, Nat.reduceLeDiff, Nat.reduceAdd, Nat.reduceMul, Nat.reduceSub, Nat.reduceBEq, ↓reduceIte, reduceCtorEq, jT, liveT]
  have hk : T.ag [T.s a, T.s b] = eK (a, b) := rfl
  rw [hk]
  refine look_assoc (ev := T.s) eK_inj (live_nodup s) (fun p _ => of_eq_true eK_key) (fun id hid => ?_) (fun hid => ?_)
  · obtain ⟨j, e, hp, he, hs⟩ := slot_some hf hid
    have hj := posOf_lt hp
    simp -implicitDefEqProofs (maxSteps := 2000000) only [push_cast, Nat.reduceEqDiff, Nat.reduceLT, Nat.reduceLeDiff, Nat.reduceAdd, Nat.reduceMul, Nat.reduceSub, Nat.reduceBEq, ↓reduceIte, reduceCtorEq, jT, gT]
    refine gLook rfl (fun j' hj' => ?_) (fun hj' => by rw [hp] at hj'; cases hj')
    rw [hp] at hj'; cases hj'
    simp -implicitDefEqProofs (maxSteps := 2000000) only [push_cast, Nat.reduceEqDiff, Nat.reduceLT, Nat.reduceLeDiff, Nat.reduceAdd, Nat.reduceMul, Nat.reduceSub, Nat.reduceBEq, ↓reduceIte, reduceCtorEq, jT, gT]
    refine ⟨by omega, fun e' he' => ?_⟩
    rw [Int.toNat_natCast, he] at he'
    cases he'
    rw [hs]
    rfl
  · simp -implicitDefEqProofs (maxSteps := 2000000) only [push_cast, Nat.reduceEqDiff, Nat.reduceLT, Nat.reduceLeDiff, Nat.reduceAdd, Nat.reduceMul, Nat.reduceSub, Nat.reduceBEq, ↓reduceIte, reduceCtorEq, jT, gT]
    rw [slot_none hv hf hid]
    rfl
theorem l5Level (es : List Event) (s : List Entry) (u : List UInt8) : Con P0 114 [eRoom ⟨es⟩, eEntryS s, .s u] (.t (.i .i64 (lvl es s u))) [] := by
  refine Con.intro (fn := Tryz.f114) [.tmp 6] (fun _ => (0, [])) mixed (by kernel_rfl) rfl (by decide) rfl (by rfl) (by kernel_rfl) ?_
  simp -implicitDefEqProofs (maxSteps := 2000000) only [push_cast, Nat.reduceEqDiff, Nat.reduceLT, Nat.reduceLeDiff, Nat.reduceAdd, Nat.reduceMul, Nat.reduceSub, Nat.reduceBEq, ↓reduceIte, reduceCtorEq, eRoom]
  refine Callx.closed (l5Event es s sPower []) rfl rfl (.inl rfl) ?_
  unfold lvl
  cases h1 : slotE es s (sPower, []) with
  | some p =>
    simp -implicitDefEqProofs (maxSteps := 2000000) only [push_cast, Nat.reduceEqDiff, Nat.reduceLT, Nat.reduceLeDiff, Nat.reduceAdd, Nat.reduceMul, Nat.reduceSub, Nat.reduceBEq, ↓reduceIte, reduceCtorEq, eRoom, slotT, eEvent]
    refine Callx.closed (l5ByGrants p.grants u) rfl rfl (.inl rfl) ?_
    simp -implicitDefEqProofs (maxSteps := 2000000) only [push_cast, Nat.reduceEqDiff, Nat.reduceLT, Nat.reduceLeDiff, Nat.reduceAdd, Nat.reduceMul, Nat.reduceSub, Nat.reduceBEq, ↓reduceIte, reduceCtorEq, eRoom]
  | none =>
    simp -implicitDefEqProofs (maxSteps := 2000000) only [push_cast, Nat.reduceEqDiff, Nat.reduceLT, Nat.reduceLeDiff, Nat.reduceAdd, Nat.reduceMul, Nat.reduceSub, Nat.reduceBEq, ↓reduceIte, reduceCtorEq, eRoom, slotT, zeroEv, eEvent]
    refine Callx.closed (l5Event es s sCreate []) rfl rfl (.inl rfl) ?_
    cases h2 : slotE es s (sCreate, []) with
    | some c =>
      simp -implicitDefEqProofs (maxSteps := 2000000) only [push_cast, Nat.reduceEqDiff, Nat.reduceLT, Nat.reduceLeDiff, Nat.reduceAdd, Nat.reduceMul, Nat.reduceSub, Nat.reduceBEq, ↓reduceIte, reduceCtorEq, eRoom, slotT, eEvent]
      refine iteI (fun h => ?_) (fun h => ?_)
      · rw [if_pos h]
      · rw [if_neg h]
    | none =>
      simp -implicitDefEqProofs (maxSteps := 2000000) only [push_cast, Nat.reduceEqDiff, Nat.reduceLT, Nat.reduceLeDiff, Nat.reduceAdd, Nat.reduceMul, Nat.reduceSub, Nat.reduceBEq, ↓reduceIte, reduceCtorEq, eRoom, slotT, zeroEv, eEvent]
theorem slot_in {es : List Event} {s : List Entry} {k : SlotK} {e : Event} (h : slotE es s k = some e) : ∃ i : Nat, es[i]? = some e := by
  unfold slotE at h
  split at h
  · exact ⟨_, h⟩
  · cases h
theorem slot_is {es : List Event} {s : List Entry} {k : SlotK} {e : Event} (hv : Valid es) (hf : fitsB es s = true) (h : slotE es s k = some e) : e.typ = k.1 ∧ e.key = k.2 := by
  obtain ⟨hs, hx⟩ := fits_of hf
  obtain ⟨ho1, ho2, ho3⟩ := stateOk_ord hs
  have hl := live_map (inOrd_nodup ho1)
  rcases findId_get (k := k) ho3 with ⟨h1, h2⟩ | ⟨h1, h2⟩
  · unfold slotE at h
    rw [h2, pos_nil hv] at h
    cases h
  · have := aget_in h1
    obtain ⟨x, hxs, he⟩ := List.mem_map.1 this
    have hfx := hx x hxs
    simp only [Prod.mk.injEq] at he
    unfold fitE at hfx
    unfold slotE at h
    rw [he.2] at hfx
    cases hp : posOf (findId k s) es with
    | none => rw [hp] at h; cases h
    | some j =>
      rw [hp] at h hfx
      dsimp only at h hfx
      rw [h] at hfx
      simp only [Bool.and_eq_true, decide_eq_true_eq] at hfx
      rw [← he.1]
      exact ⟨hfx.1.2, hfx.2⟩
theorem pow_ord {es : List Event} {s : List Entry} {k : List UInt8} {e : Event} (hv : Valid es) (hf : fitsB es s = true) (h : slotE es s (sPower, k) = some e) : GOrd e.grants := by
  obtain ⟨i, hi⟩ := slot_in h
  have ht := (slot_is hv hf h).1
  have hc := evOk_content (hv.good hi).ok
  unfold contentB at hc
  simp only at ht
  rw [ht, if_neg (by decide), if_neg (by decide), if_neg (by decide), if_pos rfl] at hc
  simp only [Bool.and_eq_true] at hc
  have hg := hc.2
  unfold grantsB at hg
  simp only [Bool.and_eq_true] at hg
  exact gOrd_of (@of_decide_eq_true _ (Classical.propDecidable _) hg.2.2)
theorem judgeLevel (es : List Event) (s : List Entry) (x : Event) (u : List UInt8) (hv : Valid es) (hf : fitsB es s = true) (hB : Bd.B ≤ 2147483648) : Con P0 113 [jT es s x, .s u] (.t (.i .i64 (lvl es s u))) [] := by
  refine Con.intro (fn := Tryz.f113) [.tmp 4] (fun _ => (0, [])) mixed (by kernel_rfl) rfl (by decide) rfl (by rfl) (by kernel_rfl) ?_
  simp -implicitDefEqProofs (maxSteps := 2000000) only [push_cast, Nat.reduceEqDiff, Nat.reduceLT, Nat.reduceLeDiff, Nat.reduceAdd, Nat.reduceMul, Nat.reduceSub, Nat.reduceBEq, ↓reduceIte, reduceCtorEq, jT, liveT, gT]
  refine Callx.closed (judgeAt es s x sPower [] hv hf) rfl rfl (.inl rfl) ?_
  unfold lvl
  cases h1 : slotE es s (sPower, []) with
  | some p =>
    simp -implicitDefEqProofs (maxSteps := 2000000) only [push_cast, Nat.reduceEqDiff, Nat.reduceLT, Nat.reduceLeDiff, Nat.reduceAdd, Nat.reduceMul, Nat.reduceSub, Nat.reduceBEq, ↓reduceIte, reduceCtorEq, slotP, gT]
    refine Callx.closed (implLevelBy p u (pow_ord hv hf h1) hB) rfl rfl (.inl rfl) ?_
    simp -implicitDefEqProofs (maxSteps := 2000000) only [push_cast, Nat.reduceEqDiff, Nat.reduceLT, Nat.reduceLeDiff, Nat.reduceAdd, Nat.reduceMul, Nat.reduceSub, Nat.reduceBEq, ↓reduceIte, reduceCtorEq, slotP, gT]
  | none =>
    simp -implicitDefEqProofs (maxSteps := 2000000) only [push_cast, Nat.reduceEqDiff, Nat.reduceLT, Nat.reduceLeDiff, Nat.reduceAdd, Nat.reduceMul, Nat.reduceSub, Nat.reduceBEq, ↓reduceIte, reduceCtorEq, slotP, gT]
    refine Callx.closed (judgeAt es s x sCreate [] hv hf) rfl rfl (.inl rfl) ?_
    cases h2 : slotE es s (sCreate, []) with
    | some c =>
      simp -implicitDefEqProofs (maxSteps := 2000000) only [push_cast, Nat.reduceEqDiff, Nat.reduceLT, Nat.reduceLeDiff, Nat.reduceAdd, Nat.reduceMul, Nat.reduceSub, Nat.reduceBEq, ↓reduceIte, reduceCtorEq, slotP, gT, eEvent]
      refine iteI (fun h => ?_) (fun h => ?_)
      · rw [if_pos h]
      · rw [if_neg h]
    | none =>
      simp -implicitDefEqProofs (maxSteps := 2000000) only [push_cast, Nat.reduceEqDiff, Nat.reduceLT, Nat.reduceLeDiff, Nat.reduceAdd, Nat.reduceMul, Nat.reduceSub, Nat.reduceBEq, ↓reduceIte, reduceCtorEq, slotP, gT]
end Go.Proofs.YtmgdkkhnjkepiaaGreat.BX
namespace Go.Proofs.YtmgdkkhnjkepiaaGreat.BX
set_option linter.unusedSectionVars false
set_option linter.unusedSimpArgs false
set_option linter.unusedVariables false
open Go Go.RowKit
set_option maxRecDepth 20000
set_option maxHeartbeats 400000
def sAct : List UInt8 := [97, 99, 116]
def sKick : List UInt8 := [107, 105, 99, 107]
def sState : List UInt8 := [115, 116, 97, 116, 101]
def has {α : Type} (o : Option α) : Bool := o.isSome
def oEv : Option Event → Event
  | some e => e
  | none => zeroEv
theorem slotT_u (o : Option Event) : slotT o = .tp [eEvent (oEv o), .b (has o)] := by cases o <;> rfl
def gLv : Option Grant → Int
  | some g => g.level
  | none => 0
theorem grT_u (o : Option Grant) : grT o = .tp [.i .i64 (gLv o), .b (has o)] := by cases o <;> rfl
def thing (es : List Event) (s : List Entry) (nm : List UInt8) : Int :=
  if has (slotE es s (sPower, [])) = true ∧ has (grantL (oEv (slotE es s (sPower, []))).grants (42 :: nm)) = true then gLv (grantL (oEv (slotE es s (sPower, []))).grants (42 :: nm))
  else if nm = sBan ∨ nm = sKick ∨ (nm = sState ∧ has (slotE es s (sPower, [])) = true) then 50 else 0
def memb (es : List Event) (s : List Entry) (u : List UInt8) : List UInt8 := if has (slotE es s (sMember, u)) = true then (oEv (slotE es s (sMember, u))).value else sLeave
def joinC (es : List Event) (s : List Entry) (x : Event) : Int :=
  if ¬ x.sender = x.key then 3 else if memb es s x.key = sBan then 4
  else if (memb es s x.key = sJoin ∨ memb es s x.key = sInvite) ∨ (has (slotE es s (sRules, [])) = true ∧ (oEv (slotE es s (sRules, []))).value = sPublic) ∨ (x.sender = (oEv (slotE es s (sCreate, []))).sender ∧ ¬ has (slotE es s (sMember, x.key)) = true) then 0 else 5
def memC (es : List Event) (s : List Entry) (x : Event) : Int :=
  if x.value = sInvite then (if memb es s x.key = sJoin ∨ memb es s x.key = sBan then 7 else if lvl es s x.sender < thing es s sInvite then 8 else 0)
  else if (x.value = sBan ∨ memb es s x.key = sBan) ∧ lvl es s x.sender < thing es s sBan then 8
  else if x.value = sLeave ∧ lvl es s x.sender < thing es s sKick then 8
  else if lvl es s x.sender ≤ lvl es s x.key then 9 else 0
def badG (A B : Option Grant) (snd : List UInt8) (own : Int) (n : List UInt8) : Prop :=
  ¬ (has A = has B ∧ gLv A = gLv B) ∧ ((has A = true ∧ own < gLv A) ∨ (has B = true ∧ own < gLv B) ∨ (isW n = true ∧ ¬ n = snd ∧ has A = true ∧ own ≤ gLv A))
def badN (old now : List Grant) (snd : List UInt8) (own : Int) (n : List UInt8) : Prop := badG (grantL old n) (grantL now n) snd own n
def namesL (a b : List Grant) : List (List UInt8) := a.map (·.name) ++ b.map (·.name)
open Classical in
noncomputable def powOk (old now : List Grant) (snd : List UInt8) (own : Int) : Bool := decide (∀ n ∈ namesL old now, ¬ badN old now snd own n)
def needLv (es : List Event) (s : List Entry) (x : Event) : Int :=
  if has (slotE es s (sPower, [])) = true ∧ has (grantL (oEv (slotE es s (sPower, []))).grants (35 :: x.typ)) = true then gLv (grantL (oEv (slotE es s (sPower, []))).grants (35 :: x.typ))
  else if x.isState = true then thing es s sState else thing es s sAct
noncomputable def otherC (es : List Event) (s : List Entry) (x : Event) : Int :=
  if lvl es s x.sender < needLv es s x then 8
  else if x.isState = true ∧ ¬ x.key = [] ∧ x.key[0]? = some 64 ∧ ¬ x.key = x.sender then 11
  else if x.typ = sPower ∧ has (slotE es s (sPower, [])) = true ∧ ¬ powOk (oEv (slotE es s (sPower, []))).grants x.grants x.sender (lvl es s x.sender) = true then 12 else 0
noncomputable def allowC (es : List Event) (s : List Entry) (x : Event) : Int :=
  if x.typ = sCreate then (if has (slotE es s (sCreate, [])) = true then 1 else 0)
  else if ¬ has (slotE es s (sCreate, [])) = true then 2
  else if x.typ = sMember ∧ x.value = sJoin then joinC es s x
  else if x.typ = sMember ∧ x.value = sLeave ∧ x.sender = x.key then (if memb es s x.key = sJoin ∨ memb es s x.key = sInvite then 0 else 10)
  else if ¬ memb es s x.sender = sJoin then 6
  else if x.typ = sMember then memC es s x else otherC es s x
variable [Bd]
theorem l5EventU (es : List Event) (s : List Entry) (a b : List UInt8) : Con P0 120 [eRoom ⟨es⟩, eEntryS s, .s a, .s b] (.t (.tp [eEvent (oEv (slotE es s (a, b))), .b (has (slotE es s (a, b)))])) [] := by
  rw [← slotT_u]
  exact l5Event es s a b
theorem l5GrantU (gs : List Grant) (u : List UInt8) : Con P0 125 [eGrantS gs, .s u] (.t (.tp [.i .i64 (gLv (grantL gs u)), .b (has (grantL gs u))])) [] := by
  rw [← grT_u]
  exact l5Grant gs u
theorem l5Thing (es : List Event) (s : List Entry) (nm : List UInt8) (hn : nm.length < 1000) : Con P0 124 [eRoom ⟨es⟩, eEntryS s, .s nm] (.t (.i .i64 (thing es s nm))) [] := by
  refine Con.intro (fn := Tryz.f124) [.tmp 6] (fun _ => (0, [])) mixed (by kernel_rfl) rfl (by decide) rfl (by rfl) (by kernel_rfl) ?_
  simp -implicitDefEqProofs (maxSteps := 2000000) only [push_cast, Nat.reduceEqDiff, Nat.reduceLT, Nat.reduceLeDiff, Nat.reduceAdd, Nat.reduceMul, Nat.reduceSub, Nat.reduceBEq, ↓reduceIte, reduceCtorEq, eRoom]
  have := Bd.lo
  refine Callx.closed (l5EventU es s sPower []) rfl rfl (.inl rfl) ?_
  unfold thing sBan sKick sState
  generalize slotE es s (sPower, []) = p
  simp -implicitDefEqProofs (maxSteps := 2000000) only [push_cast, Nat.reduceEqDiff, Nat.reduceLT, Nat.reduceLeDiff, Nat.reduceAdd, Nat.reduceMul, Nat.reduceSub, Nat.reduceBEq, ↓reduceIte, reduceCtorEq, eRoom, eEvent]
  refine iteI (fun h1 => ⟨by omega, ?_⟩) (fun h1 => ?_)
  · refine Callx.closed (l5GrantU (oEv p).grants (42 :: nm)) rfl rfl (.inl rfl) ?_
    simp -implicitDefEqProofs (maxSteps := 2000000) only [push_cast, Nat.reduceEqDiff, Nat.reduceLT, Nat.reduceLeDiff, Nat.reduceAdd, Nat.reduceMul, Nat.reduceSub, Nat.reduceBEq, ↓reduceIte, reduceCtorEq, eRoom, eEvent]
    (repeat' (refine iteI (fun _ => ?_) (fun _ => ?_))) <;> simp_all
  · (repeat' (refine iteI (fun _ => ?_) (fun _ => ?_))) <;> simp_all
theorem l5Membership (es : List Event) (s : List Entry) (u : List UInt8) : Con P0 122 [eRoom ⟨es⟩, eEntryS s, .s u] (.t (.s (memb es s u))) [] := by
  refine Con.intro (fn := Tryz.f122) [.tmp 6] (fun _ => (0, [])) mixed (by kernel_rfl) rfl (by decide) rfl (by rfl) (by kernel_rfl) ?_
  simp -implicitDefEqProofs (maxSteps := 2000000) only [push_cast, Nat.reduceEqDiff, Nat.reduceLT, Nat.reduceLeDiff, Nat.reduceAdd, Nat.reduceMul, Nat.reduceSub, Nat.reduceBEq, ↓reduceIte, reduceCtorEq, eRoom]
  refine Callx.closed (l5EventU es s sMember u) rfl rfl (.inl rfl) ?_
  unfold memb sLeave
  simp -implicitDefEqProofs (maxSteps := 2000000) only [push_cast, Nat.reduceEqDiff, Nat.reduceLT, Nat.reduceLeDiff, Nat.reduceAdd, Nat.reduceMul, Nat.reduceSub, Nat.reduceBEq, ↓reduceIte, reduceCtorEq, eRoom, eEvent]
  (repeat' (refine iteI (fun _ => ?_) (fun _ => ?_))) <;> simp_all
theorem l5Join (es : List Event) (s : List Entry) (x : Event) : Con P0 121 [eRoom ⟨es⟩, eEntryS s, eEvent x] (.t (.i .i64 (joinC es s x))) [] := by
  refine Con.intro (fn := Tryz.f121) [.tmp 6] (fun _ => (0, [])) mixed (by kernel_rfl) rfl (by decide) rfl (by rfl) (by kernel_rfl) ?_
  simp -implicitDefEqProofs (maxSteps := 2000000) only [push_cast, Nat.reduceEqDiff, Nat.reduceLT, Nat.reduceLeDiff, Nat.reduceAdd, Nat.reduceMul, Nat.reduceSub, Nat.reduceBEq, ↓reduceIte, reduceCtorEq, eRoom, eEvent]
  refine Callx.closed (l5Membership es s x.key) rfl rfl (.inl rfl) ?_
  simp -implicitDefEqProofs (maxSteps := 2000000) only [push_cast, Nat.reduceEqDiff, Nat.reduceLT, Nat.reduceLeDiff, Nat.reduceAdd, Nat.reduceMul, Nat.reduceSub, Nat.reduceBEq, ↓reduceIte, reduceCtorEq, eRoom, eEvent]
  unfold joinC sBan sJoin sInvite sPublic
  refine iteI (fun h1 => by rw [if_pos h1]) (fun h1 => ?_)
  rw [if_neg h1]
  refine iteI (fun h2 => by rw [if_pos h2]) (fun h2 => ?_)
  rw [if_neg h2]
  refine Callx.closed (l5EventU es s sRules []) rfl rfl (.inl rfl) ?_
  simp -implicitDefEqProofs (maxSteps := 2000000) only [push_cast, Nat.reduceEqDiff, Nat.reduceLT, Nat.reduceLeDiff, Nat.reduceAdd, Nat.reduceMul, Nat.reduceSub, Nat.reduceBEq, ↓reduceIte, reduceCtorEq, eRoom, eEvent]
  refine Callx.closed (l5EventU es s sCreate []) rfl rfl (.inl rfl) ?_
  simp -implicitDefEqProofs (maxSteps := 2000000) only [push_cast, Nat.reduceEqDiff, Nat.reduceLT, Nat.reduceLeDiff, Nat.reduceAdd, Nat.reduceMul, Nat.reduceSub, Nat.reduceBEq, ↓reduceIte, reduceCtorEq, eRoom, eEvent]
  refine Callx.closed (l5EventU es s sMember x.key) rfl rfl (.inl rfl) ?_
  simp -implicitDefEqProofs (maxSteps := 2000000) only [push_cast, Nat.reduceEqDiff, Nat.reduceLT, Nat.reduceLeDiff, Nat.reduceAdd, Nat.reduceMul, Nat.reduceSub, Nat.reduceBEq, ↓reduceIte, reduceCtorEq, eRoom, eEvent]
  clear h1 h2
  (repeat' (refine iteI (fun _ => ?_) (fun _ => ?_))) <;> simp_all
theorem l5Member (es : List Event) (s : List Entry) (x : Event) : Con P0 123 [eRoom ⟨es⟩, eEntryS s, eEvent x] (.t (.i .i64 (memC es s x))) [] := by
  refine Con.intro (fn := Tryz.f123) [.tmp 6] (fun _ => (0, [])) mixed (by kernel_rfl) rfl (by decide) rfl (by rfl) (by kernel_rfl) ?_
  simp -implicitDefEqProofs (maxSteps := 2000000) only [push_cast, Nat.reduceEqDiff, Nat.reduceLT, Nat.reduceLeDiff, Nat.reduceAdd, Nat.reduceMul, Nat.reduceSub, Nat.reduceBEq, ↓reduceIte, reduceCtorEq, eRoom, eEvent]
  refine Callx.closed (l5Membership es s x.key) rfl rfl (.inl rfl) ?_
  simp -implicitDefEqProofs (maxSteps := 2000000) only [push_cast, Nat.reduceEqDiff, Nat.reduceLT, Nat.reduceLeDiff, Nat.reduceAdd, Nat.reduceMul, Nat.reduceSub, Nat.reduceBEq, ↓reduceIte, reduceCtorEq, eRoom, eEvent]
  refine Callx.closed (l5Level es s x.sender) rfl rfl (.inl rfl) ?_
  simp -implicitDefEqProofs (maxSteps := 2000000) only [push_cast, Nat.reduceEqDiff, Nat.reduceLT, Nat.reduceLeDiff, Nat.reduceAdd, Nat.reduceMul, Nat.reduceSub, Nat.reduceBEq, ↓reduceIte, reduceCtorEq, eRoom, eEvent]
  obtain ⟨R, hR⟩ : ∃ R, memC es s x = R := ⟨_, rfl⟩
  rw [hR]
  refine iteI (fun h1 => ?_) (fun h1 => ?_)
  · refine iteI (fun h2 => ?_) (fun h2 => iteI (fun h3 => ?_) (fun h3 => ?_))
    · (repeat' (refine iteI (fun _ => ?_) (fun _ => ?_))) <;> (subst hR; first | (simp_all [memC, sBan, sInvite, sLeave, sJoin, sKick]; done) | (simp_all [memC, sBan, sInvite, sLeave, sJoin, sKick] <;> (repeat' split) <;> omega))
    · (repeat' (refine iteI (fun _ => ?_) (fun _ => ?_))) <;> (subst hR; first | (simp_all [memC, sBan, sInvite, sLeave, sJoin, sKick]; done) | (simp_all [memC, sBan, sInvite, sLeave, sJoin, sKick] <;> (repeat' split) <;> omega))
    · refine Callx.closed (l5Thing es s sInvite (by decide)) rfl rfl (.inl rfl) ?_
      simp -implicitDefEqProofs (maxSteps := 2000000) only [push_cast, Nat.reduceEqDiff, Nat.reduceLT, Nat.reduceLeDiff, Nat.reduceAdd, Nat.reduceMul, Nat.reduceSub, Nat.reduceBEq, ↓reduceIte, reduceCtorEq, eRoom, eEvent]
      (repeat' (refine iteI (fun _ => ?_) (fun _ => ?_))) <;> (subst hR; first | (simp_all [memC, sBan, sInvite, sLeave, sJoin, sKick]; done) | (simp_all [memC, sBan, sInvite, sLeave, sJoin, sKick] <;> (repeat' split) <;> omega))
  · refine iteI (fun h2 => ?_) (fun h2 => iteI (fun h3 => ?_) (fun h3 => ?_))
    · refine Callx.closed (l5Thing es s sBan (by decide)) rfl rfl (.inl rfl) ?_
      simp -implicitDefEqProofs (maxSteps := 2000000) only [push_cast, Nat.reduceEqDiff, Nat.reduceLT, Nat.reduceLeDiff, Nat.reduceAdd, Nat.reduceMul, Nat.reduceSub, Nat.reduceBEq, ↓reduceIte, reduceCtorEq, eRoom, eEvent]
      refine iteI (fun h5 => ?_) (fun h5 => ?_)
      · (repeat' (refine iteI (fun _ => ?_) (fun _ => ?_))) <;> (subst hR; first | (simp_all [memC, sBan, sInvite, sLeave, sJoin, sKick]; done) | (simp_all [memC, sBan, sInvite, sLeave, sJoin, sKick] <;> (repeat' split) <;> omega))
      refine iteI (fun h4 => ?_) (fun h4 => ?_)
      · refine Callx.closed (l5Thing es s sKick (by decide)) rfl rfl (.inl rfl) ?_
        simp -implicitDefEqProofs (maxSteps := 2000000) only [push_cast, Nat.reduceEqDiff, Nat.reduceLT, Nat.reduceLeDiff, Nat.reduceAdd, Nat.reduceMul, Nat.reduceSub, Nat.reduceBEq, ↓reduceIte, reduceCtorEq, eRoom, eEvent]
        refine iteI (fun h5 => ?_) (fun h5 => ?_)
        · (repeat' (refine iteI (fun _ => ?_) (fun _ => ?_))) <;> (subst hR; first | (simp_all [memC, sBan, sInvite, sLeave, sJoin, sKick]; done) | (simp_all [memC, sBan, sInvite, sLeave, sJoin, sKick] <;> (repeat' split) <;> omega))
        refine Callx.closed (l5Level es s x.key) rfl rfl (.inl rfl) ?_
        simp -implicitDefEqProofs (maxSteps := 2000000) only [push_cast, Nat.reduceEqDiff, Nat.reduceLT, Nat.reduceLeDiff, Nat.reduceAdd, Nat.reduceMul, Nat.reduceSub, Nat.reduceBEq, ↓reduceIte, reduceCtorEq, eRoom, eEvent]
        (repeat' (refine iteI (fun _ => ?_) (fun _ => ?_))) <;> (subst hR; first | (simp_all [memC, sBan, sInvite, sLeave, sJoin, sKick]; done) | (simp_all [memC, sBan, sInvite, sLeave, sJoin, sKick] <;> (repeat' split) <;> omega))
      · refine Callx.closed (l5Level es s x.key) rfl rfl (.inl rfl) ?_
        simp -implicitDefEqProofs (maxSteps := 2000000) only [push_cast, Nat.reduceEqDiff, Nat.reduceLT, Nat.reduceLeDiff, Nat.reduceAdd, Nat.reduceMul, Nat.reduceSub, Nat.reduceBEq, ↓reduceIte, reduceCtorEq, eRoom, eEvent]
        (repeat' (refine iteI (fun _ => ?_) (fun _ => ?_))) <;> (subst hR; first | (simp_all [memC, sBan, sInvite, sLeave, sJoin, sKick]; done) | (simp_all [memC, sBan, sInvite, sLeave, sJoin, sKick] <;> (repeat' split) <;> omega))
    · refine Callx.closed (l5Thing es s sBan (by decide)) rfl rfl (.inl rfl) ?_
      simp -implicitDefEqProofs (maxSteps := 2000000) only [push_cast, Nat.reduceEqDiff, Nat.reduceLT, Nat.reduceLeDiff, Nat.reduceAdd, Nat.reduceMul, Nat.reduceSub, Nat.reduceBEq, ↓reduceIte, reduceCtorEq, eRoom, eEvent]
      refine iteI (fun h5 => ?_) (fun h5 => ?_)
      · (repeat' (refine iteI (fun _ => ?_) (fun _ => ?_))) <;> (subst hR; first | (simp_all [memC, sBan, sInvite, sLeave, sJoin, sKick]; done) | (simp_all [memC, sBan, sInvite, sLeave, sJoin, sKick] <;> (repeat' split) <;> omega))
      refine iteI (fun h4 => ?_) (fun h4 => ?_)
      · refine Callx.closed (l5Thing es s sKick (by decide)) rfl rfl (.inl rfl) ?_
        simp -implicitDefEqProofs (maxSteps := 2000000) only [push_cast, Nat.reduceEqDiff, Nat.reduceLT, Nat.reduceLeDiff, Nat.reduceAdd, Nat.reduceMul, Nat.reduceSub, Nat.reduceBEq, ↓reduceIte, reduceCtorEq, eRoom, eEvent]
        refine iteI (fun h5 => ?_) (fun h5 => ?_)
        · (repeat' (refine iteI (fun _ => ?_) (fun _ => ?_))) <;> (subst hR; first | (simp_all [memC, sBan, sInvite, sLeave, sJoin, sKick]; done) | (simp_all [memC, sBan, sInvite, sLeave, sJoin, sKick] <;> (repeat' split) <;> omega))
        refine Callx.closed (l5Level es s x.key) rfl rfl (.inl rfl) ?_
        simp -implicitDefEqProofs (maxSteps := 2000000) only [push_cast, Nat.reduceEqDiff, Nat.reduceLT, Nat.reduceLeDiff, Nat.reduceAdd, Nat.reduceMul, Nat.reduceSub, Nat.reduceBEq, ↓reduceIte, reduceCtorEq, eRoom, eEvent]
        (repeat' (refine iteI (fun _ => ?_) (fun _ => ?_))) <;> (subst hR; first | (simp_all [memC, sBan, sInvite, sLeave, sJoin, sKick]; done) | (simp_all [memC, sBan, sInvite, sLeave, sJoin, sKick] <;> (repeat' split) <;> omega))
      · refine Callx.closed (l5Level es s x.key) rfl rfl (.inl rfl) ?_
        simp -implicitDefEqProofs (maxSteps := 2000000) only [push_cast, Nat.reduceEqDiff, Nat.reduceLT, Nat.reduceLeDiff, Nat.reduceAdd, Nat.reduceMul, Nat.reduceSub, Nat.reduceBEq, ↓reduceIte, reduceCtorEq, eRoom, eEvent]
        (repeat' (refine iteI (fun _ => ?_) (fun _ => ?_))) <;> (subst hR; first | (simp_all [memC, sBan, sInvite, sLeave, sJoin, sKick]; done) | (simp_all [memC, sBan, sInvite, sLeave, sJoin, sKick] <;> (repeat' split) <;> omega))
    · refine iteI (fun h4 => ?_) (fun h4 => ?_)
      · refine Callx.closed (l5Thing es s sKick (by decide)) rfl rfl (.inl rfl) ?_
        simp -implicitDefEqProofs (maxSteps := 2000000) only [push_cast, Nat.reduceEqDiff, Nat.reduceLT, Nat.reduceLeDiff, Nat.reduceAdd, Nat.reduceMul, Nat.reduceSub, Nat.reduceBEq, ↓reduceIte, reduceCtorEq, eRoom, eEvent]
        refine iteI (fun h5 => ?_) (fun h5 => ?_)
        · (repeat' (refine iteI (fun _ => ?_) (fun _ => ?_))) <;> (subst hR; first | (simp_all [memC, sBan, sInvite, sLeave, sJoin, sKick]; done) | (simp_all [memC, sBan, sInvite, sLeave, sJoin, sKick] <;> (repeat' split) <;> omega))
        refine Callx.closed (l5Level es s x.key) rfl rfl (.inl rfl) ?_
        simp -implicitDefEqProofs (maxSteps := 2000000) only [push_cast, Nat.reduceEqDiff, Nat.reduceLT, Nat.reduceLeDiff, Nat.reduceAdd, Nat.reduceMul, Nat.reduceSub, Nat.reduceBEq, ↓reduceIte, reduceCtorEq, eRoom, eEvent]
        (repeat' (refine iteI (fun _ => ?_) (fun _ => ?_))) <;> (subst hR; first | (simp_all [memC, sBan, sInvite, sLeave, sJoin, sKick]; done) | (simp_all [memC, sBan, sInvite, sLeave, sJoin, sKick] <;> (repeat' split) <;> omega))
      · refine Callx.closed (l5Level es s x.key) rfl rfl (.inl rfl) ?_
        simp -implicitDefEqProofs (maxSteps := 2000000) only [push_cast, Nat.reduceEqDiff, Nat.reduceLT, Nat.reduceLeDiff, Nat.reduceAdd, Nat.reduceMul, Nat.reduceSub, Nat.reduceBEq, ↓reduceIte, reduceCtorEq, eRoom, eEvent]
        (repeat' (refine iteI (fun _ => ?_) (fun _ => ?_))) <;> (subst hR; first | (simp_all [memC, sBan, sInvite, sLeave, sJoin, sKick]; done) | (simp_all [memC, sBan, sInvite, sLeave, sJoin, sKick] <;> (repeat' split) <;> omega))
theorem l5Names (a b : List Grant) (hB : Bd.B ≤ 2147483648) (hl : a.length + b.length < 1000) : Con P0 189 [eGrantS a, eGrantS b] (.sr 0) [.arr 9 1 (.own .leaf) ((namesL a b).map T.s)] := by
  refine Con.intro (fn := Tryz.f189) [.tmp 4] (fun _ => (0, [])) mixed (by kernel_rfl) rfl (by decide) rfl (by rfl) (by kernel_rfl) ?_
  simp -implicitDefEqProofs (maxSteps := 2000000) only [push_cast, Nat.reduceEqDiff, Nat.reduceLT, Nat.reduceLeDiff, Nat.reduceAdd, Nat.reduceMul, Nat.reduceSub, Nat.reduceBEq, ↓reduceIte, reduceCtorEq]
  have := Bd.lo
  have hhi := Bd.hi
  refine ⟨rfl, by omega, ?_⟩
  refine WL.loop (ι := Nat) (D := (fun _ => (0, []))) (fun i => i ≤ a.length) (fun i => ⟨38, [(0, .t (eGrantS a)), (1, .t (eGrantS b)), (5, .sr 0), (6, .t (.i .i64 i))], [.arr 9 1 (.own .leaf) (((a.take i).map (·.name)).map T.s)]⟩) (fun i => a.length - i) mixed (by kernel_rfl) 0 (by omega) (Keep.wk (ids := [some 0]) ?_) ?_
  · simp only [push_cast, Nat.reduceEqDiff, Nat.reduceLT, Nat.reduceLeDiff, Nat.reduceAdd, Nat.reduceMul, Nat.reduceSub, Nat.reduceBEq, ↓reduceIte, reduceCtorEq, List.take_zero, List.map_nil] <;> trivial
  intro i hi
  simp -implicitDefEqProofs (maxSteps := 2000000) only [push_cast, Nat.reduceEqDiff, Nat.reduceLT, Nat.reduceLeDiff, Nat.reduceAdd, Nat.reduceMul, Nat.reduceSub, Nat.reduceBEq, ↓reduceIte, reduceCtorEq, eGrant]
  intro _
  refine iteI (fun h => ⟨by omega, fun g hg => ?_⟩) (fun h => ?_)
  · rw [Int.toNat_natCast] at hg
    refine ⟨rfl, by omega, rfl, by omega, by rw [List.length_take]; omega, by unfold inI64; omega, i + 1, by omega, by omega, Keep.wk (ids := [some 2]) ?_⟩
    rw [List.take_add_one, hg]
    simp only [push_cast, Nat.reduceEqDiff, Nat.reduceLT, Nat.reduceLeDiff, Nat.reduceAdd, Nat.reduceMul, Nat.reduceSub, Nat.reduceBEq, ↓reduceIte, reduceCtorEq, List.map_append, Option.toList_some, List.map_cons, List.map_nil] <;> trivial
  · have hi : i = a.length := by omega
    subst hi
    refine WL.loop (ι := Nat) (D := (fun _ => (0, []))) (fun i => i ≤ b.length) (fun i => ⟨38, [(1, .t (eGrantS b)), (5, .sr 0), (7, .t (.i .i64 i))], [.arr 9 1 (.own .leaf) ((a.map (·.name) ++ (b.take i).map (·.name)).map T.s)]⟩) (fun i => b.length - i) mixed (by kernel_rfl) 0 (by omega) (Keep.wk (ids := [some 0]) ?_) ?_
    · simp only [push_cast, Nat.reduceEqDiff, Nat.reduceLT, Nat.reduceLeDiff, Nat.reduceAdd, Nat.reduceMul, Nat.reduceSub, Nat.reduceBEq, ↓reduceIte, reduceCtorEq, List.take_zero, List.map_nil, List.append_nil, List.take_length] <;> trivial
    intro i hi
    simp -implicitDefEqProofs (maxSteps := 2000000) only [push_cast, Nat.reduceEqDiff, Nat.reduceLT, Nat.reduceLeDiff, Nat.reduceAdd, Nat.reduceMul, Nat.reduceSub, Nat.reduceBEq, ↓reduceIte, reduceCtorEq, eGrant]
    intro _
    refine iteI (fun h => ⟨by omega, fun g hg => ?_⟩) (fun h => ?_)
    · rw [Int.toNat_natCast] at hg
      refine ⟨rfl, by omega, rfl, by omega, by rw [List.length_take]; omega, by unfold inI64; omega, i + 1, by omega, by omega, Keep.wk (ids := [some 2]) ?_⟩
      rw [List.take_add_one, hg]
      simp only [push_cast, Nat.reduceEqDiff, Nat.reduceLT, Nat.reduceLeDiff, Nat.reduceAdd, Nat.reduceMul, Nat.reduceSub, Nat.reduceBEq, ↓reduceIte, reduceCtorEq, List.map_append, Option.toList_some, List.map_cons, List.map_nil, List.append_assoc] <;> trivial
    · have hi : i = b.length := by omega
      subst hi
      rw [List.take_length]
      exact Close.of [some 0] rfl rfl rfl rfl (by simp only [push_cast, Nat.reduceEqDiff, Nat.reduceLT, Nat.reduceLeDiff, Nat.reduceAdd, Nat.reduceMul, Nat.reduceSub, Nat.reduceBEq, ↓reduceIte, reduceCtorEq, namesL] <;> rfl)
open Classical in
theorem powOk_no {old now : List Grant} {snd : List UInt8} {own : Int} {n : List UInt8} (hn : n ∈ namesL old now) (h : badN old now snd own n) : powOk old now snd own = false := by
  unfold powOk
  exact decide_eq_false fun hh => hh n hn h
open Classical in
theorem powOk_yes {old now : List Grant} {snd : List UInt8} {own : Int} (h : ∀ n ∈ namesL old now, ¬ badN old now snd own n) : powOk old now snd own = true := by
  unfold powOk
  exact decide_eq_true h
theorem l5PowerOk (a b : List Grant) (snd : List UInt8) (own : Int) (hB : Bd.B ≤ 2147483648) (hl : a.length + b.length < 1000) : Con P0 126 [eGrantS a, eGrantS b, .s snd, .i .i64 own] (.t (.b (powOk a b snd own))) [] := by
  refine Con.intro (fn := Tryz.f126) [.tmp 8] (fun _ => (0, [])) mixed (by kernel_rfl) rfl (by decide) rfl (by rfl) (by kernel_rfl) ?_
  simp -implicitDefEqProofs (maxSteps := 2000000) only [push_cast, Nat.reduceEqDiff, Nat.reduceLT, Nat.reduceLeDiff, Nat.reduceAdd, Nat.reduceMul, Nat.reduceSub, Nat.reduceBEq, ↓reduceIte, reduceCtorEq]
  have := Bd.lo
  have hhi := Bd.hi
  refine Callx.closed (l5Names a b hB hl) rfl rfl (.inr ⟨rfl, rfl⟩) ?_
  simp -implicitDefEqProofs (maxSteps := 2000000) only [push_cast, Nat.reduceEqDiff, Nat.reduceLT, Nat.reduceLeDiff, Nat.reduceAdd, Nat.reduceMul, Nat.reduceSub, Nat.reduceBEq, ↓reduceIte, reduceCtorEq]
  have hnl : (namesL a b).length = a.length + b.length := by unfold namesL; rw [List.length_append, List.length_map, List.length_map]
  refine WL.loop (ι := Nat) (D := (fun _ => (0, []))) (fun i => i ≤ (namesL a b).length ∧ ∀ n ∈ (namesL a b).take i, ¬ badN a b snd own n) (fun i => ⟨85, [(0, .t (eGrantS a)), (1, .t (eGrantS b)), (2, .t (.s snd)), (3, .t (.i .i64 own)), (9, .sr 0), (10, .t (.i .i64 i))], [.arr 9 1 (.own .leaf) ((namesL a b).map T.s)]⟩) (fun i => (namesL a b).length - i) mixed (by kernel_rfl) 0 ⟨by omega, by simp⟩ (Keep.wk (ids := [some 0]) ?_) ?_
  · simp only [push_cast, Nat.reduceEqDiff, Nat.reduceLT, Nat.reduceLeDiff, Nat.reduceAdd, Nat.reduceMul, Nat.reduceSub, Nat.reduceBEq, ↓reduceIte, reduceCtorEq] <;> trivial
  rintro i ⟨hi, hc⟩
  simp -implicitDefEqProofs (maxSteps := 2000000) only [push_cast, Nat.reduceEqDiff, Nat.reduceLT, Nat.reduceLeDiff, Nat.reduceAdd, Nat.reduceMul, Nat.reduceSub, Nat.reduceBEq, ↓reduceIte, reduceCtorEq]
  refine fun _ => iteI (fun h => ⟨by omega, by omega, fun n hn => ?_⟩) (fun h => ?_)
  rotate_left
  · rw [List.take_of_length_le (by omega)] at hc
    rw [powOk_yes hc]
  rw [Int.toNat_natCast] at hn
  have hnm := List.mem_of_getElem? hn
  have hts : (namesL a b).take (i + 1) = (namesL a b).take i ++ [n] := by rw [List.take_add_one, hn]; rfl
  have at_i : ∀ {K : List UInt8 → Prop}, K n → (∀ x, (namesL a b)[(i : Int).toNat]? = some x → K x) := fun {K} k x hx => by rw [Int.toNat_natCast, hn] at hx; cases hx; exact k
  obtain ⟨A, hA⟩ : ∃ A, grantL a n = A := ⟨_, rfl⟩
  obtain ⟨B, hBB⟩ : ∃ B, grantL b n = B := ⟨_, rfl⟩
  have no : badG A B snd own n → T.b false = T.b (powOk a b snd own) := fun hb => by rw [powOk_no hnm (by unfold badN; rw [hA, hBB]; exact hb)]
  have yes : ¬ badG A B snd own n → ∀ x ∈ (namesL a b).take (i + 1), ¬ badN a b snd own x := fun hb x hx => by
    rw [hts] at hx
    rcases List.mem_append.1 hx with hx | hx
    · exact hc x hx
    · simp at hx; subst hx; unfold badN; rw [hA, hBB]; exact hb
  obtain ⟨RP, hRP⟩ : ∃ RP, powOk a b snd own = RP := ⟨_, rfl⟩
  rw [hRP] at no ⊢
  obtain ⟨al, hal⟩ : ∃ x, has A = x := ⟨_, rfl⟩
  obtain ⟨bl, hbl⟩ : ∃ x, has B = x := ⟨_, rfl⟩
  obtain ⟨wl, hwl⟩ : ∃ x, isW n = x := ⟨_, rfl⟩
  unfold badG at no yes
  rw [hal, hbl, hwl] at no yes
  refine Callx.closed (l5GrantU a n) rfl rfl (.inl rfl) ?_
  simp -implicitDefEqProofs (maxSteps := 2000000) only [push_cast, Nat.reduceEqDiff, Nat.reduceLT, Nat.reduceLeDiff, Nat.reduceAdd, Nat.reduceMul, Nat.reduceSub, Nat.reduceBEq, ↓reduceIte, reduceCtorEq, hA, hal]
  refine ⟨by omega, by omega, at_i ?_⟩
  refine Callx.closed (l5GrantU b n) rfl rfl (.inl rfl) ?_
  cases al <;> cases bl
  all_goals
    simp -implicitDefEqProofs (maxSteps := 2000000) only [push_cast, Nat.reduceEqDiff, Nat.reduceLT, Nat.reduceLeDiff, Nat.reduceAdd, Nat.reduceMul, Nat.reduceSub, Nat.reduceBEq, ↓reduceIte, reduceCtorEq, hBB, hbl]
    repeat' first
      | refine iteI (fun _ => ?_) (fun _ => ?_)
      | (refine ⟨by omega, by omega, at_i ?_⟩
         refine Callx.closed (l1Word n) rfl rfl (.inl rfl) ?_
         cases wl <;> simp -implicitDefEqProofs (maxSteps := 2000000) only [push_cast, Nat.reduceEqDiff, Nat.reduceLT, Nat.reduceLeDiff, Nat.reduceAdd, Nat.reduceMul, Nat.reduceSub, Nat.reduceBEq, ↓reduceIte, reduceCtorEq, hwl])
      | refine ⟨by omega, by omega, at_i ?_⟩
      | fail
  all_goals first
    | exact no (by simp_all; done)
    | exact no (by simp_all <;> omega)
    | (refine ⟨by unfold inI64; omega, i + 1, ⟨by omega, yes (by first | (simp_all; done) | (simp_all <;> omega))⟩, by omega, Keep.wk (ids := [some 0]) ?_⟩
       simp only [push_cast, Nat.reduceEqDiff, Nat.reduceLT, Nat.reduceLeDiff, Nat.reduceAdd, Nat.reduceMul, Nat.reduceSub, Nat.reduceBEq, ↓reduceIte, reduceCtorEq] <;> trivial)
end Go.Proofs.YtmgdkkhnjkepiaaGreat.BX
namespace Go.Proofs.YtmgdkkhnjkepiaaGreat.BX
set_option linter.unusedSectionVars false
set_option linter.unusedSimpArgs false
set_option linter.unusedVariables false
open Go Go.RowKit
set_option maxRecDepth 20000
set_option maxHeartbeats 400000
theorem evOk_typ {e : Event} (h : evOk e = 0) : e.typ.length ≤ 40 := by
  unfold evOk at h
  split at h
  · cases h
  rename_i h1
  have h1 := (Classical.not_not.1 h1).2.2
  unfold isW at h1
  simp only [Bool.and_eq_true, decide_eq_true_eq] at h1
  omega
variable [Bd]
theorem evOk_grants {e : Event} (h : evOk e = 0) : e.grants.length ≤ 50 := by
  have h := evOk_content h
  unfold contentB at h
  have h0 : ∀ l : List Grant, decide ((l.length : Int) = 0) = true → l.length ≤ 50 := fun l hl => by rw [decide_eq_true_eq] at hl; omega
  have hg : ∀ l : List Grant, grantsB l = true → l.length ≤ 50 := fun l hl => by
    unfold grantsB at hl
    simp only [Bool.and_eq_true, decide_eq_true_eq] at hl
    omega
  split at h
  · simp only [Bool.and_eq_true] at h; exact h0 _ h.1.1.1.2
  split at h
  · simp only [Bool.and_eq_true] at h; exact h0 _ h.1.2
  split at h
  · simp only [Bool.and_eq_true] at h; exact h0 _ h.1.2
  split at h
  · simp only [Bool.and_eq_true] at h; exact hg _ h.2
  · simp only [Bool.and_eq_true] at h; exact h0 _ h.1
omit [Bd] in
theorem c64 (c : UInt8) : ((c.toNat : Int) = 64) = (c = 64) := by
  apply propext
  constructor
  · intro h
    have : c.toNat = 64 := by omega
    exact UInt8.toNat_inj.1 this
  · intro h; subst h; rfl
theorem l5Allowed (es : List Event) (s : List Entry) (x : Event) (hB : Bd.B ≤ 2147483648) (hv : Valid es) (hf : fitsB es s = true) (he : evOk x = 0) : Con P0 63 [eRoom ⟨es⟩, eEntryS s, eEvent x] (.t (.i .i64 (allowC es s x))) [] := by
  refine Con.intro (fn := Tryz.f63) [.tmp 6] (fun _ => (0, [])) mixed (by kernel_rfl) rfl (by decide) rfl (by rfl) (by kernel_rfl) ?_
  simp -implicitDefEqProofs (maxSteps := 2000000) only [push_cast, Nat.reduceEqDiff, Nat.reduceLT, Nat.reduceLeDiff, Nat.reduceAdd, Nat.reduceMul, Nat.reduceSub, Nat.reduceBEq, ↓reduceIte, reduceCtorEq, eRoom, eEvent]
  have := Bd.lo
  obtain ⟨R, hR⟩ : ∃ R, allowC es s x = R := ⟨_, rfl⟩
  rw [hR]
  have hR0 := hR
  have hty : x.typ.length ≤ 40 := evOk_typ he
  obtain ⟨cr, hcr⟩ : ∃ c, has (slotE es s (sCreate, [])) = c := ⟨_, rfl⟩
  unfold allowC at hR
  rw [hcr] at hR
  unfold sCreate sMember sJoin sLeave sInvite at hR
  refine Callx.closed (l5EventU es s sCreate []) rfl rfl (.inl rfl) ?_
  simp -implicitDefEqProofs (maxSteps := 2000000) only [push_cast, Nat.reduceEqDiff, Nat.reduceLT, Nat.reduceLeDiff, Nat.reduceAdd, Nat.reduceMul, Nat.reduceSub, Nat.reduceBEq, ↓reduceIte, reduceCtorEq, eRoom, eEvent, hcr]
  refine iteI (fun h1 => ?_) (fun h1 => ?_)
  · (repeat' (refine iteI (fun _ => ?_) (fun _ => ?_))) <;> (clear hR0; subst hR; simp_all)
  rw [if_neg h1] at hR
  refine iteI (fun h2 => ?_) (fun h2 => ?_)
  · (repeat' (refine iteI (fun _ => ?_) (fun _ => ?_))) <;> (clear hR0; subst hR; simp_all)
  have h2 : cr = true := by simpa using h2
  rw [if_neg (by simp [h2])] at hR
  by_cases hm : x.typ = [109, 101, 109, 98, 101, 114]
  · rw [if_pos hm]
    refine iteI (fun h3 => ?_) (fun h3 => ?_)
    · refine Callx.closed (l5Join es s x) rfl rfl (.inl rfl) ?_
      simp -implicitDefEqProofs (maxSteps := 2000000) only [push_cast, Nat.reduceEqDiff, Nat.reduceLT, Nat.reduceLeDiff, Nat.reduceAdd, Nat.reduceMul, Nat.reduceSub, Nat.reduceBEq, ↓reduceIte, reduceCtorEq, eRoom, eEvent, hcr]
      (repeat' (refine iteI (fun _ => ?_) (fun _ => ?_))) <;> (clear hR0; subst hR; simp_all)
    rw [if_pos hm]
    refine iteI (fun h4 => iteI (fun h5 => ?_) (fun h5 => ?_)) (fun h4 => ?_)
    · refine Callx.closed (l5Membership es s x.key) rfl rfl (.inl rfl) ?_
      simp -implicitDefEqProofs (maxSteps := 2000000) only [push_cast, Nat.reduceEqDiff, Nat.reduceLT, Nat.reduceLeDiff, Nat.reduceAdd, Nat.reduceMul, Nat.reduceSub, Nat.reduceBEq, ↓reduceIte, reduceCtorEq, eRoom, eEvent, hcr]
      (repeat' (refine iteI (fun _ => ?_) (fun _ => ?_))) <;> (clear hR0; subst hR; simp_all)
    · refine Callx.closed (l5Membership es s x.sender) rfl rfl (.inl rfl) ?_
      simp -implicitDefEqProofs (maxSteps := 2000000) only [push_cast, Nat.reduceEqDiff, Nat.reduceLT, Nat.reduceLeDiff, Nat.reduceAdd, Nat.reduceMul, Nat.reduceSub, Nat.reduceBEq, ↓reduceIte, reduceCtorEq, eRoom, eEvent, hcr]
      refine iteI (fun h6 => ?_) (fun h6 => ?_)
      · (repeat' (refine iteI (fun _ => ?_) (fun _ => ?_))) <;> (clear hR0; subst hR; simp_all)
      rw [if_pos hm]
      refine Callx.closed (l5Member es s x) rfl rfl (.inl rfl) ?_
      simp -implicitDefEqProofs (maxSteps := 2000000) only [push_cast, Nat.reduceEqDiff, Nat.reduceLT, Nat.reduceLeDiff, Nat.reduceAdd, Nat.reduceMul, Nat.reduceSub, Nat.reduceBEq, ↓reduceIte, reduceCtorEq, eRoom, eEvent, hcr]
      (repeat' (refine iteI (fun _ => ?_) (fun _ => ?_))) <;> (clear hR0; subst hR; simp_all)
    · refine Callx.closed (l5Membership es s x.sender) rfl rfl (.inl rfl) ?_
      simp -implicitDefEqProofs (maxSteps := 2000000) only [push_cast, Nat.reduceEqDiff, Nat.reduceLT, Nat.reduceLeDiff, Nat.reduceAdd, Nat.reduceMul, Nat.reduceSub, Nat.reduceBEq, ↓reduceIte, reduceCtorEq, eRoom, eEvent, hcr]
      refine iteI (fun h6 => ?_) (fun h6 => ?_)
      · (repeat' (refine iteI (fun _ => ?_) (fun _ => ?_))) <;> (clear hR0; subst hR; simp_all)
      rw [if_pos hm]
      refine Callx.closed (l5Member es s x) rfl rfl (.inl rfl) ?_
      simp -implicitDefEqProofs (maxSteps := 2000000) only [push_cast, Nat.reduceEqDiff, Nat.reduceLT, Nat.reduceLeDiff, Nat.reduceAdd, Nat.reduceMul, Nat.reduceSub, Nat.reduceBEq, ↓reduceIte, reduceCtorEq, eRoom, eEvent, hcr]
      (repeat' (refine iteI (fun _ => ?_) (fun _ => ?_))) <;> (clear hR0; subst hR; simp_all)
  rw [if_neg hm, if_neg hm]
  rw [if_neg (fun h => hm h.1), if_neg (fun h => hm h.1), if_neg hm] at hR
  refine Callx.closed (l5Membership es s x.sender) rfl rfl (.inl rfl) ?_
  simp -implicitDefEqProofs (maxSteps := 2000000) only [push_cast, Nat.reduceEqDiff, Nat.reduceLT, Nat.reduceLeDiff, Nat.reduceAdd, Nat.reduceMul, Nat.reduceSub, Nat.reduceBEq, ↓reduceIte, reduceCtorEq, eRoom, eEvent, hcr]
  refine iteI (fun h6 => ?_) (fun h6 => ?_)
  · (repeat' (refine iteI (fun _ => ?_) (fun _ => ?_))) <;> (clear hR0; subst hR; simp_all)
  rw [if_neg hm]
  rw [if_neg h6] at hR
  refine Callx.closed (l5Level es s x.sender) rfl rfl (.inl rfl) ?_
  simp -implicitDefEqProofs (maxSteps := 2000000) only [push_cast, Nat.reduceEqDiff, Nat.reduceLT, Nat.reduceLeDiff, Nat.reduceAdd, Nat.reduceMul, Nat.reduceSub, Nat.reduceBEq, ↓reduceIte, reduceCtorEq, eRoom, eEvent, hcr]
  refine Callx.closed (l5EventU es s sPower []) rfl rfl (.inl rfl) ?_
  simp -implicitDefEqProofs (maxSteps := 2000000) only [push_cast, Nat.reduceEqDiff, Nat.reduceLT, Nat.reduceLeDiff, Nat.reduceAdd, Nat.reduceMul, Nat.reduceSub, Nat.reduceBEq, ↓reduceIte, reduceCtorEq, eRoom, eEvent, hcr]
  refine Callx.closed (l5Thing es s sAct (by decide)) rfl rfl (.inl rfl) ?_
  simp -implicitDefEqProofs (maxSteps := 2000000) only [push_cast, Nat.reduceEqDiff, Nat.reduceLT, Nat.reduceLeDiff, Nat.reduceAdd, Nat.reduceMul, Nat.reduceSub, Nat.reduceBEq, ↓reduceIte, reduceCtorEq, eRoom, eEvent, hcr]
  have hgl : (oEv (slotE es s (sPower, []))).grants.length + x.grants.length < 1000 := by
    have h1 := evOk_grants he
    have h2 : (oEv (slotE es s (sPower, []))).grants.length ≤ 50 := by
      cases hp : slotE es s (sPower, []) with
      | none => simp [oEv, zeroEv]
      | some p =>
        obtain ⟨i, hi⟩ := slot_in hp
        exact evOk_grants (hv.good hi).ok
    omega
  have hsP : sPower = [112, 111, 119, 101, 114] := rfl
  refine iteI (fun h3 => ?_) (fun h3 => ?_)
  · refine Callx.closed (l5Thing es s sState (by decide)) rfl rfl (.inl rfl) ?_
    simp -implicitDefEqProofs (maxSteps := 2000000) only [push_cast, Nat.reduceEqDiff, Nat.reduceLT, Nat.reduceLeDiff, Nat.reduceAdd, Nat.reduceMul, Nat.reduceSub, Nat.reduceBEq, ↓reduceIte, reduceCtorEq, eRoom, eEvent, hcr]
    refine ⟨by omega, ?_⟩
    refine Callx.closed (l5GrantU (oEv (slotE es s (sPower, []))).grants (35 :: x.typ)) rfl rfl (.inl rfl) ?_
    obtain ⟨pw, hpw⟩ : ∃ c, has (slotE es s (sPower, [])) = c := ⟨_, rfl⟩
    obtain ⟨gr, hgr⟩ : ∃ c, has (grantL (oEv (slotE es s (sPower, []))).grants (35 :: x.typ)) = c := ⟨_, rfl⟩
    obtain ⟨own, hown⟩ : ∃ c, lvl es s x.sender = c := ⟨_, rfl⟩
    unfold otherC needLv sPower at hR
    simp only [← hsP] at hR
    rw [hpw, hgr, hown] at hR
    cases pw <;> cases gr
    all_goals
      simp -implicitDefEqProofs (maxSteps := 2000000) only [push_cast, Nat.reduceEqDiff, Nat.reduceLT, Nat.reduceLeDiff, Nat.reduceAdd, Nat.reduceMul, Nat.reduceSub, Nat.reduceBEq, ↓reduceIte, reduceCtorEq, eRoom, eEvent, hcr, hpw, hgr, hown]
      clear hR0
      repeat' first
        | refine iteI (fun _ => ?_) (fun _ => ?_)
        | (refine Callx.closed (l5PowerOk _ _ _ _ hB hgl) rfl rfl (.inl rfl) ?_
           simp -implicitDefEqProofs (maxSteps := 2000000) only [push_cast, Nat.reduceEqDiff, Nat.reduceLT, Nat.reduceLeDiff, Nat.reduceAdd, Nat.reduceMul, Nat.reduceSub, Nat.reduceBEq, ↓reduceIte, reduceCtorEq, eRoom, eEvent])
        | (refine ⟨by have := List.length_pos_iff.2 (by assumption); omega, fun c hc => ?_⟩
           have hc : x.key[0]? = some c := hc
           simp -implicitDefEqProofs (maxSteps := 2000000) only [push_cast, Nat.reduceEqDiff, Nat.reduceLT, Nat.reduceLeDiff, Nat.reduceAdd, Nat.reduceMul, Nat.reduceSub, Nat.reduceBEq, ↓reduceIte, reduceCtorEq, eRoom, eEvent, hpw, hgr, hown, c64])
        | fail
      all_goals first
        | (subst hR; simp_all; done)
        | (subst hR; simp_all <;> (repeat' split) <;> omega)
        | skip
  · refine ⟨by omega, ?_⟩
    refine Callx.closed (l5GrantU (oEv (slotE es s (sPower, []))).grants (35 :: x.typ)) rfl rfl (.inl rfl) ?_
    obtain ⟨pw, hpw⟩ : ∃ c, has (slotE es s (sPower, [])) = c := ⟨_, rfl⟩
    obtain ⟨gr, hgr⟩ : ∃ c, has (grantL (oEv (slotE es s (sPower, []))).grants (35 :: x.typ)) = c := ⟨_, rfl⟩
    obtain ⟨own, hown⟩ : ∃ c, lvl es s x.sender = c := ⟨_, rfl⟩
    unfold otherC needLv sPower at hR
    simp only [← hsP] at hR
    rw [hpw, hgr, hown] at hR
    cases pw <;> cases gr
    all_goals
      simp -implicitDefEqProofs (maxSteps := 2000000) only [push_cast, Nat.reduceEqDiff, Nat.reduceLT, Nat.reduceLeDiff, Nat.reduceAdd, Nat.reduceMul, Nat.reduceSub, Nat.reduceBEq, ↓reduceIte, reduceCtorEq, eRoom, eEvent, hcr, hpw, hgr, hown]
      clear hR0
      repeat' first
        | refine iteI (fun _ => ?_) (fun _ => ?_)
        | (refine Callx.closed (l5PowerOk _ _ _ _ hB hgl) rfl rfl (.inl rfl) ?_
           simp -implicitDefEqProofs (maxSteps := 2000000) only [push_cast, Nat.reduceEqDiff, Nat.reduceLT, Nat.reduceLeDiff, Nat.reduceAdd, Nat.reduceMul, Nat.reduceSub, Nat.reduceBEq, ↓reduceIte, reduceCtorEq, eRoom, eEvent])
        | (refine ⟨by have := List.length_pos_iff.2 (by assumption); omega, fun c hc => ?_⟩
           have hc : x.key[0]? = some c := hc
           simp -implicitDefEqProofs (maxSteps := 2000000) only [push_cast, Nat.reduceEqDiff, Nat.reduceLT, Nat.reduceLeDiff, Nat.reduceAdd, Nat.reduceMul, Nat.reduceSub, Nat.reduceBEq, ↓reduceIte, reduceCtorEq, eRoom, eEvent, hpw, hgr, hown, c64])
        | fail
      all_goals first
        | (subst hR; simp_all; done)
        | (subst hR; simp_all <;> (repeat' split) <;> omega)
        | skip
end Go.Proofs.YtmgdkkhnjkepiaaGreat.BX
namespace Go.Proofs.YtmgdkkhnjkepiaaGreat.BX
set_option linter.unusedSectionVars false
set_option linter.unusedSimpArgs false
set_option linter.unusedVariables false
open Go Go.RowKit
set_option maxRecDepth 20000
set_option maxHeartbeats 400000
def vdT (o : Option Int) : T := match o with
  | some c => .ag [.b true, .i .i64 c]
  | none => .ag [.b false, .i .i64 0]
def poT (o : Option Event) : T := if has o = true then .po (eEvent (oEv o)) 0 else .np
theorem slotP_u (o : Option Event) : slotP o = poT o := by cases o <;> rfl
variable [Bd]
theorem judgeAtU (es : List Event) (s : List Entry) (x : Event) (a b : List UInt8) (hv : Valid es) (hf : fitsB es s = true) : Con P0 183 [jT es s x, .s a, .s b] (.t (poT (slotE es s (a, b)))) [] := by
  rw [← slotP_u]
  exact judgeAt es s x a b hv hf
theorem says (c : Int) : Con P0 194 [.i .i64 c] (.t (vdT (some c))) [] := by
  refine Con.intro (fn := Tryz.f194) [.cell 2 180] (fun _ => (0, [])) mixed (by kernel_rfl) rfl (by decide) rfl (by rfl) (by kernel_rfl) ?_
  simp -implicitDefEqProofs (maxSteps := 2000000) only [push_cast, Nat.reduceEqDiff, Nat.reduceLT, Nat.reduceLeDiff, Nat.reduceAdd, Nat.reduceMul, Nat.reduceSub, Nat.reduceBEq, ↓reduceIte, reduceCtorEq, vdT]
theorem judgeMember (es : List Event) (s : List Entry) (x : Event) (v : List UInt8) : Con P0 195 [jT es s x, .s v] (.t (.b (decide (x.typ = sMember) && decide (x.value = v)))) [] := by
  refine Con.intro (fn := Tryz.f195) [.tmp 4] (fun _ => (0, [])) mixed (by kernel_rfl) rfl (by decide) rfl (by rfl) (by kernel_rfl) ?_
  simp -implicitDefEqProofs (maxSteps := 2000000) only [push_cast, Nat.reduceEqDiff, Nat.reduceLT, Nat.reduceLeDiff, Nat.reduceAdd, Nat.reduceMul, Nat.reduceSub, Nat.reduceBEq, ↓reduceIte, reduceCtorEq, jT, gT, liveT]
  unfold sMember
  (repeat' (refine iteI (fun _ => ?_) (fun _ => ?_))) <;> simp_all
theorem judgeMembership (es : List Event) (s : List Entry) (x : Event) (u : List UInt8) (hv : Valid es) (hf : fitsB es s = true) : Con P0 196 [jT es s x, .s u] (.t (.s (memb es s u))) [] := by
  refine Con.intro (fn := Tryz.f196) [.tmp 4] (fun _ => (0, [])) mixed (by kernel_rfl) rfl (by decide) rfl (by rfl) (by kernel_rfl) ?_
  simp -implicitDefEqProofs (maxSteps := 2000000) only [push_cast, Nat.reduceEqDiff, Nat.reduceLT, Nat.reduceLeDiff, Nat.reduceAdd, Nat.reduceMul, Nat.reduceSub, Nat.reduceBEq, ↓reduceIte, reduceCtorEq, jT, gT, liveT]
  refine Callx.closed (judgeAtU es s x sMember u hv hf) rfl rfl (.inl rfl) ?_
  unfold memb sLeave poT
  obtain ⟨h, hh⟩ : ∃ h, has (slotE es s (sMember, u)) = h := ⟨_, rfl⟩
  cases h
  all_goals
    simp -implicitDefEqProofs (maxSteps := 2000000) only [push_cast, Nat.reduceEqDiff, Nat.reduceLT, Nat.reduceLeDiff, Nat.reduceAdd, Nat.reduceMul, Nat.reduceSub, Nat.reduceBEq, ↓reduceIte, reduceCtorEq, hh, eEvent]
theorem judgeThing (es : List Event) (s : List Entry) (x : Event) (nm : List UInt8) (hv : Valid es) (hf : fitsB es s = true) (hn : nm.length < 1000) (hB : Bd.B ≤ 2147483648) : Con P0 197 [jT es s x, .s nm] (.t (.i .i64 (thing es s nm))) [] := by
  have := Bd.lo
  have u1 : updK [] (T.s [98, 97, 110]) = [T.s [98, 97, 110]] ∧ updV [] [] (T.s [98, 97, 110]) (T.i .i64 50) = [T.i .i64 50] := upd_assoc (ek := T.s) (ev := T.i .i64) s_inj (k := [98, 97, 110]) (v := 50) (l := [])
  have u2 : updK [T.s [98, 97, 110]] (T.s [107, 105, 99, 107]) = [T.s [98, 97, 110], T.s [107, 105, 99, 107]] ∧ updV [T.s [98, 97, 110]] [T.i .i64 50] (T.s [107, 105, 99, 107]) (T.i .i64 50) = [T.i .i64 50, T.i .i64 50] := upd_assoc (ek := T.s) (ev := T.i .i64) s_inj (k := [107, 105, 99, 107]) (v := 50) (l := [([98, 97, 110], 50)])
  have look : ∀ {K : AV → Prop}, K (.t (.i .i64 (if nm = [98, 97, 110] ∨ nm = [107, 105, 99, 107] then 50 else 0))) → lookM (false, [.str]) (Value.int .i64 0) (T.s nm) false (.own .leaf) [T.s [98, 97, 110], T.s [107, 105, 99, 107]] [T.i .i64 50, T.i .i64 50] K := by
    intro K k
    refine look_assoc (ek := T.s) (ev := T.i .i64) (k := nm) (l := [([98, 97, 110], 50), ([107, 105, 99, 107], 50)]) s_inj (by decide) (fun p _ => by simp [isKey, keyCells, keyCell]) (fun v hv => ?_) (fun hv => ?_)
    · have hg : nm = [98, 97, 110] ∨ nm = [107, 105, 99, 107] := by
        refine Classical.byContradiction fun hh => ?_
        rw [aget_none.2 (by simpa using hh)] at hv
        cases hv
      rw [if_pos hg] at k
      have : v = 50 := by have := aget_in hv; simp at this; rcases this with h | h <;> exact h.2
      rw [this]; exact k
    · have hg := aget_none.1 hv
      rw [if_neg (by simpa using hg)] at k
      exact k
  refine Con.intro (fn := Tryz.f197) [.tmp 4] (fun _ => (0, [])) mixed (by kernel_rfl) rfl (by decide) rfl (by rfl) (by kernel_rfl) ?_
  simp -implicitDefEqProofs (maxSteps := 2000000) only [push_cast, Nat.reduceEqDiff, Nat.reduceLT, Nat.reduceLeDiff, Nat.reduceAdd, Nat.reduceMul, Nat.reduceSub, Nat.reduceBEq, ↓reduceIte, reduceCtorEq, jT, gT, liveT]
  rw [u1.1, u1.2, u2.1, u2.2]
  refine ⟨by simp, by omega, by simp [keyCell], fun _ => by simp; omega, ?_⟩
  refine Callx.closed (judgeAtU es s x sPower [] hv hf) rfl rfl (.inl rfl) ?_
  unfold thing poT
  have hord : ∀ p, slotE es s (sPower, []) = some p → GOrd p.grants := fun p h => pow_ord hv hf h
  unfold sPower at *
  cases hp : slotE es s ([112, 111, 119, 101, 114], []) with
  | none =>
    have hh : has (none : Option Event) = false := rfl
    simp -implicitDefEqProofs (maxSteps := 2000000) only [push_cast, Nat.reduceEqDiff, Nat.reduceLT, Nat.reduceLeDiff, Nat.reduceAdd, Nat.reduceMul, Nat.reduceSub, Nat.reduceBEq, ↓reduceIte, reduceCtorEq, hh, eEvent]
    refine look ?_
    simp -implicitDefEqProofs (maxSteps := 2000000) only [push_cast, Nat.reduceEqDiff, Nat.reduceLT, Nat.reduceLeDiff, Nat.reduceAdd, Nat.reduceMul, Nat.reduceSub, Nat.reduceBEq, ↓reduceIte, reduceCtorEq, hh, eEvent]
    simp [sBan, sKick]
  | some p =>
    have hh : has (some p) = true := rfl
    have hoe : oEv (some p) = p := rfl
    simp -implicitDefEqProofs (maxSteps := 2000000) only [push_cast, Nat.reduceEqDiff, Nat.reduceLT, Nat.reduceLeDiff, Nat.reduceAdd, Nat.reduceMul, Nat.reduceSub, Nat.reduceBEq, ↓reduceIte, reduceCtorEq, hh, hoe]
    refine ⟨by omega, ?_⟩
    have hgo := grantOf p (42 :: nm) (hord p hp) hB
    rw [grT_u] at hgo
    refine Callx.closed hgo rfl rfl (.inl rfl) ?_
    obtain ⟨gg, hgg⟩ : ∃ g, has (grantL p.grants (42 :: nm)) = g := ⟨_, rfl⟩
    cases gg
    all_goals
      simp -implicitDefEqProofs (maxSteps := 2000000) only [push_cast, Nat.reduceEqDiff, Nat.reduceLT, Nat.reduceLeDiff, Nat.reduceAdd, Nat.reduceMul, Nat.reduceSub, Nat.reduceBEq, ↓reduceIte, reduceCtorEq, hh, hoe, hgg]
    refine iteI (fun h => ?_) (fun h => look ?_)
    · simp [sBan, sKick, sState, h]
    · simp -implicitDefEqProofs (maxSteps := 2000000) only [push_cast, Nat.reduceEqDiff, Nat.reduceLT, Nat.reduceLeDiff, Nat.reduceAdd, Nat.reduceMul, Nat.reduceSub, Nat.reduceBEq, ↓reduceIte, reduceCtorEq, hh, hoe, hgg]
      simp [sBan, sKick, sState, h]
def vCreate (es : List Event) (s : List Entry) (x : Event) : Option Int := if x.typ = sCreate then some (if has (slotE es s (sCreate, [])) = true then 1 else 0) else if ¬ has (slotE es s (sCreate, [])) = true then some 2 else none
theorem judgeCreate (es : List Event) (s : List Entry) (x : Event) (hv : Valid es) (hf : fitsB es s = true) : Con P0 132 [jT es s x] (.t (vdT (vCreate es s x))) [] := by
  refine Con.intro (fn := Tryz.f132) [.cell 2 180] (fun _ => (0, [])) mixed (by kernel_rfl) rfl (by decide) rfl (by rfl) (by kernel_rfl) ?_
  simp -implicitDefEqProofs (maxSteps := 2000000) only [push_cast, Nat.reduceEqDiff, Nat.reduceLT, Nat.reduceLeDiff, Nat.reduceAdd, Nat.reduceMul, Nat.reduceSub, Nat.reduceBEq, ↓reduceIte, reduceCtorEq, jT, gT, liveT]
  refine Callx.closed (judgeAtU es s x sCreate [] hv hf) rfl rfl (.inl rfl) ?_
  unfold poT
  obtain ⟨R, hR⟩ : ∃ R, vCreate es s x = R := ⟨_, rfl⟩
  rw [hR]
  unfold vCreate at hR
  obtain ⟨h, hh⟩ : ∃ h, has (slotE es s (sCreate, [])) = h := ⟨_, rfl⟩
  rw [hh] at hR ⊢
  unfold sCreate at hR hh ⊢
  cases h
  all_goals
    simp -implicitDefEqProofs (maxSteps := 2000000) only [push_cast, Nat.reduceEqDiff, Nat.reduceLT, Nat.reduceLeDiff, Nat.reduceAdd, Nat.reduceMul, Nat.reduceSub, Nat.reduceBEq, ↓reduceIte, reduceCtorEq, hh, eEvent]
    repeat' first
      | refine iteI (fun _ => ?_) (fun _ => ?_)
      | (refine Callx.closed (says _) rfl rfl (.inl rfl) ?_
         simp -implicitDefEqProofs (maxSteps := 2000000) only [push_cast, Nat.reduceEqDiff, Nat.reduceLT, Nat.reduceLeDiff, Nat.reduceAdd, Nat.reduceMul, Nat.reduceSub, Nat.reduceBEq, ↓reduceIte, reduceCtorEq, vdT])
      | fail
  all_goals subst hR
  all_goals simp_all [vdT]
end Go.Proofs.YtmgdkkhnjkepiaaGreat.BX
namespace Go.Proofs.YtmgdkkhnjkepiaaGreat.BX
set_option linter.unusedSectionVars false
set_option linter.unusedSimpArgs false
set_option linter.unusedVariables false
open Go Go.RowKit
set_option maxRecDepth 20000
set_option maxHeartbeats 400000
def vLeave (es : List Event) (s : List Entry) (x : Event) : Option Int := if (x.typ = sMember ∧ x.value = sLeave) ∧ x.sender = x.key then some (if memb es s x.key = sJoin ∨ memb es s x.key = sInvite then 0 else 10) else none
def vInside (es : List Event) (s : List Entry) (x : Event) : Option Int := if memb es s x.sender = sJoin then none else some 6
def vInvite (es : List Event) (s : List Entry) (x : Event) : Option Int := if x.typ = sMember ∧ x.value = sInvite then some (if memb es s x.key = sJoin ∨ memb es s x.key = sBan then 7 else if lvl es s x.sender < thing es s sInvite then 8 else 0) else none
def vPut (es : List Event) (s : List Entry) (x : Event) : Option Int :=
  if x.typ = sMember ∧ (x.value = sBan ∨ x.value = sLeave) then
    some (if (if x.value = sLeave then (memb es s x.key = sBan ∧ lvl es s x.sender < thing es s sBan) ∨ lvl es s x.sender < thing es s sKick else lvl es s x.sender < thing es s sBan) then 8 else if lvl es s x.sender ≤ lvl es s x.key then 9 else 0) else none
def vJoin (es : List Event) (s : List Entry) (x : Event) : Option Int := if x.typ = sMember ∧ x.value = sJoin then some (joinC es s x) else none
variable [Bd]
theorem judgeLeave (es : List Event) (s : List Entry) (x : Event) (hv : Valid es) (hf : fitsB es s = true) : Con P0 134 [jT es s x] (.t (vdT (vLeave es s x))) [] := by
  refine Con.intro (fn := Tryz.f134) [.cell 2 180] (fun _ => (0, [])) mixed (by kernel_rfl) rfl (by decide) rfl (by rfl) (by kernel_rfl) ?_
  simp -implicitDefEqProofs (maxSteps := 2000000) only [push_cast, Nat.reduceEqDiff, Nat.reduceLT, Nat.reduceLeDiff, Nat.reduceAdd, Nat.reduceMul, Nat.reduceSub, Nat.reduceBEq, ↓reduceIte, reduceCtorEq, jT, gT, liveT]
  obtain ⟨R, hR⟩ : ∃ R, vLeave es s x = R := ⟨_, rfl⟩
  rw [hR]
  unfold vLeave sMember sLeave sJoin sInvite at hR
  refine Callx.closed (judgeMember es s x sLeave) rfl rfl (.inl rfl) ?_
  unfold sMember sLeave
  simp -implicitDefEqProofs (maxSteps := 2000000) only [push_cast, Nat.reduceEqDiff, Nat.reduceLT, Nat.reduceLeDiff, Nat.reduceAdd, Nat.reduceMul, Nat.reduceSub, Nat.reduceBEq, ↓reduceIte, reduceCtorEq]
  repeat' first
    | refine iteI (fun _ => ?_) (fun _ => ?_)
    | (refine Callx.closed (says _) rfl rfl (.inl rfl) ?_
       simp -implicitDefEqProofs (maxSteps := 2000000) only [push_cast, Nat.reduceEqDiff, Nat.reduceLT, Nat.reduceLeDiff, Nat.reduceAdd, Nat.reduceMul, Nat.reduceSub, Nat.reduceBEq, ↓reduceIte, reduceCtorEq, vdT])
    | fail
  all_goals first
    | refine Callx.closed (judgeMembership es s x x.key hv hf) rfl rfl (.inl rfl) ?_
    | skip
  all_goals try simp -implicitDefEqProofs (maxSteps := 2000000) only [push_cast, Nat.reduceEqDiff, Nat.reduceLT, Nat.reduceLeDiff, Nat.reduceAdd, Nat.reduceMul, Nat.reduceSub, Nat.reduceBEq, ↓reduceIte, reduceCtorEq]
  repeat' first
    | refine iteI (fun _ => ?_) (fun _ => ?_)
    | (refine Callx.closed (says _) rfl rfl (.inl rfl) ?_
       simp -implicitDefEqProofs (maxSteps := 2000000) only [push_cast, Nat.reduceEqDiff, Nat.reduceLT, Nat.reduceLeDiff, Nat.reduceAdd, Nat.reduceMul, Nat.reduceSub, Nat.reduceBEq, ↓reduceIte, reduceCtorEq, vdT])
    | fail
  all_goals first
    | (subst hR; simp_all [vdT]; done)
    | (subst hR; simp_all [vdT] <;> (repeat' split) <;> (first | omega | (simp_all; done) | skip))
theorem judgeInside (es : List Event) (s : List Entry) (x : Event) (hv : Valid es) (hf : fitsB es s = true) : Con P0 135 [jT es s x] (.t (vdT (vInside es s x))) [] := by
  refine Con.intro (fn := Tryz.f135) [.cell 2 180] (fun _ => (0, [])) mixed (by kernel_rfl) rfl (by decide) rfl (by rfl) (by kernel_rfl) ?_
  simp -implicitDefEqProofs (maxSteps := 2000000) only [push_cast, Nat.reduceEqDiff, Nat.reduceLT, Nat.reduceLeDiff, Nat.reduceAdd, Nat.reduceMul, Nat.reduceSub, Nat.reduceBEq, ↓reduceIte, reduceCtorEq, jT, gT, liveT]
  obtain ⟨R, hR⟩ : ∃ R, vInside es s x = R := ⟨_, rfl⟩
  rw [hR]
  unfold vInside sJoin at hR
  refine Callx.closed (judgeMembership es s x x.sender hv hf) rfl rfl (.inl rfl) ?_
  simp -implicitDefEqProofs (maxSteps := 2000000) only [push_cast, Nat.reduceEqDiff, Nat.reduceLT, Nat.reduceLeDiff, Nat.reduceAdd, Nat.reduceMul, Nat.reduceSub, Nat.reduceBEq, ↓reduceIte, reduceCtorEq]
  repeat' first
    | refine iteI (fun _ => ?_) (fun _ => ?_)
    | (refine Callx.closed (says _) rfl rfl (.inl rfl) ?_
       simp -implicitDefEqProofs (maxSteps := 2000000) only [push_cast, Nat.reduceEqDiff, Nat.reduceLT, Nat.reduceLeDiff, Nat.reduceAdd, Nat.reduceMul, Nat.reduceSub, Nat.reduceBEq, ↓reduceIte, reduceCtorEq, vdT])
    | fail
  all_goals first
    | (subst hR; simp_all [vdT]; done)
    | (subst hR; simp_all [vdT] <;> (repeat' split) <;> (first | omega | (simp_all; done) | skip))
theorem judgeInvite (es : List Event) (s : List Entry) (x : Event) (hv : Valid es) (hf : fitsB es s = true) (hB : Bd.B ≤ 2147483648) : Con P0 136 [jT es s x] (.t (vdT (vInvite es s x))) [] := by
  refine Con.intro (fn := Tryz.f136) [.cell 2 180] (fun i => if i = 6 then (9, []) else (0, [])) mixed (by kernel_rfl) rfl (by decide) rfl (by rfl) (by kernel_rfl) ?_
  simp -implicitDefEqProofs (maxSteps := 2000000) only [push_cast, Nat.reduceEqDiff, Nat.reduceLT, Nat.reduceLeDiff, Nat.reduceAdd, Nat.reduceMul, Nat.reduceSub, Nat.reduceBEq, ↓reduceIte, reduceCtorEq, jT, gT, liveT]
  obtain ⟨R, hR⟩ : ∃ R, vInvite es s x = R := ⟨_, rfl⟩
  rw [hR]
  have hsI : sInvite = [105, 110, 118, 105, 116, 101] := rfl
  unfold vInvite sMember sJoin sBan at hR
  refine Callx.closed (judgeMember es s x sInvite) rfl rfl (.inl rfl) ?_
  unfold sMember
  simp -implicitDefEqProofs (maxSteps := 2000000) only [push_cast, Nat.reduceEqDiff, Nat.reduceLT, Nat.reduceLeDiff, Nat.reduceAdd, Nat.reduceMul, Nat.reduceSub, Nat.reduceBEq, ↓reduceIte, reduceCtorEq]
  repeat' first
    | refine iteI (fun _ => ?_) (fun _ => ?_)
    | (refine Callx.closed (says _) rfl rfl (.inl rfl) ?_
       simp -implicitDefEqProofs (maxSteps := 2000000) only [push_cast, Nat.reduceEqDiff, Nat.reduceLT, Nat.reduceLeDiff, Nat.reduceAdd, Nat.reduceMul, Nat.reduceSub, Nat.reduceBEq, ↓reduceIte, reduceCtorEq, vdT])
    | fail
  all_goals first
    | refine Callx.closed (judgeMembership es s x x.key hv hf) rfl rfl (.inl rfl) ?_
    | skip
  all_goals try simp -implicitDefEqProofs (maxSteps := 2000000) only [push_cast, Nat.reduceEqDiff, Nat.reduceLT, Nat.reduceLeDiff, Nat.reduceAdd, Nat.reduceMul, Nat.reduceSub, Nat.reduceBEq, ↓reduceIte, reduceCtorEq]
  repeat' first
    | refine iteI (fun _ => ?_) (fun _ => ?_)
    | (refine Callx.closed (says _) rfl rfl (.inl rfl) ?_
       simp -implicitDefEqProofs (maxSteps := 2000000) only [push_cast, Nat.reduceEqDiff, Nat.reduceLT, Nat.reduceLeDiff, Nat.reduceAdd, Nat.reduceMul, Nat.reduceSub, Nat.reduceBEq, ↓reduceIte, reduceCtorEq, vdT])
    | fail
  all_goals first
    | refine Callx.closed (judgeLevel es s x x.sender hv hf hB) rfl rfl (.inl rfl) ?_
    | refine CallV.t (judgeLevel es s x x.sender hv hf hB) (.inl rfl) ?_
    | skip
  all_goals try simp -implicitDefEqProofs (maxSteps := 2000000) only [push_cast, Nat.reduceEqDiff, Nat.reduceLT, Nat.reduceLeDiff, Nat.reduceAdd, Nat.reduceMul, Nat.reduceSub, Nat.reduceBEq, ↓reduceIte, reduceCtorEq]
  all_goals first
    | refine Callx.closed (judgeThing es s x sInvite hv hf (by decide) hB) rfl rfl (.inl rfl) ?_
    | refine CallV.t (judgeThing es s x sInvite hv hf (by decide) hB) (.inl rfl) ?_
    | skip
  all_goals try simp -implicitDefEqProofs (maxSteps := 2000000) only [push_cast, Nat.reduceEqDiff, Nat.reduceLT, Nat.reduceLeDiff, Nat.reduceAdd, Nat.reduceMul, Nat.reduceSub, Nat.reduceBEq, ↓reduceIte, reduceCtorEq]
  repeat' first
    | refine iteI (fun _ => ?_) (fun _ => ?_)
    | (refine Callx.closed (says _) rfl rfl (.inl rfl) ?_
       simp -implicitDefEqProofs (maxSteps := 2000000) only [push_cast, Nat.reduceEqDiff, Nat.reduceLT, Nat.reduceLeDiff, Nat.reduceAdd, Nat.reduceMul, Nat.reduceSub, Nat.reduceBEq, ↓reduceIte, reduceCtorEq, vdT])
    | fail
  all_goals first
    | (subst hR; simp_all [vdT]; done)
    | (subst hR; simp_all [vdT] <;> (repeat' split) <;> (first | omega | (simp_all; done) | skip))
def isM (x : Event) (v : List UInt8) : Bool := decide (x.typ = sMember) && decide (x.value = v)
theorem isM_t {x : Event} {v : List UInt8} (h : isM x v = true) : x.typ = sMember ∧ x.value = v := by
  unfold isM at h
  simpa using h
theorem isM_f {x : Event} {v : List UInt8} (h : isM x v = false) : ¬ (x.typ = sMember ∧ x.value = v) := fun hh => by
  unfold isM at h
  rw [hh.1, hh.2] at h
  simp at h
theorem judgePut (es : List Event) (s : List Entry) (x : Event) (hv : Valid es) (hf : fitsB es s = true) (hB : Bd.B ≤ 2147483648) : Con P0 137 [jT es s x] (.t (vdT (vPut es s x))) [] := by
  refine Con.intro (fn := Tryz.f137) [.cell 2 180] (fun _ => (0, [])) mixed (by kernel_rfl) rfl (by decide) rfl (by rfl) (by kernel_rfl) ?_
  simp -implicitDefEqProofs (maxSteps := 2000000) only [push_cast, Nat.reduceEqDiff, Nat.reduceLT, Nat.reduceLeDiff, Nat.reduceAdd, Nat.reduceMul, Nat.reduceSub, Nat.reduceBEq, ↓reduceIte, reduceCtorEq, jT, gT, liveT]
  obtain ⟨R, hR⟩ : ∃ R, vPut es s x = R := ⟨_, rfl⟩
  rw [hR]
  have hsB : sBan = [98, 97, 110] := rfl
  have hsK : sKick = [107, 105, 99, 107] := rfl
  have hne : ¬ sBan = sLeave := by decide
  obtain ⟨b1, hb1⟩ : ∃ c, isM x sBan = c := ⟨_, rfl⟩
  obtain ⟨b2, hb2⟩ : ∃ c, isM x sLeave = c := ⟨_, rfl⟩
  have m1 := judgeMember es s x sBan
  have m2 := judgeMember es s x sLeave
  rw [show (decide (x.typ = sMember) && decide (x.value = sBan)) = b1 from hb1] at m1
  rw [show (decide (x.typ = sMember) && decide (x.value = sLeave)) = b2 from hb2] at m2
  cases b1 <;> cases b2
  · have h1 := isM_f hb1
    have h2 := isM_f hb2
    have hR : none = R := by rw [← hR]; unfold vPut; rw [if_neg (by rintro ⟨q1, q2 | q2⟩ <;> simp_all)]
    all_goals first
      | refine Callx.closed m1 rfl rfl (.inl rfl) ?_
      | refine CallV.t m1 (.inl rfl) ?_
      | refine Callx.closed m2 rfl rfl (.inl rfl) ?_
      | refine CallV.t m2 (.inl rfl) ?_
      | skip
    all_goals try simp -implicitDefEqProofs (maxSteps := 2000000) only [push_cast, Nat.reduceEqDiff, Nat.reduceLT, Nat.reduceLeDiff, Nat.reduceAdd, Nat.reduceMul, Nat.reduceSub, Nat.reduceBEq, ↓reduceIte, reduceCtorEq]
    all_goals first
      | refine Callx.closed m1 rfl rfl (.inl rfl) ?_
      | refine CallV.t m1 (.inl rfl) ?_
      | refine Callx.closed m2 rfl rfl (.inl rfl) ?_
      | refine CallV.t m2 (.inl rfl) ?_
      | skip
    all_goals try simp -implicitDefEqProofs (maxSteps := 2000000) only [push_cast, Nat.reduceEqDiff, Nat.reduceLT, Nat.reduceLeDiff, Nat.reduceAdd, Nat.reduceMul, Nat.reduceSub, Nat.reduceBEq, ↓reduceIte, reduceCtorEq]
    all_goals first
      | (subst hR; simp_all [vdT]; done)
      | (subst hR; simp_all [vdT] <;> (repeat' split) <;> (first | omega | (simp_all; done) | skip))
  · obtain ⟨h1, h2⟩ := isM_t hb2
    have hR : some (if (memb es s x.key = sBan ∧ lvl es s x.sender < thing es s sBan) ∨ lvl es s x.sender < thing es s sKick then 8 else if lvl es s x.sender ≤ lvl es s x.key then 9 else 0) = R := by rw [← hR]; unfold vPut; simp [h1, h2]
    all_goals first
      | refine Callx.closed m1 rfl rfl (.inl rfl) ?_
      | refine CallV.t m1 (.inl rfl) ?_
      | refine Callx.closed m2 rfl rfl (.inl rfl) ?_
      | refine CallV.t m2 (.inl rfl) ?_
      | skip
    all_goals try simp -implicitDefEqProofs (maxSteps := 2000000) only [push_cast, Nat.reduceEqDiff, Nat.reduceLT, Nat.reduceLeDiff, Nat.reduceAdd, Nat.reduceMul, Nat.reduceSub, Nat.reduceBEq, ↓reduceIte, reduceCtorEq]
    all_goals first
      | refine Callx.closed m1 rfl rfl (.inl rfl) ?_
      | refine CallV.t m1 (.inl rfl) ?_
      | refine Callx.closed m2 rfl rfl (.inl rfl) ?_
      | refine CallV.t m2 (.inl rfl) ?_
      | skip
    all_goals try simp -implicitDefEqProofs (maxSteps := 2000000) only [push_cast, Nat.reduceEqDiff, Nat.reduceLT, Nat.reduceLeDiff, Nat.reduceAdd, Nat.reduceMul, Nat.reduceSub, Nat.reduceBEq, ↓reduceIte, reduceCtorEq]
    all_goals first
      | refine Callx.closed (judgeLevel es s x x.sender hv hf hB) rfl rfl (.inl rfl) ?_
      | refine CallV.t (judgeLevel es s x x.sender hv hf hB) (.inl rfl) ?_
      | skip
    all_goals try simp -implicitDefEqProofs (maxSteps := 2000000) only [push_cast, Nat.reduceEqDiff, Nat.reduceLT, Nat.reduceLeDiff, Nat.reduceAdd, Nat.reduceMul, Nat.reduceSub, Nat.reduceBEq, ↓reduceIte, reduceCtorEq]
    all_goals first
      | refine Callx.closed (judgeThing es s x sBan hv hf (by decide) hB) rfl rfl (.inl rfl) ?_
      | refine CallV.t (judgeThing es s x sBan hv hf (by decide) hB) (.inl rfl) ?_
      | skip
    all_goals try simp -implicitDefEqProofs (maxSteps := 2000000) only [push_cast, Nat.reduceEqDiff, Nat.reduceLT, Nat.reduceLeDiff, Nat.reduceAdd, Nat.reduceMul, Nat.reduceSub, Nat.reduceBEq, ↓reduceIte, reduceCtorEq]
    all_goals first
      | refine Callx.closed m1 rfl rfl (.inl rfl) ?_
      | refine CallV.t m1 (.inl rfl) ?_
      | refine Callx.closed m2 rfl rfl (.inl rfl) ?_
      | refine CallV.t m2 (.inl rfl) ?_
      | skip
    all_goals try simp -implicitDefEqProofs (maxSteps := 2000000) only [push_cast, Nat.reduceEqDiff, Nat.reduceLT, Nat.reduceLeDiff, Nat.reduceAdd, Nat.reduceMul, Nat.reduceSub, Nat.reduceBEq, ↓reduceIte, reduceCtorEq]
    all_goals first
      | refine Callx.closed (judgeMembership es s x x.key hv hf) rfl rfl (.inl rfl) ?_
      | refine CallV.t (judgeMembership es s x x.key hv hf) (.inl rfl) ?_
      | skip
    all_goals try simp -implicitDefEqProofs (maxSteps := 2000000) only [push_cast, Nat.reduceEqDiff, Nat.reduceLT, Nat.reduceLeDiff, Nat.reduceAdd, Nat.reduceMul, Nat.reduceSub, Nat.reduceBEq, ↓reduceIte, reduceCtorEq]
    rw [← hsB]
    repeat' first
      | refine iteI (fun _ => ?_) (fun _ => ?_)
      | (refine Callx.closed (says _) rfl rfl (.inl rfl) ?_
         simp -implicitDefEqProofs (maxSteps := 2000000) only [push_cast, Nat.reduceEqDiff, Nat.reduceLT, Nat.reduceLeDiff, Nat.reduceAdd, Nat.reduceMul, Nat.reduceSub, Nat.reduceBEq, ↓reduceIte, reduceCtorEq, vdT])
      | (refine Callx.closed (judgeLevel es s x x.key hv hf hB) rfl rfl (.inl rfl) ?_
         simp -implicitDefEqProofs (maxSteps := 2000000) only [push_cast, Nat.reduceEqDiff, Nat.reduceLT, Nat.reduceLeDiff, Nat.reduceAdd, Nat.reduceMul, Nat.reduceSub, Nat.reduceBEq, ↓reduceIte, reduceCtorEq, vdT])
      | (refine CallV.t (judgeThing es s x sKick hv hf (by decide) hB) (.inl rfl) ?_
         simp -implicitDefEqProofs (maxSteps := 2000000) only [push_cast, Nat.reduceEqDiff, Nat.reduceLT, Nat.reduceLeDiff, Nat.reduceAdd, Nat.reduceMul, Nat.reduceSub, Nat.reduceBEq, ↓reduceIte, reduceCtorEq, vdT])
      | (refine Callx.closed (judgeThing es s x sKick hv hf (by decide) hB) rfl rfl (.inl rfl) ?_
         simp -implicitDefEqProofs (maxSteps := 2000000) only [push_cast, Nat.reduceEqDiff, Nat.reduceLT, Nat.reduceLeDiff, Nat.reduceAdd, Nat.reduceMul, Nat.reduceSub, Nat.reduceBEq, ↓reduceIte, reduceCtorEq, vdT])
      | fail
    all_goals first
      | (subst hR; simp_all [vdT]; done)
      | (subst hR; simp_all [vdT] <;> (repeat' split) <;> (first | omega | (simp_all; done) | skip))
  · obtain ⟨h1, h2⟩ := isM_t hb1
    have hR : some (if lvl es s x.sender < thing es s sBan then 8 else if lvl es s x.sender ≤ lvl es s x.key then 9 else 0) = R := by rw [← hR]; unfold vPut; simp [h1, h2, hne]
    all_goals first
      | refine Callx.closed m1 rfl rfl (.inl rfl) ?_
      | refine CallV.t m1 (.inl rfl) ?_
      | refine Callx.closed m2 rfl rfl (.inl rfl) ?_
      | refine CallV.t m2 (.inl rfl) ?_
      | skip
    all_goals try simp -implicitDefEqProofs (maxSteps := 2000000) only [push_cast, Nat.reduceEqDiff, Nat.reduceLT, Nat.reduceLeDiff, Nat.reduceAdd, Nat.reduceMul, Nat.reduceSub, Nat.reduceBEq, ↓reduceIte, reduceCtorEq]
    all_goals first
      | refine Callx.closed m1 rfl rfl (.inl rfl) ?_
      | refine CallV.t m1 (.inl rfl) ?_
      | refine Callx.closed m2 rfl rfl (.inl rfl) ?_
      | refine CallV.t m2 (.inl rfl) ?_
      | skip
    all_goals try simp -implicitDefEqProofs (maxSteps := 2000000) only [push_cast, Nat.reduceEqDiff, Nat.reduceLT, Nat.reduceLeDiff, Nat.reduceAdd, Nat.reduceMul, Nat.reduceSub, Nat.reduceBEq, ↓reduceIte, reduceCtorEq]
    all_goals first
      | refine Callx.closed (judgeLevel es s x x.sender hv hf hB) rfl rfl (.inl rfl) ?_
      | refine CallV.t (judgeLevel es s x x.sender hv hf hB) (.inl rfl) ?_
      | skip
    all_goals try simp -implicitDefEqProofs (maxSteps := 2000000) only [push_cast, Nat.reduceEqDiff, Nat.reduceLT, Nat.reduceLeDiff, Nat.reduceAdd, Nat.reduceMul, Nat.reduceSub, Nat.reduceBEq, ↓reduceIte, reduceCtorEq]
    all_goals first
      | refine Callx.closed (judgeThing es s x sBan hv hf (by decide) hB) rfl rfl (.inl rfl) ?_
      | refine CallV.t (judgeThing es s x sBan hv hf (by decide) hB) (.inl rfl) ?_
      | skip
    all_goals try simp -implicitDefEqProofs (maxSteps := 2000000) only [push_cast, Nat.reduceEqDiff, Nat.reduceLT, Nat.reduceLeDiff, Nat.reduceAdd, Nat.reduceMul, Nat.reduceSub, Nat.reduceBEq, ↓reduceIte, reduceCtorEq]
    all_goals first
      | refine Callx.closed m1 rfl rfl (.inl rfl) ?_
      | refine CallV.t m1 (.inl rfl) ?_
      | refine Callx.closed m2 rfl rfl (.inl rfl) ?_
      | refine CallV.t m2 (.inl rfl) ?_
      | skip
    all_goals try simp -implicitDefEqProofs (maxSteps := 2000000) only [push_cast, Nat.reduceEqDiff, Nat.reduceLT, Nat.reduceLeDiff, Nat.reduceAdd, Nat.reduceMul, Nat.reduceSub, Nat.reduceBEq, ↓reduceIte, reduceCtorEq]
    repeat' first
      | refine iteI (fun _ => ?_) (fun _ => ?_)
      | (refine Callx.closed (says _) rfl rfl (.inl rfl) ?_
         simp -implicitDefEqProofs (maxSteps := 2000000) only [push_cast, Nat.reduceEqDiff, Nat.reduceLT, Nat.reduceLeDiff, Nat.reduceAdd, Nat.reduceMul, Nat.reduceSub, Nat.reduceBEq, ↓reduceIte, reduceCtorEq, vdT])
      | (refine Callx.closed (judgeLevel es s x x.key hv hf hB) rfl rfl (.inl rfl) ?_
         simp -implicitDefEqProofs (maxSteps := 2000000) only [push_cast, Nat.reduceEqDiff, Nat.reduceLT, Nat.reduceLeDiff, Nat.reduceAdd, Nat.reduceMul, Nat.reduceSub, Nat.reduceBEq, ↓reduceIte, reduceCtorEq, vdT])
      | fail
    all_goals first
      | (subst hR; simp_all [vdT]; done)
      | (subst hR; simp_all [vdT] <;> (repeat' split) <;> (first | omega | (simp_all; done) | skip))
  · exact absurd ((isM_t hb1).2.symm.trans (isM_t hb2).2) hne
end Go.Proofs.YtmgdkkhnjkepiaaGreat.BX
namespace Go.Proofs.YtmgdkkhnjkepiaaGreat.BX
set_option linter.unusedSectionVars false
set_option linter.unusedSimpArgs false
set_option linter.unusedVariables false
open Go Go.RowKit
set_option maxRecDepth 20000
set_option maxHeartbeats 400000
def vOther (es : List Event) (s : List Entry) (x : Event) : Option Int :=
  if lvl es s x.sender < needLv es s x then some 8
  else if x.isState = true ∧ ¬ x.key = [] ∧ x.key[0]? = some 64 ∧ ¬ x.key = x.sender then some 11 else none
variable [Bd]
theorem judgeJoin (es : List Event) (s : List Entry) (x : Event) (hv : Valid es) (hf : fitsB es s = true) (hc : has (slotE es s (sCreate, [])) = true) : Con P0 133 [jT es s x] (.t (vdT (vJoin es s x))) [] := by
  refine Con.intro (fn := Tryz.f133) [.cell 2 180] (fun i => if i = 11 then (18, []) else (0, [])) mixed (by kernel_rfl) rfl (by decide) rfl (by rfl) (by kernel_rfl) ?_
  simp -implicitDefEqProofs (maxSteps := 2000000) only [push_cast, Nat.reduceEqDiff, Nat.reduceLT, Nat.reduceLeDiff, Nat.reduceAdd, Nat.reduceMul, Nat.reduceSub, Nat.reduceBEq, ↓reduceIte, reduceCtorEq, jT, gT, liveT]
  obtain ⟨R, hR⟩ : ∃ R, vJoin es s x = R := ⟨_, rfl⟩
  rw [hR]
  obtain ⟨b1, hb1⟩ : ∃ c, isM x sJoin = c := ⟨_, rfl⟩
  have m1 := judgeMember es s x sJoin
  rw [show (decide (x.typ = sMember) && decide (x.value = sJoin)) = b1 from hb1] at m1
  refine Callx.closed m1 rfl rfl (.inl rfl) ?_
  cases b1
  · have h1 := isM_f hb1
    have hR : none = R := by rw [← hR]; unfold vJoin; rw [if_neg h1]
    simp -implicitDefEqProofs (maxSteps := 2000000) only [push_cast, Nat.reduceEqDiff, Nat.reduceLT, Nat.reduceLeDiff, Nat.reduceAdd, Nat.reduceMul, Nat.reduceSub, Nat.reduceBEq, ↓reduceIte, reduceCtorEq]
    all_goals first
      | (subst hR; simp_all [vdT]; done)
      | (subst hR; simp_all [vdT, -Int.not_lt]; done)
      | (subst hR; simp_all [vdT] <;> (repeat' split) <;> (first | omega | (simp_all; done) | skip))
  · have h1 := isM_t hb1
    have hR : some (joinC es s x) = R := by rw [← hR]; unfold vJoin; rw [if_pos h1]
    simp -implicitDefEqProofs (maxSteps := 2000000) only [push_cast, Nat.reduceEqDiff, Nat.reduceLT, Nat.reduceLeDiff, Nat.reduceAdd, Nat.reduceMul, Nat.reduceSub, Nat.reduceBEq, ↓reduceIte, reduceCtorEq]
    refine Callx.closed (judgeMembership es s x x.key hv hf) rfl rfl (.inl rfl) ?_
    simp -implicitDefEqProofs (maxSteps := 2000000) only [push_cast, Nat.reduceEqDiff, Nat.reduceLT, Nat.reduceLeDiff, Nat.reduceAdd, Nat.reduceMul, Nat.reduceSub, Nat.reduceBEq, ↓reduceIte, reduceCtorEq]
    have p1 := judgeAtU es s x sRules [] hv hf
    have p2 := judgeAtU es s x sCreate [] hv hf
    have p3 := judgeAtU es s x sMember x.key hv hf
    unfold joinC at hR
    unfold poT at p1 p2 p3
    rw [hc] at p2
    obtain ⟨r1, hr1⟩ : ∃ c, has (slotE es s (sRules, [])) = c := ⟨_, rfl⟩
    obtain ⟨r3, hr3⟩ : ∃ c, has (slotE es s (sMember, x.key)) = c := ⟨_, rfl⟩
    rw [hr1] at p1 hR
    rw [hr3] at p3 hR
    generalize oEv (slotE es s (sRules, [])) = e1 at *
    generalize oEv (slotE es s (sCreate, [])) = e2 at *
    generalize oEv (slotE es s (sMember, x.key)) = e3 at *
    unfold sBan sJoin sInvite sPublic at hR
    refine Callx.closed p1 rfl rfl (.inl rfl) ?_
    cases r1 <;> cases r3
    all_goals
      simp -implicitDefEqProofs (maxSteps := 2000000) only [push_cast, Nat.reduceEqDiff, Nat.reduceLT, Nat.reduceLeDiff, Nat.reduceAdd, Nat.reduceMul, Nat.reduceSub, Nat.reduceBEq, ↓reduceIte, reduceCtorEq, eEvent]
      repeat' first
        | refine iteI (fun _ => ?_) (fun _ => ?_)
        | (refine Callx.closed (says _) rfl rfl (.inl rfl) ?_
           simp -implicitDefEqProofs (maxSteps := 2000000) only [push_cast, Nat.reduceEqDiff, Nat.reduceLT, Nat.reduceLeDiff, Nat.reduceAdd, Nat.reduceMul, Nat.reduceSub, Nat.reduceBEq, ↓reduceIte, reduceCtorEq, vdT])
        | (refine CallV.t p2 (.inl rfl) ?_
           simp -implicitDefEqProofs (maxSteps := 2000000) only [push_cast, Nat.reduceEqDiff, Nat.reduceLT, Nat.reduceLeDiff, Nat.reduceAdd, Nat.reduceMul, Nat.reduceSub, Nat.reduceBEq, ↓reduceIte, reduceCtorEq, eEvent])
        | (refine CallV.t p3 (.inl rfl) ?_
           simp -implicitDefEqProofs (maxSteps := 2000000) only [push_cast, Nat.reduceEqDiff, Nat.reduceLT, Nat.reduceLeDiff, Nat.reduceAdd, Nat.reduceMul, Nat.reduceSub, Nat.reduceBEq, ↓reduceIte, reduceCtorEq, eEvent])
        | fail
    all_goals first
      | (subst hR; simp_all [vdT]; done)
      | (subst hR; simp_all [vdT, -Int.not_lt]; done)
      | (subst hR; simp_all [vdT] <;> (repeat' split) <;> (first | omega | (simp_all; done) | skip))
theorem judgeOther (es : List Event) (s : List Entry) (x : Event) (hv : Valid es) (hf : fitsB es s = true) (he : evOk x = 0) (hB : Bd.B ≤ 2147483648) : Con P0 138 [jT es s x] (.t (vdT (vOther es s x))) [] := by
  refine Con.intro (fn := Tryz.f138) [.cell 2 180] (fun _ => (0, [])) mixed (by kernel_rfl) rfl (by decide) rfl (by rfl) (by kernel_rfl) ?_
  simp -implicitDefEqProofs (maxSteps := 2000000) only [push_cast, Nat.reduceEqDiff, Nat.reduceLT, Nat.reduceLeDiff, Nat.reduceAdd, Nat.reduceMul, Nat.reduceSub, Nat.reduceBEq, ↓reduceIte, reduceCtorEq, jT, gT, liveT]
  have := Bd.lo
  have hty : x.typ.length ≤ 40 := evOk_typ he
  obtain ⟨R, hR⟩ : ∃ R, vOther es s x = R := ⟨_, rfl⟩
  rw [hR]
  refine Callx.closed (judgeThing es s x sAct hv hf (by decide) hB) rfl rfl (.inl rfl) ?_
  simp -implicitDefEqProofs (maxSteps := 2000000) only [push_cast, Nat.reduceEqDiff, Nat.reduceLT, Nat.reduceLeDiff, Nat.reduceAdd, Nat.reduceMul, Nat.reduceSub, Nat.reduceBEq, ↓reduceIte, reduceCtorEq]
  have p1 := judgeAtU es s x sPower [] hv hf
  have hord : ∀ p, slotE es s (sPower, []) = some p → GOrd p.grants := fun p h => pow_ord hv hf h
  unfold poT at p1
  unfold vOther needLv at hR
  have lv := judgeLevel es s x x.sender hv hf hB
  cases hp : slotE es s (sPower, []) with
  | none =>
    rw [hp] at p1 hR
    have hh : has (none : Option Event) = false := rfl
    rw [hh] at p1 hR
    refine iteI (fun hst => ?_) (fun hst => ?_)
    all_goals
      all_goals first
        | refine Callx.closed (judgeThing es s x sState hv hf (by decide) hB) rfl rfl (.inl rfl) ?_
        | refine CallV.t (judgeThing es s x sState hv hf (by decide) hB) (.inl rfl) ?_
        | skip
      all_goals try simp -implicitDefEqProofs (maxSteps := 2000000) only [push_cast, Nat.reduceEqDiff, Nat.reduceLT, Nat.reduceLeDiff, Nat.reduceAdd, Nat.reduceMul, Nat.reduceSub, Nat.reduceBEq, ↓reduceIte, reduceCtorEq]
      refine Callx.closed p1 rfl rfl (.inl rfl) ?_
      simp -implicitDefEqProofs (maxSteps := 2000000) only [push_cast, Nat.reduceEqDiff, Nat.reduceLT, Nat.reduceLeDiff, Nat.reduceAdd, Nat.reduceMul, Nat.reduceSub, Nat.reduceBEq, ↓reduceIte, reduceCtorEq]
      refine Callx.closed lv rfl rfl (.inl rfl) ?_
      simp -implicitDefEqProofs (maxSteps := 2000000) only [push_cast, Nat.reduceEqDiff, Nat.reduceLT, Nat.reduceLeDiff, Nat.reduceAdd, Nat.reduceMul, Nat.reduceSub, Nat.reduceBEq, ↓reduceIte, reduceCtorEq]
      repeat' first
        | refine iteI (fun _ => ?_) (fun _ => ?_)
        | (refine Callx.closed (says _) rfl rfl (.inl rfl) ?_
           simp -implicitDefEqProofs (maxSteps := 2000000) only [push_cast, Nat.reduceEqDiff, Nat.reduceLT, Nat.reduceLeDiff, Nat.reduceAdd, Nat.reduceMul, Nat.reduceSub, Nat.reduceBEq, ↓reduceIte, reduceCtorEq, vdT])
        | (refine ⟨by have := List.length_pos_iff.2 (by assumption); omega, fun c hc => ?_⟩
           have hc : x.key[0]? = some c := hc
           simp -implicitDefEqProofs (maxSteps := 2000000) only [push_cast, Nat.reduceEqDiff, Nat.reduceLT, Nat.reduceLeDiff, Nat.reduceAdd, Nat.reduceMul, Nat.reduceSub, Nat.reduceBEq, ↓reduceIte, reduceCtorEq, c64])
        | fail
    all_goals first
      | (subst hR; simp_all [vdT]; done)
      | (subst hR; simp_all [vdT, -Int.not_lt]; done)
      | (subst hR; simp_all [vdT] <;> (repeat' split) <;> (first | omega | (simp_all; done) | skip))
  | some p =>
    rw [hp] at p1 hR
    have hh : has (some p) = true := rfl
    have hoe : oEv (some p) = p := rfl
    rw [hh, hoe] at p1 hR
    have hgo := grantOf p (35 :: x.typ) (hord p hp) hB
    rw [grT_u] at hgo
    obtain ⟨gg, hgg⟩ : ∃ g, has (grantL p.grants (35 :: x.typ)) = g := ⟨_, rfl⟩
    rw [hgg] at hgo hR
    refine iteI (fun hst => ?_) (fun hst => ?_) <;> cases gg
    all_goals
      all_goals first
        | refine Callx.closed (judgeThing es s x sState hv hf (by decide) hB) rfl rfl (.inl rfl) ?_
        | refine CallV.t (judgeThing es s x sState hv hf (by decide) hB) (.inl rfl) ?_
        | skip
      all_goals try simp -implicitDefEqProofs (maxSteps := 2000000) only [push_cast, Nat.reduceEqDiff, Nat.reduceLT, Nat.reduceLeDiff, Nat.reduceAdd, Nat.reduceMul, Nat.reduceSub, Nat.reduceBEq, ↓reduceIte, reduceCtorEq]
      refine Callx.closed p1 rfl rfl (.inl rfl) ?_
      simp -implicitDefEqProofs (maxSteps := 2000000) only [push_cast, Nat.reduceEqDiff, Nat.reduceLT, Nat.reduceLeDiff, Nat.reduceAdd, Nat.reduceMul, Nat.reduceSub, Nat.reduceBEq, ↓reduceIte, reduceCtorEq]
      refine ⟨by omega, ?_⟩
      refine Callx.closed hgo rfl rfl (.inl rfl) ?_
      simp -implicitDefEqProofs (maxSteps := 2000000) only [push_cast, Nat.reduceEqDiff, Nat.reduceLT, Nat.reduceLeDiff, Nat.reduceAdd, Nat.reduceMul, Nat.reduceSub, Nat.reduceBEq, ↓reduceIte, reduceCtorEq]
      refine Callx.closed lv rfl rfl (.inl rfl) ?_
      simp -implicitDefEqProofs (maxSteps := 2000000) only [push_cast, Nat.reduceEqDiff, Nat.reduceLT, Nat.reduceLeDiff, Nat.reduceAdd, Nat.reduceMul, Nat.reduceSub, Nat.reduceBEq, ↓reduceIte, reduceCtorEq]
      repeat' first
        | refine iteI (fun _ => ?_) (fun _ => ?_)
        | (refine Callx.closed (says _) rfl rfl (.inl rfl) ?_
           simp -implicitDefEqProofs (maxSteps := 2000000) only [push_cast, Nat.reduceEqDiff, Nat.reduceLT, Nat.reduceLeDiff, Nat.reduceAdd, Nat.reduceMul, Nat.reduceSub, Nat.reduceBEq, ↓reduceIte, reduceCtorEq, vdT])
        | (refine ⟨by have := List.length_pos_iff.2 (by assumption); omega, fun c hc => ?_⟩
           have hc : x.key[0]? = some c := hc
           simp -implicitDefEqProofs (maxSteps := 2000000) only [push_cast, Nat.reduceEqDiff, Nat.reduceLT, Nat.reduceLeDiff, Nat.reduceAdd, Nat.reduceMul, Nat.reduceSub, Nat.reduceBEq, ↓reduceIte, reduceCtorEq, c64])
        | fail
    all_goals first
      | (subst hR; simp_all [vdT]; done)
      | (subst hR; simp_all [vdT, -Int.not_lt]; done)
      | (subst hR; simp_all [vdT] <;> (repeat' split) <;> (first | omega | (simp_all; done) | skip))
end Go.Proofs.YtmgdkkhnjkepiaaGreat.BX
namespace Go.Proofs.YtmgdkkhnjkepiaaGreat.BX
set_option linter.unusedSectionVars false
set_option linter.unusedSimpArgs false
set_option linter.unusedVariables false
open Go Go.RowKit
set_option maxRecDepth 20000
set_option maxHeartbeats 400000
def Cnt {κ : Type} [DecidableEq κ] (m : List (κ × Int)) (p : List κ) : Prop := (m.map (·.1)).Nodup ∧ ∀ e, aget e m = if p.count e = 0 then none else some (p.count e : Int)
section
variable {κ : Type} [DecidableEq κ]
theorem Cnt.nil : Cnt ([] : List (κ × Int)) [] := ⟨by simp, fun e => by simp [aget]⟩
theorem Cnt.step {m : List (κ × Int)} {p : List κ} (h : Cnt m p) (e : κ) : Cnt (aset e ((aget e m).getD 0 + 1) m) (p ++ [e]) := by
  refine ⟨aset_nodup h.1, fun x => ?_⟩
  rw [aget_set, List.count_append]
  by_cases hx : e = x
  · subst hx
    rw [if_pos rfl, h.2 e]
    have : List.count e [e] = 1 := by simp
    rw [this]
    by_cases hc : p.count e = 0
    · rw [if_pos hc, if_neg (by omega), hc]; rfl
    · rw [if_neg hc, if_neg (by omega)]; simp
  · rw [if_neg hx, h.2 x]
    have : List.count x [e] = 0 := by simp [hx]
    rw [this, Nat.add_zero]
theorem Cnt.len {m : List (κ × Int)} {p : List κ} (h : Cnt m p) : m.length ≤ p.length := by
  have : ∀ x ∈ m.map (·.1), x ∈ p := fun x hx => by
    have h1 : aget x m ≠ none := fun hn => aget_none.1 hn hx
    rw [h.2 x] at h1
    by_cases hc : p.count x = 0
    · rw [if_pos hc] at h1; exact absurd rfl h1
    · exact List.count_pos_iff.1 (by omega)
  have h2 := List.Nodup.length_le_of_subset h.1 (fun x hx => this x hx)
  rwa [List.length_map] at h2
theorem Cnt.val {m : List (κ × Int)} {p : List κ} (h : Cnt m p) (e : κ) : 0 ≤ (aget e m).getD 0 ∧ (aget e m).getD 0 ≤ (p.length : Int) := by
  rw [h.2 e]
  have := List.count_le_length (a := e) (l := p)
  split
  · simp
  · simp; omega
theorem Cnt.keys {m : List (κ × Int)} {p : List κ} (h : Cnt m p) {e : κ} : e ∈ m.map (·.1) ↔ e ∈ p := by
  have h1 := h.2 e
  constructor
  · intro hm
    have : aget e m ≠ none := fun hn => aget_none.1 hn hm
    rw [h1] at this
    by_cases hc : p.count e = 0
    · rw [if_pos hc] at this; exact absurd rfl this
    · exact List.count_pos_iff.1 (by omega)
  · intro hp
    have := List.count_pos_iff.2 hp
    rw [if_neg (by omega)] at h1
    exact Classical.byContradiction fun hn => by rw [aget_none.2 hn] at h1; cases h1
end
end Go.Proofs.YtmgdkkhnjkepiaaGreat.BX
namespace Go.Proofs.YtmgdkkhnjkepiaaGreat.BX
set_option linter.unusedSectionVars false
set_option linter.unusedSimpArgs false
set_option linter.unusedVariables false
open Go Go.RowKit
set_option maxRecDepth 20000
set_option maxHeartbeats 400000
noncomputable def vGrants (es : List Event) (s : List Entry) (x : Event) : Option Int :=
  if x.typ = sPower ∧ has (slotE es s (sPower, [])) = true then some (if powOk (oEv (slotE es s (sPower, []))).grants x.grants x.sender (lvl es s x.sender) = true then 0 else 12) else some 0
def userN (n : List UInt8) : Bool := decide (¬ n[0]? = some 42) && decide (¬ n[0]? = some 35)
theorem erase_pick' {α : Type} : ∀ {l : List α} {i : Nat} {x : α}, l[i]? = some x → List.Perm l (x :: l.eraseIdx i)
  | [], _, _, h => by simp at h
  | y :: l, 0, x, h => by simp at h; subst h; simp
  | y :: l, i + 1, x, h => by
    simp only [List.getElem?_cons_succ] at h
    simp only [List.eraseIdx_cons_succ]
    exact ((erase_pick' h).cons y).trans (List.Perm.swap ..)
theorem eraseE_map' {α β : Type} {f : α → β} : ∀ {l : List α} {i : Nat}, (l.map f).eraseIdx i = (l.eraseIdx i).map f
  | [], _ => by simp
  | _ :: l, 0 => by simp
  | _ :: l, i + 1 => by simp [eraseE_map' (l := l)]
theorem c42 (c : UInt8) : ((c.toNat : Int) = 42) = (c = 42) := propext ⟨fun h => UInt8.toNat_inj.1 (by show c.toNat = 42; omega), fun h => by subst h; rfl⟩
theorem c35 (c : UInt8) : ((c.toNat : Int) = 35) = (c = 35) := propext ⟨fun h => UInt8.toNat_inj.1 (by show c.toNat = 35; omega), fun h => by subst h; rfl⟩
def spr (p : List UInt8 × Int) : T × T := (T.s p.1, T.i .i64 p.2)
def nms (l : List (List Grant)) : List (List UInt8) := l.flatMap fun g => g.map (·.name)
variable [Bd]
abbrev nmO (m : List (List UInt8 × Int)) : Ob := .map 9 3 (.own .leaf) (m.map fun p => T.s p.1) (m.map fun p => T.i .i64 p.2) none
theorem user_is {n : List UInt8} (h : nameB n = true) : n ≠ [] ∧ userN n = isW n := by
  cases n with
  | nil => simp [nameB, isW] at h
  | cons c r =>
    refine ⟨by simp, ?_⟩
    change (if (c.toNat : Int) = 42 ∨ (c.toNat : Int) = 35 then isW r else isW (c :: r)) = true at h
    unfold userN
    by_cases h1 : c = 42
    · subst h1
      have := isW_no (s := 42 :: r) (i := 0) rfl (by decide)
      rw [this]; simp
    by_cases h2 : c = 35
    · subst h2
      have := isW_no (s := 35 :: r) (i := 0) rfl (by decide)
      rw [this]; simp
    have e1 : ¬ ((c.toNat : Int) = 42 ∨ (c.toNat : Int) = 35) := by
      rintro (hc | hc)
      · exact h1 (UInt8.toNat_inj.1 (by show c.toNat = 42; omega))
      · exact h2 (UInt8.toNat_inj.1 (by show c.toNat = 35; omega))
    have h' : isW (c :: r) = true := by
      split at h
      · rename_i hc; exact absurd hc e1
      · exact h
    rw [h']
    simp [h1, h2]
theorem grantOfJ (es : List Event) (s : List Entry) (e : Event) (u : List UInt8) (ho : GOrd e.grants) (hB : Bd.B ≤ 2147483648) : Con P0 198 [.po (jT es s e) 2, .s u] (.t (.tp [.i .i64 (gLv (grantL e.grants u)), .b (has (grantL e.grants u))])) [] := by
  rw [← grT_u]
  refine Con.intro (fn := Tryz.f198) [.tmp 4, .tmp 5] (fun _ => (0, [])) mixed (by kernel_rfl) rfl (by decide) rfl (by rfl) (by kernel_rfl) ?_
  simp -implicitDefEqProofs (maxSteps := 2000000) only [push_cast, Nat.reduceEqDiff, Nat.reduceLT, Nat.reduceLeDiff, Nat.reduceAdd, Nat.reduceMul, Nat.reduceSub, Nat.reduceBEq, ↓reduceIte, reduceCtorEq, jT]
  refine Callx.closed (bsearch e.grants u ho hB) rfl rfl (.inr ⟨rfl, rfl⟩) ?_
  simp -implicitDefEqProofs (maxSteps := 2000000) only [push_cast, Nat.reduceEqDiff, Nat.reduceLT, Nat.reduceLeDiff, Nat.reduceAdd, Nat.reduceMul, Nat.reduceSub, Nat.reduceBEq, ↓reduceIte, reduceCtorEq, jT, eGrant]
  rcases grant_front ho (fun k g => front_lt (u := u)) (fun g => front_ge) with ⟨g, h1, h2, h3⟩ | ⟨h1, h2⟩
  · have hb : bsB e.grants u = true := by unfold bsB; rw [h1]; simp [h2]
    have hl := (List.getElem?_eq_some_iff.1 h1).1
    rw [hb, if_neg (by simp), h3]
    refine ⟨by omega, fun a ha => ?_⟩
    rw [Int.toNat_natCast, h1] at ha
    cases ha
    rfl
  · have hb : bsB e.grants u = false := by
      unfold bsB
      split
      · rename_i g hg; simp [h1 g hg]
      · rfl
    rw [hb, if_pos (by rfl), h2]
    rfl
theorem judgeGrants (es : List Event) (s : List Entry) (x : Event) (hv : Valid es) (hf : fitsB es s = true) (he : evOk x = 0) (hB : Bd.B ≤ 2147483648) : Con P0 139 [jT es s x] (.t (vdT (vGrants es s x))) [] := by
  refine Con.intro (fn := Tryz.f139) [.cell 2 180] (fun i => if i = 6 then (10, [(false, 0), (false, 1), (false, 2), (false, 3), (false, 4), (false, 5), (false, 6), (false, 9), (true, 7), (false, 8)]) else (0, [])) mixed (by kernel_rfl) rfl (by decide) rfl (by rfl) (by kernel_rfl) ?_
  simp -implicitDefEqProofs (maxSteps := 2000000) only [push_cast, Nat.reduceEqDiff, Nat.reduceLT, Nat.reduceLeDiff, Nat.reduceAdd, Nat.reduceMul, Nat.reduceSub, Nat.reduceBEq, ↓reduceIte, reduceCtorEq, jT, gT, liveT]
  obtain ⟨R, hR⟩ : ∃ R, vGrants es s x = R := ⟨_, rfl⟩
  rw [hR]
  have p1 := judgeAtU es s x sPower [] hv hf
  unfold poT at p1
  unfold vGrants at hR
  have hord : ∀ p, slotE es s (sPower, []) = some p → GOrd p.grants ∧ grantsB p.grants = true := fun p h => by
    obtain ⟨i, hi⟩ := slot_in h
    have ht := (slot_is hv hf h).1
    have hc := evOk_content (hv.good hi).ok
    unfold contentB at hc
    simp only at ht
    rw [ht, if_neg (by decide), if_neg (by decide), if_neg (by decide), if_pos rfl] at hc
    simp only [Bool.and_eq_true] at hc
    exact ⟨pow_ord hv hf h, hc.2⟩
  cases hp : slotE es s (sPower, []) with
  | none =>
    rw [hp] at hR p1
    have hh : has (none : Option Event) = false := rfl
    rw [hh] at hR p1
    refine Callx.closed p1 rfl rfl (.inl rfl) ?_
    have hR : some 0 = R := by rw [← hR, if_neg (show ¬ (x.typ = sPower ∧ false = true) from fun h => by cases h.2)]
    simp -implicitDefEqProofs (maxSteps := 2000000) only [push_cast, Nat.reduceEqDiff, Nat.reduceLT, Nat.reduceLeDiff, Nat.reduceAdd, Nat.reduceMul, Nat.reduceSub, Nat.reduceBEq, ↓reduceIte, reduceCtorEq]
    all_goals repeat' first
      | refine iteI (fun _ => ?_) (fun _ => ?_)
      | (refine Callx.closed (says _) rfl rfl (.inl rfl) ?_
         simp -implicitDefEqProofs (maxSteps := 2000000) only [push_cast, Nat.reduceEqDiff, Nat.reduceLT, Nat.reduceLeDiff, Nat.reduceAdd, Nat.reduceMul, Nat.reduceSub, Nat.reduceBEq, ↓reduceIte, reduceCtorEq, vdT])
      | fail
    all_goals (subst hR; rfl)
  | some p =>
    rw [hp] at hR p1
    have hh : has (some p) = true := rfl
    have hoe : oEv (some p) = p := rfl
    rw [hh, hoe] at hR p1
    refine Callx.closed p1 rfl rfl (.inl rfl) ?_
    simp -implicitDefEqProofs (maxSteps := 2000000) only [push_cast, Nat.reduceEqDiff, Nat.reduceLT, Nat.reduceLeDiff, Nat.reduceAdd, Nat.reduceMul, Nat.reduceSub, Nat.reduceBEq, ↓reduceIte, reduceCtorEq]
    refine iteI (fun h1 => ?_) (fun h1 => ?_)
    · have hR : some 0 = R := by rw [← hR, if_neg (fun h => h1 h.1)]
      refine Callx.closed (says _) rfl rfl (.inl rfl) ?_
      simp -implicitDefEqProofs (maxSteps := 2000000) only [push_cast, Nat.reduceEqDiff, Nat.reduceLT, Nat.reduceLeDiff, Nat.reduceAdd, Nat.reduceMul, Nat.reduceSub, Nat.reduceBEq, ↓reduceIte, reduceCtorEq, vdT]
      subst hR; rfl
    have h1 : x.typ = sPower := Classical.not_not.1 h1
    rw [if_pos ⟨h1, rfl⟩] at hR
    refine Callx.closed (judgeLevel es s x x.sender hv hf hB) rfl rfl (.inl rfl) ?_
    simp -implicitDefEqProofs (maxSteps := 2000000) only [push_cast, Nat.reduceEqDiff, Nat.reduceLT, Nat.reduceLeDiff, Nat.reduceAdd, Nat.reduceMul, Nat.reduceSub, Nat.reduceBEq, ↓reduceIte, reduceCtorEq, eEvent]
    have := Bd.lo
    have hhi := Bd.hi
    refine ⟨rfl, by omega, fun _ => ?_⟩
    obtain ⟨hgo, hgb⟩ := hord p hp
    have hxb : grantsB x.grants = true := by
      have hc := evOk_content he
      unfold contentB at hc
      rw [h1, if_neg (by decide), if_neg (by decide), if_neg (by decide), if_pos rfl] at hc
      simp only [Bool.and_eq_true] at hc
      exact hc.2
    have hxo : GOrd x.grants := by
      unfold grantsB at hxb
      simp only [Bool.and_eq_true] at hxb
      exact gOrd_of (@of_decide_eq_true _ (Classical.propDecidable _) hxb.2.2)
    have hbl : ∀ {l : List Grant}, grantsB l = true → l.length ≤ 50 ∧ ∀ g ∈ l, nameB g.name = true := fun {l} hl => by
      unfold grantsB at hl
      simp only [Bool.and_eq_true, decide_eq_true_eq] at hl
      refine ⟨by omega, fun g hg => ?_⟩
      have := hl.2.1 g hg
      unfold grantB at this
      simp only [Bool.and_eq_true] at this
      exact this.1
    obtain ⟨lp, np⟩ := hbl hgb
    obtain ⟨lx, nx⟩ := hbl hxb
    obtain ⟨own, hown⟩ : ∃ own, lvl es s x.sender = own := ⟨_, rfl⟩
    rw [hown] at hR ⊢
    obtain ⟨gl, hgl⟩ : ∃ gl : List (List Grant), gl = [p.grants, x.grants] := ⟨_, rfl⟩
    have hnl : (nms gl).length ≤ 100 := by rw [hgl]; simp [nms]; omega
    have hnm : nms gl = namesL p.grants x.grants := by rw [hgl]; simp [nms, namesL]
    have hgn : ∀ n ∈ nms gl, nameB n = true := by
      rw [hnm]
      intro n hn
      unfold namesL at hn
      rcases List.mem_append.1 hn with hn | hn
      · obtain ⟨g, hg, rfl⟩ := List.mem_map.1 hn; exact np g hg
      · obtain ⟨g, hg, rfl⟩ := List.mem_map.1 hn; exact nx g hg
    have hglg : ∀ g ∈ gl, g.length ≤ 50 := by rw [hgl]; intro g hg; simp at hg; rcases hg with rfl | rfl <;> omega
    have hgl2 : gl.length = 2 := by rw [hgl]; rfl
    refine WL.loop (ι := Nat × List (List UInt8 × Int)) (D := (fun i => if i = 6 then (10, [(false, 0), (false, 1), (false, 2), (false, 3), (false, 4), (false, 5), (false, 6), (false, 9), (true, 7), (false, 8)]) else (0, []))) (fun q => q.1 ≤ gl.length ∧ Cnt q.2 (nms (gl.take q.1))) (fun q => ⟨128, [(1, .rf 0 0), (2, .rf 1 0), (3, .t (.po (eEvent p) 0)), (4, .t (.i .i64 own)), (5, .mr 2), (40, .sr 3), (41, .t (.i .i64 gl.length)), (42, .t (.i .i64 q.1))], [.box (.t (jT es s x)), .box (.ag [.t (.b false), .t (.i .i64 0)]), nmO q.2, .arr 40 1 .clo (gl.map eGrantS)]⟩) (fun q => gl.length - q.1) mixed (by kernel_rfl) (0, []) ⟨by dsimp only; omega, Cnt.nil⟩ (Keep.wk (ids := [some 0, some 1, some 2, some 3]) ?_) ?_
    · rw [hgl2]
      simp only [push_cast, Nat.reduceEqDiff, Nat.reduceLT, Nat.reduceLeDiff, Nat.reduceAdd, Nat.reduceMul, Nat.reduceSub, Nat.reduceBEq, ↓reduceIte, reduceCtorEq, hgl, List.map_cons, List.map_nil, jT, gT, liveT, eEvent] <;> trivial
    rintro ⟨i, m⟩ ⟨hi, hm⟩
    dsimp only at hi hm ⊢
    simp -implicitDefEqProofs (maxSteps := 2000000) only [push_cast, Nat.reduceEqDiff, Nat.reduceLT, Nat.reduceLeDiff, Nat.reduceAdd, Nat.reduceMul, Nat.reduceSub, Nat.reduceBEq, ↓reduceIte, reduceCtorEq, jT, gT, liveT, eEvent, eGrant]
    refine iteI (fun hlt => ⟨by omega, by omega, fun g hg => fun _ => ?_⟩) (fun hlt => ?_)
    · rw [Int.toNat_natCast] at hg
      have hgm := List.mem_of_getElem? hg
      have hgl50 := hglg g hgm
      have hnsn : nms (gl.take (i + 1)) = nms (gl.take i) ++ g.map (·.name) := by unfold nms; rw [List.take_add_one, hg, List.flatMap_append]; simp
      have hle : (nms (gl.take (i + 1))).length ≤ 100 := by
        have : (nms (gl.take (i + 1))).length ≤ (nms gl).length := by
          conv => rhs; rw [← List.take_append_drop (i + 1) gl]
          unfold nms
          rw [List.flatMap_append, List.length_append]; omega
        omega
      rw [hnsn, List.length_append, List.length_map] at hle
      refine WL.loop (ι := Nat × List (List UInt8 × Int)) (D := (fun i => if i = 6 then (10, [(false, 0), (false, 1), (false, 2), (false, 3), (false, 4), (false, 5), (false, 6), (false, 9), (true, 7), (false, 8)]) else (0, []))) (fun q => q.1 ≤ g.length ∧ Cnt q.2 (nms (gl.take i) ++ (g.take q.1).map (·.name))) (fun q => ⟨128, [(1, .rf 0 0), (2, .rf 1 0), (3, .t (.po (eEvent p) 0)), (4, .t (.i .i64 own)), (5, .mr 2), (40, .sr 3), (41, .t (.i .i64 gl.length)), (42, .t (.i .i64 i)), (46, .t (eGrantS g)), (47, .t (.i .i64 g.length)), (48, .t (.i .i64 q.1))], [.box (.t (jT es s x)), .box (.ag [.t (.b false), .t (.i .i64 0)]), nmO q.2, .arr 40 1 .clo (gl.map eGrantS)]⟩) (fun q => g.length - q.1) mixed (by kernel_rfl) (0, m) ⟨by dsimp only; omega, by dsimp only; rw [List.take_zero, List.map_nil, List.append_nil]; exact hm⟩ (Keep.wk (ids := [some 0, some 1, some 2, some 3]) ?_) ?_
      · simp only [push_cast, Nat.reduceEqDiff, Nat.reduceLT, Nat.reduceLeDiff, Nat.reduceAdd, Nat.reduceMul, Nat.reduceSub, Nat.reduceBEq, ↓reduceIte, reduceCtorEq, jT, gT, liveT, eEvent] <;> trivial
      rintro ⟨j, m⟩ ⟨hj, hm⟩
      dsimp only at hj hm ⊢
      simp -implicitDefEqProofs (maxSteps := 2000000) only [push_cast, Nat.reduceEqDiff, Nat.reduceLT, Nat.reduceLeDiff, Nat.reduceAdd, Nat.reduceMul, Nat.reduceSub, Nat.reduceBEq, ↓reduceIte, reduceCtorEq, jT, gT, liveT, eEvent, eGrant]
      refine iteI (fun hjl => ⟨by omega, fun a ha => ?_⟩) (fun hjl => ?_)
      · rw [Int.toNat_natCast] at ha
        have hts : (g.take (j + 1)).map (·.name) = (g.take j).map (·.name) ++ [a.name] := by rw [List.take_add_one, ha]; simp
        have hst := hm.step a.name
        have hcb := hm.val a.name
        rw [List.length_append, List.length_map, List.length_take] at hcb
        have hml := hm.len
        rw [List.length_append, List.length_map, List.length_take] at hml
        obtain ⟨c, hc⟩ : ∃ c, (aget a.name m).getD 0 = c := ⟨_, rfl⟩
        rw [hc] at hst hcb
        refine look_assoc (ek := T.s) (ev := T.i .i64) (k := a.name) s_inj hm.1 (fun p _ => by simp [isKey, keyCells, keyCell]) (fun v hv => ?_) (fun hv => ?_)
        · rw [hv] at hc
          dsimp only [Option.getD] at hc
          subst hc
          obtain ⟨hu1, hu2⟩ := upd_assoc (ek := T.s) (ev := T.i .i64) s_inj (k := a.name) (v := v + 1) (l := m)
          simp -implicitDefEqProofs (maxSteps := 2000000) only [push_cast, Nat.reduceEqDiff, Nat.reduceLT, Nat.reduceLeDiff, Nat.reduceAdd, Nat.reduceMul, Nat.reduceSub, Nat.reduceBEq, ↓reduceIte, reduceCtorEq, jT, gT, liveT, eEvent, eGrant]
          refine ⟨by unfold inI64; omega, fun _ => by omega, by unfold inI64; omega, (j + 1, aset a.name (v + 1) m), ⟨by dsimp only; omega, ?_⟩, by dsimp only; omega, Keep.wk (ids := [some 0, some 1, some 2, some 3]) ?_⟩
          · dsimp only
            rw [hts, ← List.append_assoc]
            exact hst
          · simp only [push_cast, Nat.reduceEqDiff, Nat.reduceLT, Nat.reduceLeDiff, Nat.reduceAdd, Nat.reduceMul, Nat.reduceSub, Nat.reduceBEq, ↓reduceIte, reduceCtorEq, hu1, hu2, jT, gT, liveT, eEvent] <;> trivial
        · rw [hv] at hc
          dsimp only [Option.getD] at hc
          subst hc
          obtain ⟨hu1, hu2⟩ := upd_assoc (ek := T.s) (ev := T.i .i64) s_inj (k := a.name) (v := (0 : Int) + 1) (l := m)
          simp -implicitDefEqProofs (maxSteps := 2000000) only [push_cast, Nat.reduceEqDiff, Nat.reduceLT, Nat.reduceLeDiff, Nat.reduceAdd, Nat.reduceMul, Nat.reduceSub, Nat.reduceBEq, ↓reduceIte, reduceCtorEq, jT, gT, liveT, eEvent, eGrant]
          refine ⟨by unfold inI64; omega, fun _ => by omega, by unfold inI64; omega, (j + 1, aset a.name ((0 : Int) + 1) m), ⟨by dsimp only; omega, ?_⟩, by dsimp only; omega, Keep.wk (ids := [some 0, some 1, some 2, some 3]) ?_⟩
          · dsimp only
            rw [hts, ← List.append_assoc]
            exact hst
          · simp only [push_cast, Nat.reduceEqDiff, Nat.reduceLT, Nat.reduceLeDiff, Nat.reduceAdd, Nat.reduceMul, Nat.reduceSub, Nat.reduceBEq, ↓reduceIte, reduceCtorEq, hu1, hu2, jT, gT, liveT, eEvent] <;> trivial
      · have hjl2 : j = g.length := by omega
        subst hjl2
        rw [List.take_length, ← hnsn] at hm
        refine ⟨by unfold inI64; omega, (i + 1, m), ⟨by dsimp only; omega, hm⟩, by dsimp only; omega, Keep.wk (ids := [some 0, some 1, some 2, some 3]) ?_⟩
        simp only [push_cast, Nat.reduceEqDiff, Nat.reduceLT, Nat.reduceLeDiff, Nat.reduceAdd, Nat.reduceMul, Nat.reduceSub, Nat.reduceBEq, ↓reduceIte, reduceCtorEq, jT, gT, liveT, eEvent] <;> trivial
    have hi2 : i = gl.length := by omega
    subst hi2
    rw [List.take_length] at hm
    have hz : ((m.map fun p => T.s p.1).zip (m.map fun p => T.i .i64 p.2)) = m.map spr := List.zip_map' ..
    rw [hz]
    refine WL.loop (ι := List (List UInt8 × Int) × List (List UInt8 × Int)) (D := (fun i => if i = 6 then (10, [(false, 0), (false, 1), (false, 2), (false, 3), (false, 4), (false, 5), (false, 6), (false, 9), (true, 7), (false, 8)]) else (0, []))) (fun q => List.Perm (q.2 ++ q.1) m ∧ ∀ r ∈ q.2, ¬ badN p.grants x.grants x.sender own r.1) (fun q => ⟨128, [(1, .rf 0 0), (2, .rf 1 0), (3, .t (.po (eEvent p) 0)), (4, .t (.i .i64 own)), (60, .it 2)], [.box (.t (jT es s x)), .box (.ag [.t (.b false), .t (.i .i64 0)]), .iter none (q.1.map spr)]⟩) (fun q => q.1.length) mixed (by kernel_rfl) (m, []) ⟨by simp, by simp⟩ (Keep.wk (ids := [some 0, some 1, some 4]) ?_) ?_
    · simp only [push_cast, Nat.reduceEqDiff, Nat.reduceLT, Nat.reduceLeDiff, Nat.reduceAdd, Nat.reduceMul, Nat.reduceSub, Nat.reduceBEq, ↓reduceIte, reduceCtorEq, jT, gT, liveT, eEvent] <;> trivial
    rintro ⟨rest, done⟩ ⟨hpm, hok⟩
    dsimp only at hpm hok ⊢
    simp -implicitDefEqProofs (maxSteps := 2000000) only [push_cast, Nat.reduceEqDiff, Nat.reduceLT, Nat.reduceLeDiff, Nat.reduceAdd, Nat.reduceMul, Nat.reduceSub, Nat.reduceBEq, ↓reduceIte, reduceCtorEq, jT, gT, liveT, eEvent]
    refine ⟨fun h0 => ?_, fun k q hip => ?_⟩
    · have hr : rest = [] := by simpa using h0
      subst hr
      rw [List.append_nil] at hpm
      have hall : powOk p.grants x.grants x.sender own = true := powOk_yes fun n hn => by
        rw [← hnm, ← hm.keys] at hn
        obtain ⟨q, hq, rfl⟩ := List.mem_map.1 hn
        exact hok q (hpm.mem_iff.2 hq)
      rw [if_pos hall] at hR
      simp -implicitDefEqProofs (maxSteps := 2000000) only [push_cast, Nat.reduceEqDiff, Nat.reduceLT, Nat.reduceLeDiff, Nat.reduceAdd, Nat.reduceMul, Nat.reduceSub, Nat.reduceBEq, ↓reduceIte, reduceCtorEq]
      refine Callx.closed (says _) rfl rfl (.inl rfl) ?_
      simp -implicitDefEqProofs (maxSteps := 2000000) only [push_cast, Nat.reduceEqDiff, Nat.reduceLT, Nat.reduceLeDiff, Nat.reduceAdd, Nat.reduceMul, Nat.reduceSub, Nat.reduceBEq, ↓reduceIte, reduceCtorEq, vdT]
      subst hR; rfl
    rw [List.getElem?_map, Option.map_eq_some_iff] at hip
    obtain ⟨q, hq, rfl⟩ := hip
    have hil := (List.getElem?_eq_some_iff.1 hq).1
    have hel := List.length_eraseIdx (l := rest) (i := k)
    rw [if_pos hil] at hel
    have hqm : q ∈ m := hpm.mem_iff.1 (List.mem_append_right _ (List.mem_of_getElem? hq))
    have hpn : List.Perm ((done ++ [q]) ++ rest.eraseIdx k) m := by
      rw [List.append_assoc]
      exact (((erase_pick' hq).symm).append_left _).trans hpm
    obtain ⟨n, hn⟩ : ∃ n, q.1 = n := ⟨_, rfl⟩
    have hnn : n ∈ namesL p.grants x.grants := by rw [← hnm, ← hm.keys, ← hn]; exact List.mem_map_of_mem hqm
    obtain ⟨hne, huser⟩ := user_is (hgn n (by rw [hnm]; exact hnn))
    obtain ⟨c, hc⟩ : ∃ c, n[0]? = some c := ⟨_, List.getElem?_eq_getElem (List.length_pos_iff.2 hne)⟩
    simp -implicitDefEqProofs (maxSteps := 2000000) only [push_cast, Nat.reduceEqDiff, Nat.reduceLT, Nat.reduceLeDiff, Nat.reduceAdd, Nat.reduceMul, Nat.reduceSub, Nat.reduceBEq, ↓reduceIte, reduceCtorEq, spr, hn, jT, gT, liveT, eEvent]
    have ga := grantOf p n hgo hB
    rw [grT_u] at ga
    have gb := grantOfJ es s x n hxo hB
    have no : badN p.grants x.grants x.sender own n → R = some 12 := fun hb => by
      rw [powOk_no hnn hb, if_neg (by simp)] at hR
      exact hR.symm
    have yes : ¬ badN p.grants x.grants x.sender own n → ∀ r ∈ done ++ [q], ¬ badN p.grants x.grants x.sender own r.1 := fun hb r hr => by
      rcases List.mem_append.1 hr with hr | hr
      · exact hok r hr
      · simp at hr; subst hr; rw [hn]; exact hb
    unfold badN at no
    rw [show (¬ badN p.grants x.grants x.sender own n) = ¬ badG (grantL p.grants n) (grantL x.grants n) x.sender own n from rfl] at yes
    have hone : has (grantL p.grants n) = true ∨ has (grantL x.grants n) = true := by
      have hh : ∀ {l : List Grant}, n ∈ l.map (·.name) → has (grantL l n) = true := fun {l} hl => by
        obtain ⟨g, hg, hgn⟩ := List.mem_map.1 hl
        cases hq : grantL l n with
        | none => exact absurd hgn (grant_none.1 hq g hg)
        | some g => rfl
      unfold namesL at hnn
      rcases List.mem_append.1 hnn with h | h
      · exact .inl (hh h)
      · exact .inr (hh h)
    generalize grantL p.grants n = A at *
    generalize grantL x.grants n = B at *
    obtain ⟨al, hal⟩ : ∃ y, has A = y := ⟨_, rfl⟩
    obtain ⟨bl, hbl⟩ : ∃ y, has B = y := ⟨_, rfl⟩
    obtain ⟨wl, hwl⟩ : ∃ y, isW n = y := ⟨_, rfl⟩
    unfold badG at no yes
    rw [hal, hbl, hwl] at no yes
    rw [hal, hbl] at hone
    rw [hal] at ga
    rw [hbl] at gb
    rw [hwl] at huser
    unfold userN at huser
    rw [hc] at huser
    refine Callx.closed ga rfl rfl (.inl rfl) ?_
    cases al <;> cases bl
    all_goals
      simp -implicitDefEqProofs (maxSteps := 2000000) only [push_cast, Nat.reduceEqDiff, Nat.reduceLT, Nat.reduceLeDiff, Nat.reduceAdd, Nat.reduceMul, Nat.reduceSub, Nat.reduceBEq, ↓reduceIte, reduceCtorEq, spr, hn, jT, gT, liveT, eEvent]
      refine Callx.closed gb rfl rfl (.inr ⟨rfl, rfl⟩) ?_
      simp -implicitDefEqProofs (maxSteps := 2000000) only [push_cast, Nat.reduceEqDiff, Nat.reduceLT, Nat.reduceLeDiff, Nat.reduceAdd, Nat.reduceMul, Nat.reduceSub, Nat.reduceBEq, ↓reduceIte, reduceCtorEq, spr, hn, jT, gT, liveT, eEvent]
    all_goals
      repeat' first
        | refine iteI (fun _ => ?_) (fun _ => ?_)
        | (refine ⟨by have := List.length_pos_iff.2 hne; omega, fun c' hc' => ?_⟩
           have hc2 := Option.some.inj ((show n[0]? = some c' from hc').symm.trans hc)
           subst hc2
           simp -implicitDefEqProofs (maxSteps := 2000000) only [push_cast, Nat.reduceEqDiff, Nat.reduceLT, Nat.reduceLeDiff, Nat.reduceAdd, Nat.reduceMul, Nat.reduceSub, Nat.reduceBEq, ↓reduceIte, reduceCtorEq, spr, hn, c42, c35, jT, gT, liveT, eEvent])
        | (refine Callx.closed (says _) rfl rfl (.inl rfl) ?_
           simp -implicitDefEqProofs (maxSteps := 2000000) only [push_cast, Nat.reduceEqDiff, Nat.reduceLT, Nat.reduceLeDiff, Nat.reduceAdd, Nat.reduceMul, Nat.reduceSub, Nat.reduceBEq, ↓reduceIte, reduceCtorEq, vdT])
        | fail
    all_goals clear hR hm hpm hok hgn hnn hord p1 ga gb hnm hglg np nx
    all_goals first
      | (rw [no (by clear yes; simp_all; done)]; done)
      | (rw [no (by clear yes; simp_all <;> omega)]; done)
      | (refine ⟨(rest.eraseIdx k, done ++ [q]), ⟨hpn, yes (by clear no; simp_all; done)⟩, by dsimp only; omega, Keep.wk (ids := [some 0, some 1, some 2]) ?_⟩
         simp only [push_cast, Nat.reduceEqDiff, Nat.reduceLT, Nat.reduceLeDiff, Nat.reduceAdd, Nat.reduceMul, Nat.reduceSub, Nat.reduceBEq, ↓reduceIte, reduceCtorEq, eraseE_map', jT, gT, liveT, eEvent] <;> trivial)
      | (refine ⟨(rest.eraseIdx k, done ++ [q]), ⟨hpn, yes (by clear no; simp_all <;> omega)⟩, by dsimp only; omega, Keep.wk (ids := [some 0, some 1, some 2]) ?_⟩
         simp only [push_cast, Nat.reduceEqDiff, Nat.reduceLT, Nat.reduceLeDiff, Nat.reduceAdd, Nat.reduceMul, Nat.reduceSub, Nat.reduceBEq, ↓reduceIte, reduceCtorEq, eraseE_map', jT, gT, liveT, eEvent] <;> trivial)
      | skip
end Go.Proofs.YtmgdkkhnjkepiaaGreat.BX
namespace Go.Proofs.YtmgdkkhnjkepiaaGreat.BX
set_option linter.unusedSectionVars false
set_option linter.unusedSimpArgs false
set_option linter.unusedVariables false
open Go Go.RowKit
set_option maxRecDepth 20000
set_option maxHeartbeats 400000
noncomputable def rulesL (es : List Event) (s : List Entry) (x : Event) : List (Option Int) := [vCreate es s x, vJoin es s x, vLeave es s x, vInside es s x, vInvite es s x, vPut es s x, vOther es s x, vGrants es s x]
def firstV : List (Option Int) → Int
  | [] => 0
  | some c :: _ => c
  | none :: r => firstV r
theorem firstV_at : ∀ {l : List (Option Int)} {i : Nat} {c : Int}, l[i]? = some (some c) → (∀ k < i, l[k]? = some none) → firstV l = c
  | [], _, _, h, _ => by simp at h
  | o :: l, 0, c, h, _ => by simp at h; subst h; rfl
  | o :: l, i + 1, c, h, hk => by
    have h0 := hk 0 (by omega)
    simp at h0
    subst h0
    show firstV l = c
    exact firstV_at (by simpa using h) fun k hk2 => by simpa using hk (k + 1) (by omega)
theorem firstV_no : ∀ {l : List (Option Int)}, (∀ k < l.length, l[k]? = some none) → firstV l = 0
  | [], _ => rfl
  | o :: l, hk => by
    have h0 := hk 0 (by simp)
    simp at h0
    subst h0
    exact firstV_no (l := l) fun k hk2 => by simpa using hk (k + 1) (by simp; omega)
variable [Bd]
theorem member_value {x : Event} (he : evOk x = 0) (h : x.typ = sMember) : x.value = sJoin ∨ x.value = sInvite ∨ x.value = sLeave ∨ x.value = sBan := by
  have hc := evOk_content he
  unfold contentB at hc
  rw [h, if_neg (by decide), if_pos rfl] at hc
  simp only [Bool.and_eq_true, decide_eq_true_eq] at hc
  simpa using hc.2
theorem rules_code (es : List Event) (s : List Entry) (x : Event) (he : evOk x = 0) : firstV (rulesL es s x) = allowC es s x := by
  have n1 : ¬ sJoin = sLeave := by decide
  have n2 : ¬ sJoin = sInvite := by decide
  have n3 : ¬ sJoin = sBan := by decide
  have n4 : ¬ sLeave = sInvite := by decide
  have n5 : ¬ sLeave = sBan := by decide
  have n6 : ¬ sInvite = sBan := by decide
  have n7 : ¬ sMember = sCreate := by decide
  have n8 : ¬ sMember = sPower := by decide
  have hmv := member_value he
  clear he
  unfold rulesL allowC vCreate
  by_cases h1 : x.typ = sCreate
  · simp [h1, firstV]
  by_cases h2 : has (slotE es s (sCreate, [])) = true
  rotate_left
  · simp [h1, h2, firstV]
  rw [if_neg h1, if_neg (Classical.not_not.2 h2), if_neg h1, if_neg (Classical.not_not.2 h2)]
  by_cases hm : x.typ = sMember
  · rcases hmv hm with hval | hval | hval | hval
    · have e2 : vJoin es s x = some (joinC es s x) := by unfold vJoin; rw [if_pos ⟨hm, hval⟩]
      rw [e2, if_pos ⟨hm, hval⟩]; rfl
    · have e2 : vJoin es s x = none := by unfold vJoin; rw [if_neg (by rw [hval]; exact fun h => n2 h.2.symm)]
      have e3 : vLeave es s x = none := by unfold vLeave; rw [if_neg (by rw [hval]; exact fun h => n4 h.1.2.symm)]
      rw [e2, e3, if_neg (by rw [hval]; exact fun h => n2 h.2.symm), if_neg (by rw [hval]; exact fun h => n4 h.2.1.symm)]
      by_cases h6 : memb es s x.sender = sJoin
      · have e4 : vInside es s x = none := by unfold vInside; rw [if_pos h6]
        have e5 : vInvite es s x = some (memC es s x) := by unfold vInvite memC; rw [if_pos ⟨hm, hval⟩, if_pos hval]
        rw [e4, e5, if_neg (Classical.not_not.2 h6), if_pos hm]; rfl
      · have e4 : vInside es s x = some 6 := by unfold vInside; rw [if_neg h6]
        rw [e4, if_pos h6]; rfl
    · have e2 : vJoin es s x = none := by unfold vJoin; rw [if_neg (by rw [hval]; exact fun h => n1 h.2.symm)]
      rw [e2, if_neg (by rw [hval]; exact fun h => n1 h.2.symm)]
      by_cases hs : x.sender = x.key
      · have e3 : vLeave es s x = some (if memb es s x.key = sJoin ∨ memb es s x.key = sInvite then 0 else 10) := by unfold vLeave; rw [if_pos ⟨⟨hm, hval⟩, hs⟩]
        rw [if_pos ⟨hm, hval, hs⟩, e3]; rfl
      · have e3 : vLeave es s x = none := by unfold vLeave; rw [if_neg (fun h => hs h.2)]
        rw [e3, if_neg (fun h => hs h.2.2)]
        by_cases h6 : memb es s x.sender = sJoin
        · have e4 : vInside es s x = none := by unfold vInside; rw [if_pos h6]
          have e5 : vInvite es s x = none := by unfold vInvite; rw [if_neg (by rw [hval]; exact fun h => n4 h.2)]
          have e6 : vPut es s x = some (memC es s x) := by
            by_cases k1 : memb es s x.key = sBan <;> by_cases k2 : lvl es s x.sender < thing es s sBan <;> by_cases k3 : lvl es s x.sender < thing es s sKick <;> simp [vPut, memC, -Int.not_lt, hm, k1, k2, k3, hval, n4, n5]
          rw [e4, e5, e6, if_neg (Classical.not_not.2 h6), if_pos hm]; rfl
        · have e4 : vInside es s x = some 6 := by unfold vInside; rw [if_neg h6]
          rw [e4, if_pos h6]; rfl
    · have e2 : vJoin es s x = none := by unfold vJoin; rw [if_neg (by rw [hval]; exact fun h => n3 h.2.symm)]
      have e3 : vLeave es s x = none := by unfold vLeave; rw [if_neg (by rw [hval]; exact fun h => n5 h.1.2.symm)]
      rw [e2, e3, if_neg (by rw [hval]; exact fun h => n3 h.2.symm), if_neg (by rw [hval]; exact fun h => n5 h.2.1.symm)]
      by_cases h6 : memb es s x.sender = sJoin
      · have e4 : vInside es s x = none := by unfold vInside; rw [if_pos h6]
        have e5 : vInvite es s x = none := by unfold vInvite; rw [if_neg (by rw [hval]; exact fun h => n6 h.2.symm)]
        have e6 : vPut es s x = some (memC es s x) := by
          by_cases k2 : lvl es s x.sender < thing es s sBan <;> simp [vPut, memC, -Int.not_lt, hm, k2, hval, Ne.symm n5, Ne.symm n6]
        rw [e4, e5, e6, if_neg (Classical.not_not.2 h6), if_pos hm]; rfl
      · have e4 : vInside es s x = some 6 := by unfold vInside; rw [if_neg h6]
        rw [e4, if_pos h6]; rfl
  · have e2 : vJoin es s x = none := by unfold vJoin; rw [if_neg (fun h => hm h.1)]
    have e3 : vLeave es s x = none := by unfold vLeave; rw [if_neg (fun h => hm h.1.1)]
    have e5 : vInvite es s x = none := by unfold vInvite; rw [if_neg (fun h => hm h.1)]
    have e6 : vPut es s x = none := by unfold vPut; rw [if_neg (fun h => hm h.1)]
    rw [e2, e3, e5, e6, if_neg (fun h => hm h.1), if_neg (fun h => hm h.1), if_neg hm]
    by_cases h6 : memb es s x.sender = sJoin
    · have e4 : vInside es s x = none := by unfold vInside; rw [if_pos h6]
      rw [e4, if_neg (Classical.not_not.2 h6)]
      unfold vOther vGrants otherC
      by_cases k1 : lvl es s x.sender < needLv es s x
      · simp [k1, firstV]
      · rw [if_neg k1, if_neg k1]
        by_cases k2 : x.isState = true ∧ ¬ x.key = [] ∧ x.key[0]? = some 64 ∧ ¬ x.key = x.sender
        · rw [if_pos k2, if_pos k2]; rfl
        · rw [if_neg k2, if_neg k2]
          by_cases k3 : x.typ = sPower <;> by_cases k4 : has (slotE es s (sPower, [])) = true <;> by_cases k5 : powOk (oEv (slotE es s (sPower, []))).grants x.grants x.sender (lvl es s x.sender) = true <;> simp [k3, k4, k5, firstV]
    · have e4 : vInside es s x = some 6 := by unfold vInside; rw [if_neg h6]
      rw [e4, if_pos h6]; rfl
theorem jT_len {es : List Event} {s : List Entry} {x : Event} : (jT es s x).cells.length = 12 := rfl
theorem jT_ag {es : List Event} {s : List Entry} {x : Event} : (jT es s x).isAg = true := rfl
theorem judgeCode (es : List Event) (s : List Entry) (x : Event) (hv : Valid es) (hf : fitsB es s = true) (he : evOk x = 0) (hB : Bd.B ≤ 2147483648) : Con P0 71 [jT es s x] (.t (.i .i64 (allowC es s x))) [] := by
  obtain ⟨fs, hfs⟩ : ∃ fs : List Nat, fs = [132 + 1000000, 133 + 1000000, 134 + 1000000, 135 + 1000000, 136 + 1000000, 137 + 1000000, 138 + 1000000, 139 + 1000000] := ⟨_, rfl⟩
  obtain ⟨vl, hvl⟩ : ∃ vl, rulesL es s x = vl := ⟨_, rfl⟩
  have hcon : ∀ (i : Nat) f, fs[i]? = some f → (∀ k < i, vl[k]? = some none) → 1000000 ≤ f ∧ ∃ v, vl[i]? = some v ∧ Con P0 (f - 1000000) [jT es s x] (.t (vdT v)) [] := by
    intro i f h1 h2
    rw [← hvl] at h2 ⊢
    rw [hfs] at h1
    match i, h1 with
    | 0, h1 => cases h1; exact ⟨by decide, _, rfl, judgeCreate es s x hv hf⟩
    | 1, h1 =>
      cases h1
      refine ⟨by decide, _, rfl, judgeJoin es s x hv hf ?_⟩
      have := h2 0 (by omega)
      simp only [rulesL, List.getElem?_cons_zero, Option.some.injEq] at this
      unfold vCreate at this
      split at this
      · cases this
      · split at this
        · cases this
        · rename_i h; exact Classical.not_not.1 h
    | 2, h1 => cases h1; exact ⟨by decide, _, rfl, judgeLeave es s x hv hf⟩
    | 3, h1 => cases h1; exact ⟨by decide, _, rfl, judgeInside es s x hv hf⟩
    | 4, h1 => cases h1; exact ⟨by decide, _, rfl, judgeInvite es s x hv hf hB⟩
    | 5, h1 => cases h1; exact ⟨by decide, _, rfl, judgePut es s x hv hf hB⟩
    | 6, h1 => cases h1; exact ⟨by decide, _, rfl, judgeOther es s x hv hf he hB⟩
    | 7, h1 => cases h1; exact ⟨by decide, _, rfl, judgeGrants es s x hv hf he hB⟩
    | i + 8, h1 => simp at h1
  have hfl : fs.length = 8 := by rw [hfs]; rfl
  have hvn : vl.length = 8 := by rw [← hvl]; rfl
  rw [← rules_code es s x he, hvl]
  refine Con.intro (fn := Tryz.f71) [.tmp 2] (fun _ => (0, [])) mixed (by kernel_rfl) rfl (by decide) rfl (by rfl) (by kernel_rfl) ?_
  simp -implicitDefEqProofs (maxSteps := 2000000) only [push_cast, Nat.reduceEqDiff, Nat.reduceLT, Nat.reduceLeDiff, Nat.reduceAdd, Nat.reduceMul, Nat.reduceSub, Nat.reduceBEq, ↓reduceIte, reduceCtorEq, jT_len, jT_ag]
  have := Bd.lo
  refine ⟨rfl, by omega, fun _ => ?_⟩
  refine WL.loop (ι := Nat) (D := (fun _ => (0, []))) (fun i => i ≤ fs.length ∧ ∀ k < i, vl[k]? = some none) (fun i => ⟨35, [(22, .sr 1), (23, .t (.i .i64 8)), (24, .t (.i .i64 i))], [.box (.t (jT es s x)), .arr 177 1 .clo (fs.map fun f => T.fn f [jT es s x])]⟩) (fun i => fs.length - i) mixed (by kernel_rfl) 0 ⟨by omega, by simp⟩ (Keep.wk (ids := [some 0, some 1]) ?_) ?_
  · simp only [push_cast, Nat.reduceEqDiff, Nat.reduceLT, Nat.reduceLeDiff, Nat.reduceAdd, Nat.reduceMul, Nat.reduceSub, Nat.reduceBEq, ↓reduceIte, reduceCtorEq, hfs, List.map_cons, List.map_nil] <;> first | trivial | rfl | exact ⟨rfl, rfl⟩
  rintro i ⟨hi, hno⟩
  simp -implicitDefEqProofs (maxSteps := 2000000) only [push_cast, Nat.reduceEqDiff, Nat.reduceLT, Nat.reduceLeDiff, Nat.reduceAdd, Nat.reduceMul, Nat.reduceSub, Nat.reduceBEq, ↓reduceIte, reduceCtorEq, jT_len, jT_ag]
  refine iteI (fun hlt => ⟨by omega, by omega, fun f hf1 => ?_⟩) (fun hlt => ?_)
  rotate_left
  · rw [firstV_no (fun k hk => hno k (by omega))]
  rw [Int.toNat_natCast] at hf1
  obtain ⟨hf6, v, hv1, hcv⟩ := hcon i f hf1 hno
  simp -implicitDefEqProofs (maxSteps := 2000000) only [push_cast, Nat.reduceEqDiff, Nat.reduceLT, Nat.reduceLeDiff, Nat.reduceAdd, Nat.reduceMul, Nat.reduceSub, Nat.reduceBEq, ↓reduceIte, reduceCtorEq, hf6]
  refine Callx.closed hcv rfl rfl (.inl rfl) ?_
  cases v with
  | none =>
    simp -implicitDefEqProofs (maxSteps := 2000000) only [push_cast, Nat.reduceEqDiff, Nat.reduceLT, Nat.reduceLeDiff, Nat.reduceAdd, Nat.reduceMul, Nat.reduceSub, Nat.reduceBEq, ↓reduceIte, reduceCtorEq, vdT]
    refine ⟨by unfold inI64; omega, i + 1, ⟨by omega, fun k hk => ?_⟩, by omega, Keep.wk (ids := [some 0, some 1]) ?_⟩
    · rcases Nat.lt_or_ge k i with h | h
      · exact hno k h
      · have : k = i := by omega
        subst this
        exact hv1
    · simp only [push_cast, Nat.reduceEqDiff, Nat.reduceLT, Nat.reduceLeDiff, Nat.reduceAdd, Nat.reduceMul, Nat.reduceSub, Nat.reduceBEq, ↓reduceIte, reduceCtorEq] <;> trivial
  | some c =>
    simp -implicitDefEqProofs (maxSteps := 2000000) only [push_cast, Nat.reduceEqDiff, Nat.reduceLT, Nat.reduceLeDiff, Nat.reduceAdd, Nat.reduceMul, Nat.reduceSub, Nat.reduceBEq, ↓reduceIte, reduceCtorEq, vdT]
    rw [firstV_at hv1 hno]
end Go.Proofs.YtmgdkkhnjkepiaaGreat.BX
namespace Go.Proofs.YtmgdkkhnjkepiaaGreat.BX
set_option linter.unusedSectionVars false
set_option linter.unusedSimpArgs false
set_option linter.unusedVariables false
open Go Go.RowKit
set_option maxRecDepth 20000
set_option maxHeartbeats 400000
noncomputable def allowedC (es : List Event) (s : List Entry) (x : Event) : Int := if evOk x = 0 ∧ roomB es = true ∧ fitsB es s = true then allowC es s x else 99
variable [Bd]
theorem specAllowed (es : List Event) (s : List Entry) (x : Event) (hB : Bd.B ≤ 2147483648) : Con P0 15 [eRoom ⟨es⟩, eEntryS s, eEvent x] (.t (.i .i64 (allowedC es s x))) [] := by
  refine Con.intro (fn := Tryz.f15) [.tmp 6] (fun _ => (0, [])) mixed (by kernel_rfl) rfl (by decide) rfl (by rfl) (by kernel_rfl) ?_
  simp -implicitDefEqProofs (maxSteps := 2000000) only [push_cast, Nat.reduceEqDiff, Nat.reduceLT, Nat.reduceLeDiff, Nat.reduceAdd, Nat.reduceMul, Nat.reduceSub, Nat.reduceBEq, ↓reduceIte, reduceCtorEq, eRoom]
  refine Callx.closed (specEventOk x) rfl rfl (.inl rfl) ?_
  simp -implicitDefEqProofs (maxSteps := 2000000) only [push_cast, Nat.reduceEqDiff, Nat.reduceLT, Nat.reduceLeDiff, Nat.reduceAdd, Nat.reduceMul, Nat.reduceSub, Nat.reduceBEq, ↓reduceIte, reduceCtorEq, eRoom]
  unfold allowedC
  refine iteI (fun h1 => ?_) (fun h1 => ?_)
  · rw [if_neg (fun h => h1 h.1)]
  refine Callx.closed (specRoomOk es) rfl rfl (.inl rfl) ?_
  simp -implicitDefEqProofs (maxSteps := 2000000) only [push_cast, Nat.reduceEqDiff, Nat.reduceLT, Nat.reduceLeDiff, Nat.reduceAdd, Nat.reduceMul, Nat.reduceSub, Nat.reduceBEq, ↓reduceIte, reduceCtorEq, eRoom]
  refine iteI (fun h2 => ?_) (fun h2 => ?_)
  · rw [if_neg (fun h => by rw [h.2.1] at h2; cases h2)]
  refine Callx.closed (l5Fits es s) rfl rfl (.inl rfl) ?_
  simp -implicitDefEqProofs (maxSteps := 2000000) only [push_cast, Nat.reduceEqDiff, Nat.reduceLT, Nat.reduceLeDiff, Nat.reduceAdd, Nat.reduceMul, Nat.reduceSub, Nat.reduceBEq, ↓reduceIte, reduceCtorEq, eRoom]
  refine iteI (fun h3 => ?_) (fun h3 => ?_)
  · rw [if_neg (fun h => by rw [h.2.2] at h3; cases h3)]
  have h1 : evOk x = 0 := Classical.not_not.1 h1
  have h2 : roomB es = true := by simpa using h2
  have h3 : fitsB es s = true := by simpa using h3
  rw [if_pos ⟨h1, h2, h3⟩]
  refine Callx.closed (l5Allowed es s x hB (room_valid h2) h3 h1) rfl rfl (.inl rfl) ?_
  simp -implicitDefEqProofs (maxSteps := 2000000) only [push_cast, Nat.reduceEqDiff, Nat.reduceLT, Nat.reduceLeDiff, Nat.reduceAdd, Nat.reduceMul, Nat.reduceSub, Nat.reduceBEq, ↓reduceIte, reduceCtorEq, eRoom]
theorem implAllowed (es : List Event) (s : List Entry) (x : Event) (hB : Bd.B ≤ 2147483648) : Con P0 19 [eRoom ⟨es⟩, eEntryS s, eEvent x] (.t (.i .i64 (allowedC es s x))) [] := by
  refine Con.intro (fn := Tryz.f19) [.tmp 6] (fun i => if i = 4 then (7, []) else (0, [])) mixed (by kernel_rfl) rfl (by decide) rfl (by rfl) (by kernel_rfl) ?_
  simp -implicitDefEqProofs (maxSteps := 2000000) only [push_cast, Nat.reduceEqDiff, Nat.reduceLT, Nat.reduceLeDiff, Nat.reduceAdd, Nat.reduceMul, Nat.reduceSub, Nat.reduceBEq, ↓reduceIte, reduceCtorEq, eRoom]
  refine Callx.closed (graphOf es hB) rfl rfl (.inl rfl) ?_
  simp -implicitDefEqProofs (maxSteps := 2000000) only [push_cast, Nat.reduceEqDiff, Nat.reduceLT, Nat.reduceLeDiff, Nat.reduceAdd, Nat.reduceMul, Nat.reduceSub, Nat.reduceBEq, ↓reduceIte, reduceCtorEq, eRoom]
  unfold allowedC
  by_cases hr : roomB es = true
  · rw [if_pos hr]
    simp -implicitDefEqProofs (maxSteps := 2000000) only [push_cast, Nat.reduceEqDiff, Nat.reduceLT, Nat.reduceLeDiff, Nat.reduceAdd, Nat.reduceMul, Nat.reduceSub, Nat.reduceBEq, ↓reduceIte, reduceCtorEq, eRoom]
    refine Callx.closed (graphFits es s) rfl rfl (.inl rfl) ?_
    simp -implicitDefEqProofs (maxSteps := 2000000) only [push_cast, Nat.reduceEqDiff, Nat.reduceLT, Nat.reduceLeDiff, Nat.reduceAdd, Nat.reduceMul, Nat.reduceSub, Nat.reduceBEq, ↓reduceIte, reduceCtorEq, eRoom]
    refine iteI (fun hf => ?_) (fun hf => ?_)
    · rw [if_neg (fun h => by rw [h.2.2] at hf; cases hf)]
    have hf : fitsB es s = true := by simpa using hf
    refine Callx.closed (implEventOk x hB) rfl rfl (.inl rfl) ?_
    simp -implicitDefEqProofs (maxSteps := 2000000) only [push_cast, Nat.reduceEqDiff, Nat.reduceLT, Nat.reduceLeDiff, Nat.reduceAdd, Nat.reduceMul, Nat.reduceSub, Nat.reduceBEq, ↓reduceIte, reduceCtorEq, eRoom]
    refine iteI (fun h1 => ?_) (fun h1 => ?_)
    · rw [if_neg (fun h => h1 h.1)]
    have h1 : evOk x = 0 := Classical.not_not.1 h1
    rw [if_pos ⟨h1, hr, hf⟩]
    refine CallV.of (r := liveT s) (liveOf s) (by simp only [push_cast, Nat.reduceEqDiff, Nat.reduceLT, Nat.reduceLeDiff, Nat.reduceAdd, Nat.reduceMul, Nat.reduceSub, Nat.reduceBEq, ↓reduceIte, reduceCtorEq]; rfl) rfl (.inl rfl) ?_
    simp -implicitDefEqProofs (maxSteps := 2000000) only [push_cast, Nat.reduceEqDiff, Nat.reduceLT, Nat.reduceLeDiff, Nat.reduceAdd, Nat.reduceMul, Nat.reduceSub, Nat.reduceBEq, ↓reduceIte, reduceCtorEq, eRoom, gT, liveT, eEvent]
    refine CallV.t (judgeCode es s x (room_valid hr) hf h1 hB) (.inr rfl) ?_
    simp -implicitDefEqProofs (maxSteps := 2000000) only [push_cast, Nat.reduceEqDiff, Nat.reduceLT, Nat.reduceLeDiff, Nat.reduceAdd, Nat.reduceMul, Nat.reduceSub, Nat.reduceBEq, ↓reduceIte, reduceCtorEq, eRoom]
  · rw [if_neg hr]
    simp -implicitDefEqProofs (maxSteps := 2000000) only [push_cast, Nat.reduceEqDiff, Nat.reduceLT, Nat.reduceLeDiff, Nat.reduceAdd, Nat.reduceMul, Nat.reduceSub, Nat.reduceBEq, ↓reduceIte, reduceCtorEq, eRoom]
    refine Callx.closed (graphFitsNil s) rfl rfl (.inl rfl) ?_
    simp -implicitDefEqProofs (maxSteps := 2000000) only [push_cast, Nat.reduceEqDiff, Nat.reduceLT, Nat.reduceLeDiff, Nat.reduceAdd, Nat.reduceMul, Nat.reduceSub, Nat.reduceBEq, ↓reduceIte, reduceCtorEq, eRoom]
    rw [if_neg (fun h => hr h.2.1)]
theorem lawAllowed (r : Room) (s : List Entry) (x : Event) (hB : mxs [eRoom r, eEntryS s, eEvent x] ≤ 1048576 → Bd.B ≤ 2147483648) : Con P0 3 [eRoom r, eEntryS s, eEvent x] (.t (.b true)) [] := by
  refine Con.intro (fn := Tryz.f3) [.tmp 6] (fun i => if i = 22 then (5, []) else if i = 18 then (5, []) else if i = 11 then (8, []) else (0, [])) mixed (by kernel_rfl) rfl (by decide) rfl (by rfl) (by kernel_rfl) ?_
  simp -implicitDefEqProofs (maxSteps := 2000000) only [push_cast, Nat.reduceEqDiff, Nat.reduceLT, Nat.reduceLeDiff, Nat.reduceAdd, Nat.reduceMul, Nat.reduceSub, Nat.reduceBEq, ↓reduceIte, reduceCtorEq]
  refine Callx.closed (szRoom r _ (by omega) (by omega)) rfl rfl (.inl rfl) ?_
  simp -implicitDefEqProofs (maxSteps := 2000000) only [push_cast, Nat.reduceEqDiff, Nat.reduceLT, Nat.reduceLeDiff, Nat.reduceAdd, Nat.reduceMul, Nat.reduceSub, Nat.reduceBEq, ↓reduceIte, reduceCtorEq]
  rcases szR_cases (eRoom r).wt 1048576 with ⟨g1, g2⟩ | ⟨g1, g2⟩
  rotate_left
  · simp only [g2]
    rw [if_pos (by omega)]
    trivial
  simp only [g2]
  rw [if_neg (by omega)]
  refine Callx.closed (szEntryS s _ (by omega) (by omega)) rfl rfl (.inl rfl) ?_
  simp -implicitDefEqProofs (maxSteps := 2000000) only [push_cast, Nat.reduceEqDiff, Nat.reduceLT, Nat.reduceLeDiff, Nat.reduceAdd, Nat.reduceMul, Nat.reduceSub, Nat.reduceBEq, ↓reduceIte, reduceCtorEq]
  rcases szR_cases (eEntryS s).wt (1048576 - (eRoom r).wt) with ⟨g3, g4⟩ | ⟨g3, g4⟩
  rotate_left
  · simp only [g4]
    rw [if_pos (by omega)]
    trivial
  simp only [g4]
  rw [if_neg (by omega)]
  refine Callx.closed (szEvent x _ (by omega) (by omega)) rfl rfl (.inl rfl) ?_
  simp -implicitDefEqProofs (maxSteps := 2000000) only [push_cast, Nat.reduceEqDiff, Nat.reduceLT, Nat.reduceLeDiff, Nat.reduceAdd, Nat.reduceMul, Nat.reduceSub, Nat.reduceBEq, ↓reduceIte, reduceCtorEq]
  rcases szR_cases (eEvent x).wt (1048576 - (eRoom r).wt - (eEntryS s).wt) with ⟨g5, g6⟩ | ⟨g5, g6⟩
  rotate_left
  · simp only [g6]
    rw [if_pos (by omega)]
    trivial
  simp only [g6]
  rw [if_neg (by omega)]
  have hB := hB (mxs_cons (mx_of (by omega)) (mxs_cons (mx_of (by omega)) (mxs_cons (mx_of (by omega)) mxs_nil)))
  have toR : ∀ {K : T → Prop}, K (eRoom r) → CallV P0 16 [eRoom r] true K := fun k => CallV.of (r := eRoom r) (toRoom hB r) (by simp only [push_cast, Nat.reduceEqDiff, Nat.reduceLT, Nat.reduceLeDiff, Nat.reduceAdd, Nat.reduceMul, Nat.reduceSub, Nat.reduceBEq, ↓reduceIte, reduceCtorEq]; rfl) rfl (.inl rfl) k
  have toS : ∀ {K : T → Prop}, K (eEntryS s) → CallV P0 17 [eEntryS s] true K := fun k => CallV.of (r := eEntryS s) (toEntryS hB s) (by simp only [push_cast, Nat.reduceEqDiff, Nat.reduceLT, Nat.reduceLeDiff, Nat.reduceAdd, Nat.reduceMul, Nat.reduceSub, Nat.reduceBEq, ↓reduceIte, reduceCtorEq]; rfl) rfl (.inl rfl) k
  have toX : ∀ {K : T → Prop}, K (eEvent x) → CallV P0 18 [eEvent x] true K := fun k => CallV.of (r := eEvent x) (toEvent hB x) (by simp only [push_cast, Nat.reduceEqDiff, Nat.reduceLT, Nat.reduceLeDiff, Nat.reduceAdd, Nat.reduceMul, Nat.reduceSub, Nat.reduceBEq, ↓reduceIte, reduceCtorEq]; rfl) rfl (.inl rfl) k
  refine toR ?_
  simp -implicitDefEqProofs (maxSteps := 2000000) only [push_cast, Nat.reduceEqDiff, Nat.reduceLT, Nat.reduceLeDiff, Nat.reduceAdd, Nat.reduceMul, Nat.reduceSub, Nat.reduceBEq, ↓reduceIte, reduceCtorEq]
  refine toS ?_
  simp -implicitDefEqProofs (maxSteps := 2000000) only [push_cast, Nat.reduceEqDiff, Nat.reduceLT, Nat.reduceLeDiff, Nat.reduceAdd, Nat.reduceMul, Nat.reduceSub, Nat.reduceBEq, ↓reduceIte, reduceCtorEq]
  refine toX ?_
  simp -implicitDefEqProofs (maxSteps := 2000000) only [push_cast, Nat.reduceEqDiff, Nat.reduceLT, Nat.reduceLeDiff, Nat.reduceAdd, Nat.reduceMul, Nat.reduceSub, Nat.reduceBEq, ↓reduceIte, reduceCtorEq]
  refine CallV.t (specAllowed r.events s x hB) (.inr rfl) ?_
  simp -implicitDefEqProofs (maxSteps := 2000000) only [push_cast, Nat.reduceEqDiff, Nat.reduceLT, Nat.reduceLeDiff, Nat.reduceAdd, Nat.reduceMul, Nat.reduceSub, Nat.reduceBEq, ↓reduceIte, reduceCtorEq]
  refine Callx.closed (toRoom hB r) rfl rfl (.inl rfl) ?_
  simp -implicitDefEqProofs (maxSteps := 2000000) only [push_cast, Nat.reduceEqDiff, Nat.reduceLT, Nat.reduceLeDiff, Nat.reduceAdd, Nat.reduceMul, Nat.reduceSub, Nat.reduceBEq, ↓reduceIte, reduceCtorEq]
  refine Callx.closed (toEntryS hB s) rfl rfl (.inl rfl) ?_
  simp -implicitDefEqProofs (maxSteps := 2000000) only [push_cast, Nat.reduceEqDiff, Nat.reduceLT, Nat.reduceLeDiff, Nat.reduceAdd, Nat.reduceMul, Nat.reduceSub, Nat.reduceBEq, ↓reduceIte, reduceCtorEq]
  refine Callx.closed (toEvent hB x) rfl rfl (.inl rfl) ?_
  simp -implicitDefEqProofs (maxSteps := 2000000) only [push_cast, Nat.reduceEqDiff, Nat.reduceLT, Nat.reduceLeDiff, Nat.reduceAdd, Nat.reduceMul, Nat.reduceSub, Nat.reduceBEq, ↓reduceIte, reduceCtorEq]
  refine Callx.closed (implAllowed r.events s x hB) rfl rfl (.inr ⟨rfl, rfl⟩) ?_
  simp -implicitDefEqProofs (maxSteps := 2000000) only [push_cast, Nat.reduceEqDiff, Nat.reduceLT, Nat.reduceLeDiff, Nat.reduceAdd, Nat.reduceMul, Nat.reduceSub, Nat.reduceBEq, ↓reduceIte, reduceCtorEq]
  refine toR ?_
  simp -implicitDefEqProofs (maxSteps := 2000000) only [push_cast, Nat.reduceEqDiff, Nat.reduceLT, Nat.reduceLeDiff, Nat.reduceAdd, Nat.reduceMul, Nat.reduceSub, Nat.reduceBEq, ↓reduceIte, reduceCtorEq]
  refine CallV.t (eqRoom r r) (.inr rfl) ?_
  simp -implicitDefEqProofs (maxSteps := 2000000) only [push_cast, Nat.reduceEqDiff, Nat.reduceLT, Nat.reduceLeDiff, Nat.reduceAdd, Nat.reduceMul, Nat.reduceSub, Nat.reduceBEq, ↓reduceIte, reduceCtorEq]
  refine Callx.closed (toEntryS hB s) rfl rfl (.inl rfl) ?_
  simp -implicitDefEqProofs (maxSteps := 2000000) only [push_cast, Nat.reduceEqDiff, Nat.reduceLT, Nat.reduceLeDiff, Nat.reduceAdd, Nat.reduceMul, Nat.reduceSub, Nat.reduceBEq, ↓reduceIte, reduceCtorEq]
  refine Callx.closed (eqEntryS s s) rfl rfl (.inr ⟨rfl, rfl⟩) ?_
  simp -implicitDefEqProofs (maxSteps := 2000000) only [push_cast, Nat.reduceEqDiff, Nat.reduceLT, Nat.reduceLeDiff, Nat.reduceAdd, Nat.reduceMul, Nat.reduceSub, Nat.reduceBEq, ↓reduceIte, reduceCtorEq]
  refine toX ?_
  simp -implicitDefEqProofs (maxSteps := 2000000) only [push_cast, Nat.reduceEqDiff, Nat.reduceLT, Nat.reduceLeDiff, Nat.reduceAdd, Nat.reduceMul, Nat.reduceSub, Nat.reduceBEq, ↓reduceIte, reduceCtorEq]
  refine CallV.t (eqEvent x x) (.inr rfl) ?_
  simp -implicitDefEqProofs (maxSteps := 2000000) only [push_cast, Nat.reduceEqDiff, Nat.reduceLT, Nat.reduceLeDiff, Nat.reduceAdd, Nat.reduceMul, Nat.reduceSub, Nat.reduceBEq, ↓reduceIte, reduceCtorEq]
end Go.Proofs.YtmgdkkhnjkepiaaGreat.BX
