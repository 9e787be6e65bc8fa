/-
  'StateOk', the document's and the program's.
-/
import Derived.Test.YthhgcklidfilfaaEq
import Derived.Test.YthhgcklidfilfaaTo
import Derived.Test.YthhgcklidfilfaaSz
import Derived.Test.YthhgcklidfilfaaLa
namespace Go.Proofs.Ythhgcklidfilfaa.BX
set_option linter.unusedSectionVars false
set_option linter.unusedSimpArgs false
set_option linter.unusedVariables false
open Go Go.RowKit
set_option maxRecDepth 20000
set_option maxHeartbeats 400000

/-! ### the plain law -/
theorem bytesLess_eq : ∀ (x y : List UInt8), Op.bytesLess x y = decide (x < y)
  | [], [] => by simp [Op.bytesLess]
  | _ :: _, [] => by simp [Op.bytesLess]
  | [], _ :: _ => by simp [Op.bytesLess]
  | a :: x, b :: y => by
    rw [Op.bytesLess, bytesLess_eq x y]
    simp only [List.cons_lt_cons_iff]
    by_cases h1 : a < b <;> by_cases h2 : a = b <;> by_cases h3 : x < y <;> simp [h1, h2, h3]
theorem less_irrefl (x : List UInt8) : Op.bytesLess x x = false := by
  rw [bytesLess_eq]; simp [List.lt_irrefl]
theorem less_asymm {x y : List UInt8} (h : Op.bytesLess x y = true) : Op.bytesLess y x = false := by
  rw [bytesLess_eq] at h ⊢
  simp only [decide_eq_true_eq, decide_eq_false_iff_not] at h ⊢
  exact List.lt_asymm h
theorem less_trans {x y z : List UInt8} (h : Op.bytesLess x y = true) (k : Op.bytesLess y z = true) : Op.bytesLess x z = true := by
  rw [bytesLess_eq] at h k ⊢
  simp only [decide_eq_true_eq] at h k ⊢
  exact List.lt_trans h k
theorem less_total {x y : List UInt8} (h : Op.bytesLess x y = false) (k : Op.bytesLess y x = false) : x = y := by
  rw [bytesLess_eq] at h k
  simp only [decide_eq_false_iff_not] at h k
  exact List.le_antisymm k h

/-- the slot of a stands before that of b -/
def before (a b : Entry) : Bool := if ¬ a.typ = b.typ then Op.bytesLess a.typ b.typ else Op.bytesLess a.key b.key
open Classical in
noncomputable def inOrd (s : List Entry) : Bool := decide (∀ (i : Nat) (a b : Entry), s[i]? = some a → s[i + 1]? = some b → before a b = true)
noncomputable def stateOk (s : List Entry) : Bool := decide (∀ e ∈ s, e.id ≠ []) && (decide ((s.length : Int) ≤ 300) && inOrd s)
def cmpS (x y : List UInt8) : Int := if Op.bytesLess x y = true then -1 else if Op.bytesLess y x = true then 1 else 0
def cmpE (a b : Entry) : Int := if cmpS a.typ b.typ ≠ 0 then cmpS a.typ b.typ else cmpS a.key b.key
theorem inOrd_false {s : List Entry} {i : Nat} {a b : Entry} (h1 : s[i]? = some a) (h2 : s[i + 1]? = some b) (h : before a b = false) : inOrd s = false := by
  unfold inOrd
  rw [decide_eq_false_iff_not]
  intro hh
  rw [hh i a b h1 h2] at h
  cases h
theorem cmpS_neg {x y : List UInt8} : cmpS x y < 0 ↔ Op.bytesLess x y = true := by
  unfold cmpS
  split
  · simp [*]
  · split <;> simp_all
theorem cmpS_zero {x y : List UInt8} : cmpS x y = 0 ↔ x = y := by
  unfold cmpS
  split
  · rename_i h
    refine ⟨fun h => by omega, fun e => ?_⟩
    subst e; rw [less_irrefl] at h; cases h
  · split
    · rename_i _ h
      refine ⟨fun h => by omega, fun e => ?_⟩
      subst e; rw [less_irrefl] at h; cases h
    · rename_i h k
      exact ⟨fun _ => less_total (by simpa using h) (by simpa using k), fun _ => rfl⟩
theorem cmpE_neg {a b : Entry} : (0 ≤ cmpE a b) ↔ before a b = false := by
  unfold cmpE before
  by_cases h : a.typ = b.typ
  · have h0 := cmpS_zero.2 h
    have := @cmpS_neg a.key b.key
    simp only [h0, not_true, if_false, ne_eq, h]
    rw [if_neg (by simp [h0, ← h, cmpS_zero])]
    rw [← Bool.not_eq_true, ← this]; omega
  · have h0 : cmpS a.typ b.typ ≠ 0 := fun e => h (cmpS_zero.1 e)
    have := @cmpS_neg a.typ b.typ
    simp only [h0, h, not_false_eq_true, if_true, ne_eq]
    rw [← Bool.not_eq_true, ← this]; omega
theorem toNat_s {i : Nat} : ((i : Int) + 1).toNat = i + 1 := by omega
theorem toNat_sp {i : Nat} : ((i : Int) + 1 - 1).toNat = i := by omega

variable [Bd]

/-! ### the document's -/
theorem l4Before (a b : Entry) : Con P0 135 [eEntry a, eEntry b] (.t (.b (before a b))) [] := by
  refine Con.intro (fn := Try.f135) [.tmp 4] (fun _ => (0, [])) mixed (by kernel_rfl) rfl (by decide) rfl (by rfl) (by kernel_rfl) ?_
  simp -implicitDefEqProofs (maxSteps := 2000000) only [push_cast, Nat.reduceEqDiff, Nat.reduceLT, Nat.reduceLeDiff, Nat.reduceAdd, Nat.reduceMul, Nat.reduceSub, Nat.reduceBEq, ↓reduceIte, reduceCtorEq, eEntry]
  unfold before
  split <;> rfl

theorem l4InOrder (s : List Entry) : Con P0 64 [eEntryS s] (.t (.b (inOrd s))) [] := by
  refine Con.intro (fn := Try.f64) [.tmp 2] (fun i => if i = 4 then (11, []) else (0, [])) mixed (by kernel_rfl) rfl (by decide) rfl (by rfl) (by kernel_rfl) ?_
  simp -implicitDefEqProofs (maxSteps := 2000000) only [push_cast, Nat.reduceEqDiff, Nat.reduceLT, Nat.reduceLeDiff, Nat.reduceAdd, Nat.reduceMul, Nat.reduceSub, Nat.reduceBEq, ↓reduceIte, reduceCtorEq]
  refine WL.loop (ι := Nat) (D := (fun i => if i = 4 then (11, []) else (0, []))) (fun i => (s = [] ∨ i + 1 ≤ s.length) ∧ ∀ (j : Nat) (a b : Entry), j < i → s[j]? = some a → s[j + 1]? = some b → before a b = true) (fun i => ⟨21, [(0, .t (eEntryS s)), (3, .t (.i .i64 (i + 1 : Nat)))], []⟩) (fun i => s.length - i) mixed (by kernel_rfl) 0 ⟨by cases s <;> simp, fun j a b hj => absurd hj (by omega)⟩ (Keep.wk (ids := []) ?_) ?_
  · simp only [push_cast, Nat.reduceEqDiff, Nat.reduceLT, Nat.reduceLeDiff, Nat.reduceAdd, Nat.reduceMul, Nat.reduceSub, Nat.reduceBEq, ↓reduceIte, reduceCtorEq] <;> rfl
  · rintro i ⟨hi, hc⟩
    simp -implicitDefEqProofs (maxSteps := 2000000) only [push_cast, Nat.reduceEqDiff, Nat.reduceLT, Nat.reduceLeDiff, Nat.reduceAdd, Nat.reduceMul, Nat.reduceSub, Nat.reduceBEq, ↓reduceIte, reduceCtorEq, eEntry_len, eEntry_isAg, eEntry_ones, eEntry_one]
    intro hl
    have := Bd.hi
    split
    · rename_i h
      refine ⟨by unfold inI64; omega, by omega, fun a ha => ⟨by omega, fun b hb => CallV.t (l4Before a b) (.inl rfl) ?_⟩⟩
      rw [toNat_sp] at ha
      rw [toNat_s] at hb
      simp -implicitDefEqProofs (maxSteps := 2000000) only [push_cast, Nat.reduceEqDiff, Nat.reduceLT, Nat.reduceLeDiff, Nat.reduceAdd, Nat.reduceMul, Nat.reduceSub, Nat.reduceBEq, ↓reduceIte, reduceCtorEq]
      cases hab : before a b with
      | false => exact congrArg T.b (inOrd_false ha hb hab).symm
      | true =>
        simp only [Bool.not_true, Bool.false_eq_true, if_false]
        refine ⟨by unfold inI64; omega, i + 1, ⟨by omega, fun j a' b' hj h1 h2 => ?_⟩, by omega, Keep.wk (ids := []) ?_⟩
        · rcases Nat.lt_or_ge j i with hj' | hj'
          · exact hc j a' b' hj' h1 h2
          · have : j = i := by omega
            subst this
            rw [h1] at ha; rw [h2] at hb
            cases ha; cases hb; exact hab
        · simp only [push_cast, Nat.reduceEqDiff, Nat.reduceLT, Nat.reduceLeDiff, Nat.reduceAdd, Nat.reduceMul, Nat.reduceSub, Nat.reduceBEq, ↓reduceIte, reduceCtorEq] <;> first | rfl | (push_cast; rfl) | trivial
    · refine congrArg T.b (Eq.symm ?_)
      unfold inOrd
      refine @decide_eq_true _ (Classical.propDecidable _) ?_
      intro j a b h1 h2
      refine hc j a b ?_ h1 h2
      have := (List.getElem?_eq_some_iff.1 h2).1
      omega

theorem specStateOk (s : List Entry) : Con P0 10 [eEntryS s] (.t (.b (stateOk s))) [] := by
  refine Con.intro (fn := Try.f10) [.tmp 2] (fun _ => (0, [])) mixed (by kernel_rfl) rfl (by decide) rfl (by rfl) (by kernel_rfl) ?_
  simp -implicitDefEqProofs (maxSteps := 2000000) only [push_cast, Nat.reduceEqDiff, Nat.reduceLT, Nat.reduceLeDiff, Nat.reduceAdd, Nat.reduceMul, Nat.reduceSub, Nat.reduceBEq, ↓reduceIte, reduceCtorEq]
  refine WL.loop (ι := Nat) (D := (fun _ => (0, []))) (fun i => i ≤ s.length ∧ ∀ e ∈ s.take i, e.id ≠ []) (fun i => ⟨23, [(0, .t (eEntryS s)), (3, .t (.i .i64 i))], []⟩) (fun i => s.length - i) mixed (by kernel_rfl) 0 ⟨by omega, by simp⟩ (Keep.wk (ids := []) ?_) ?_
  · simp only [push_cast, Nat.reduceEqDiff, Nat.reduceLT, Nat.reduceLeDiff, Nat.reduceAdd, Nat.reduceMul, Nat.reduceSub, Nat.reduceBEq, ↓reduceIte, reduceCtorEq] <;> rfl
  · rintro i ⟨hi, hc⟩
    simp -implicitDefEqProofs (maxSteps := 2000000) only [push_cast, Nat.reduceEqDiff, Nat.reduceLT, Nat.reduceLeDiff, Nat.reduceAdd, Nat.reduceMul, Nat.reduceSub, Nat.reduceBEq, ↓reduceIte, reduceCtorEq, eEntry_len, eEntry_isAg, eEntry_ones, eEntry_one]
    intro hl
    have := Bd.hi
    split
    · rename_i h
      refine ⟨by omega, fun a ha => ?_⟩
      rw [Int.toNat_natCast] at ha
      simp -implicitDefEqProofs (maxSteps := 2000000) only [push_cast, Nat.reduceEqDiff, Nat.reduceLT, Nat.reduceLeDiff, Nat.reduceAdd, Nat.reduceMul, Nat.reduceSub, Nat.reduceBEq, ↓reduceIte, reduceCtorEq, eEntry]
      have hm : a ∈ s := List.mem_of_getElem? ha
      split
      · rename_i hid
        refine congrArg T.b (Eq.symm ?_)
        unfold stateOk
        rw [decide_eq_false (fun hh => hh a hm hid)]
        rfl
      · rename_i hid
        refine ⟨by unfold inI64; omega, i + 1, ⟨by omega, fun e he => ?_⟩, by omega, Keep.wk (ids := []) ?_⟩
        · rw [List.take_add_one, ha] at he
          rcases List.mem_append.1 he with he | he
          · exact hc e he
          · simp at he; subst he; exact hid
        · simp only [push_cast, Nat.reduceEqDiff, Nat.reduceLT, Nat.reduceLeDiff, Nat.reduceAdd, Nat.reduceMul, Nat.reduceSub, Nat.reduceBEq, ↓reduceIte, reduceCtorEq] <;> rfl
    · have hi : i = s.length := by omega
      subst hi
      rw [List.take_length] at hc
      intro _
      unfold stateOk
      rw [decide_eq_true hc, Bool.true_and]
      split
      · rename_i h3
        refine Callx.closed (l4InOrder s) rfl rfl (.inl rfl) ?_
        simp -implicitDefEqProofs (maxSteps := 2000000) only [push_cast, Nat.reduceEqDiff, Nat.reduceLT, Nat.reduceLeDiff, Nat.reduceAdd, Nat.reduceMul, Nat.reduceSub, Nat.reduceBEq, ↓reduceIte, reduceCtorEq]
        rw [decide_eq_true h3, Bool.true_and]
      · rename_i h3
        rw [decide_eq_false h3, Bool.false_and]

/-! ### the program's -/
theorem isNaN (x : List UInt8) : Con P0 170 [.s x] (.t (.b false)) [] := by
  refine Con.intro (fn := Try.f170) [.tmp 2] (fun _ => (0, [])) mixed (by kernel_rfl) rfl (by decide) rfl (by rfl) (by kernel_rfl) ?_
  simp -implicitDefEqProofs (maxSteps := 2000000) only [push_cast, Nat.reduceEqDiff, Nat.reduceLT, Nat.reduceLeDiff, Nat.reduceAdd, Nat.reduceMul, Nat.reduceSub, Nat.reduceBEq, ↓reduceIte, reduceCtorEq]

theorem compareS (x y : List UInt8) : Con P0 124 [.s x, .s y] (.t (.i .i64 (cmpS x y))) [] := by
  refine Con.intro (fn := Try.f124) [.tmp 4] (fun _ => (0, [])) mixed (by kernel_rfl) rfl (by decide) rfl (by rfl) (by kernel_rfl) ?_
  simp -implicitDefEqProofs (maxSteps := 2000000) only [push_cast, Nat.reduceEqDiff, Nat.reduceLT, Nat.reduceLeDiff, Nat.reduceAdd, Nat.reduceMul, Nat.reduceSub, Nat.reduceBEq, ↓reduceIte, reduceCtorEq]
  refine Callx.closed (isNaN x) rfl rfl (.inl rfl) ?_
  simp -implicitDefEqProofs (maxSteps := 2000000) only [push_cast, Nat.reduceEqDiff, Nat.reduceLT, Nat.reduceLeDiff, Nat.reduceAdd, Nat.reduceMul, Nat.reduceSub, Nat.reduceBEq, ↓reduceIte, reduceCtorEq]
  refine Callx.closed (isNaN y) rfl rfl (.inl rfl) ?_
  simp -implicitDefEqProofs (maxSteps := 2000000) only [push_cast, Nat.reduceEqDiff, Nat.reduceLT, Nat.reduceLeDiff, Nat.reduceAdd, Nat.reduceMul, Nat.reduceSub, Nat.reduceBEq, ↓reduceIte, reduceCtorEq]
  unfold cmpS
  split
  · rfl
  rename_i h
  split
  · rename_i k
    refine congrArg (T.i .i64) (if_pos ?_).symm
    cases hyx : Op.bytesLess y x with
    | true => rfl
    | false =>
      have := less_total (by simpa using h) hyx
      simp [this] at k
  · rename_i k
    refine congrArg (T.i .i64) (if_neg ?_).symm
    intro hyx
    refine k ?_
    have hne : ¬ x = y := by rintro rfl; rw [less_irrefl] at hyx; cases hyx
    simp [h, hne]

def firstNz : List Int → Int
  | [] => 0
  | x :: xs => if x ≠ 0 then x else firstNz xs
theorem firstNz_at {xs : List Int} : ∀ {i : Nat} {a : Int}, xs[i]? = some a → (∀ x ∈ xs.take i, x = 0) → a ≠ 0 → firstNz xs = a := by
  induction xs with
  | nil => intro i a h; simp at h
  | cons x xs ih =>
    intro i a h h0 ha
    cases i with
    | zero => simp at h; subst h; simp [firstNz, ha]
    | succ i =>
      simp only [List.getElem?_cons_succ] at h
      have hx : x = 0 := h0 x (by simp)
      simp only [firstNz, hx, ne_eq, not_true, if_false]
      exact ih h (fun y hy => h0 y (by simp [hy])) ha
theorem firstNz_all {xs : List Int} (h : ∀ x ∈ xs, x = 0) : firstNz xs = 0 := by
  induction xs with
  | nil => rfl
  | cons x xs ih => simp only [firstNz, h x (by simp), ne_eq, not_true, if_false]; exact ih fun y hy => h y (by simp [hy])

theorem cmpOr (xs : List Int) : Con P0 123 [eIntS xs] (.t (.i .i64 (firstNz xs))) [] := by
  refine Con.intro (fn := Try.f123) [.tmp 2] (fun _ => (0, [])) mixed (by kernel_rfl) rfl (by decide) rfl (by rfl) (by kernel_rfl) ?_
  simp -implicitDefEqProofs (maxSteps := 2000000) only [push_cast, Nat.reduceEqDiff, Nat.reduceLT, Nat.reduceLeDiff, Nat.reduceAdd, Nat.reduceMul, Nat.reduceSub, Nat.reduceBEq, ↓reduceIte, reduceCtorEq]
  intro hl
  have := Bd.hi
  refine WL.loop (ι := Nat) (D := (fun _ => (0, []))) (fun i => i ≤ xs.length ∧ ∀ x ∈ xs.take i, x = 0) (fun i => ⟨18, [(8, .t (.i .i64 i)), (7, .t (.i .i64 xs.length)), (6, .t (eIntS xs)), (3, .t (.i .i64 0))], []⟩) (fun i => xs.length - i) mixed (by kernel_rfl) 0 ⟨by omega, by simp⟩ (Keep.wk (ids := []) ?_) ?_
  · simp only [push_cast, Nat.reduceEqDiff, Nat.reduceLT, Nat.reduceLeDiff, Nat.reduceAdd, Nat.reduceMul, Nat.reduceSub, Nat.reduceBEq, ↓reduceIte, reduceCtorEq] <;> rfl
  · rintro i ⟨hi, hc⟩
    simp -implicitDefEqProofs (maxSteps := 2000000) only [push_cast, Nat.reduceEqDiff, Nat.reduceLT, Nat.reduceLeDiff, Nat.reduceAdd, Nat.reduceMul, Nat.reduceSub, Nat.reduceBEq, ↓reduceIte, reduceCtorEq]
    split
    · rename_i h
      refine ⟨by omega, fun a ha => ?_⟩
      rw [Int.toNat_natCast] at ha
      split
      · rename_i hne
        exact congrArg (T.i .i64) (firstNz_at ha hc hne).symm
      · rename_i h0
        refine ⟨by unfold inI64; omega, i + 1, ⟨by omega, fun e he => ?_⟩, by omega, Keep.wk (ids := []) ?_⟩
        · rw [List.take_add_one, ha] at he
          rcases List.mem_append.1 he with he | he
          · exact hc e he
          · simp at he; subst he; omega
        · simp only [push_cast, Nat.reduceEqDiff, Nat.reduceLT, Nat.reduceLeDiff, Nat.reduceAdd, Nat.reduceMul, Nat.reduceSub, Nat.reduceBEq, ↓reduceIte, reduceCtorEq] <;> rfl
    · have hi : i = xs.length := by omega
      subst hi
      rw [List.take_length] at hc
      exact congrArg (T.i .i64) (firstNz_all hc).symm

theorem compareEntries (a b : Entry) : Con P0 131 [eEntry a, eEntry b] (.t (.i .i64 (cmpE a b))) [] := by
  refine Con.intro (fn := Try.f131) [.tmp 4] (fun i => if i = 1 then (10, []) else (0, [])) mixed (by kernel_rfl) rfl (by decide) rfl (by rfl) (by kernel_rfl) ?_
  simp -implicitDefEqProofs (maxSteps := 2000000) only [push_cast, Nat.reduceEqDiff, Nat.reduceLT, Nat.reduceLeDiff, Nat.reduceAdd, Nat.reduceMul, Nat.reduceSub, Nat.reduceBEq, ↓reduceIte, reduceCtorEq, eEntry]
  refine CallV.t (compareS _ _) (.inl rfl) ?_
  simp -implicitDefEqProofs (maxSteps := 2000000) only [push_cast, Nat.reduceEqDiff, Nat.reduceLT, Nat.reduceLeDiff, Nat.reduceAdd, Nat.reduceMul, Nat.reduceSub, Nat.reduceBEq, ↓reduceIte, reduceCtorEq, eEntry]
  refine CallV.t (compareS _ _) (.inl rfl) ?_
  simp -implicitDefEqProofs (maxSteps := 2000000) only [push_cast, Nat.reduceEqDiff, Nat.reduceLT, Nat.reduceLeDiff, Nat.reduceAdd, Nat.reduceMul, Nat.reduceSub, Nat.reduceBEq, ↓reduceIte, reduceCtorEq, eEntry]
  refine ⟨rfl, by have := Bd.lo; omega, ?_⟩
  refine Callx.closed (cmpOr [cmpS a.typ b.typ, cmpS a.key b.key]) rfl rfl (.inr ⟨rfl, rfl⟩) ?_
  simp -implicitDefEqProofs (maxSteps := 2000000) only [push_cast, Nat.reduceEqDiff, Nat.reduceLT, Nat.reduceLeDiff, Nat.reduceAdd, Nat.reduceMul, Nat.reduceSub, Nat.reduceBEq, ↓reduceIte, reduceCtorEq, eEntry]
  refine congrArg (T.i .i64) ?_
  unfold cmpE firstNz firstNz firstNz
  split
  · rfl
  · split
    · rfl
    · omega

theorem implInOrder (s : List Entry) : Con P0 65 [eEntryS s] (.t (.b (inOrd s))) [] := by
  refine Con.intro (fn := Try.f65) [.tmp 2] (fun i => if i = 4 then (11, []) else (0, [])) mixed (by kernel_rfl) rfl (by decide) rfl (by rfl) (by kernel_rfl) ?_
  simp -implicitDefEqProofs (maxSteps := 2000000) only [push_cast, Nat.reduceEqDiff, Nat.reduceLT, Nat.reduceLeDiff, Nat.reduceAdd, Nat.reduceMul, Nat.reduceSub, Nat.reduceBEq, ↓reduceIte, reduceCtorEq]
  refine WL.loop (ι := Nat) (D := (fun i => if i = 4 then (11, []) else (0, []))) (fun i => (s = [] ∨ i + 1 ≤ s.length) ∧ ∀ (j : Nat) (a b : Entry), j < i → s[j]? = some a → s[j + 1]? = some b → before a b = true) (fun i => ⟨21, [(0, .t (eEntryS s)), (3, .t (.i .i64 (i + 1 : Nat)))], []⟩) (fun i => s.length - i) mixed (by kernel_rfl) 0 ⟨by cases s <;> simp, fun j a b hj => absurd hj (by omega)⟩ (Keep.wk (ids := []) ?_) ?_
  · simp only [push_cast, Nat.reduceEqDiff, Nat.reduceLT, Nat.reduceLeDiff, Nat.reduceAdd, Nat.reduceMul, Nat.reduceSub, Nat.reduceBEq, ↓reduceIte, reduceCtorEq] <;> rfl
  · rintro i ⟨hi, hc⟩
    simp -implicitDefEqProofs (maxSteps := 2000000) only [push_cast, Nat.reduceEqDiff, Nat.reduceLT, Nat.reduceLeDiff, Nat.reduceAdd, Nat.reduceMul, Nat.reduceSub, Nat.reduceBEq, ↓reduceIte, reduceCtorEq, eEntry_len, eEntry_isAg, eEntry_ones, eEntry_one]
    intro hl
    have := Bd.hi
    split
    · rename_i h
      refine ⟨by unfold inI64; omega, by omega, fun a ha => ⟨by omega, fun b hb => CallV.t (compareEntries a b) (.inl rfl) ?_⟩⟩
      rw [toNat_sp] at ha
      rw [toNat_s] at hb
      simp -implicitDefEqProofs (maxSteps := 2000000) only [push_cast, Nat.reduceEqDiff, Nat.reduceLT, Nat.reduceLeDiff, Nat.reduceAdd, Nat.reduceMul, Nat.reduceSub, Nat.reduceBEq, ↓reduceIte, reduceCtorEq]
      cases hab : before a b with
      | false =>
        rw [if_pos (cmpE_neg.2 hab)]
        exact congrArg T.b (inOrd_false ha hb hab).symm
      | true =>
        rw [if_neg (fun hh => by rw [cmpE_neg.1 hh] at hab; cases hab)]
        refine ⟨by unfold inI64; omega, i + 1, ⟨by omega, fun j a' b' hj h1 h2 => ?_⟩, by omega, Keep.wk (ids := []) ?_⟩
        · rcases Nat.lt_or_ge j i with hj' | hj'
          · exact hc j a' b' hj' h1 h2
          · have : j = i := by omega
            subst this
            rw [h1] at ha; rw [h2] at hb
            cases ha; cases hb; exact hab
        · simp only [push_cast, Nat.reduceEqDiff, Nat.reduceLT, Nat.reduceLeDiff, Nat.reduceAdd, Nat.reduceMul, Nat.reduceSub, Nat.reduceBEq, ↓reduceIte, reduceCtorEq] <;> first | rfl | (push_cast; rfl) | trivial
    · refine congrArg T.b (Eq.symm ?_)
      unfold inOrd
      refine @decide_eq_true _ (Classical.propDecidable _) ?_
      intro j a b h1 h2
      refine hc j a b ?_ h1 h2
      have := (List.getElem?_eq_some_iff.1 h2).1
      omega

theorem noId (e : Entry) : Con P0 67 [eEntry e] (.t (.b (decide (e.id = [])))) [] := by
  refine Con.intro (fn := Try.f67) [.tmp 2] (fun _ => (0, [])) mixed (by kernel_rfl) rfl (by decide) rfl (by rfl) (by kernel_rfl) ?_
  simp -implicitDefEqProofs (maxSteps := 2000000) only [push_cast, Nat.reduceEqDiff, Nat.reduceLT, Nat.reduceLeDiff, Nat.reduceAdd, Nat.reduceMul, Nat.reduceSub, Nat.reduceBEq, ↓reduceIte, reduceCtorEq, eEntry]

/-- the first place with a quality, or -1 -/
def firstAt {α : Type} (p : α → Bool) : List α → Int → Int
  | [], _ => -1
  | x :: xs, i => if p x = true then i else firstAt p xs (i + 1)
theorem firstAt_at {α : Type} {p : α → Bool} {xs : List α} : ∀ {i : Nat} {a : α} {k : Int}, xs[i]? = some a → (∀ x ∈ xs.take i, p x = false) → p a = true → firstAt p xs k = k + i := by
  induction xs with
  | nil => intro i a k h; simp at h
  | cons x xs ih =>
    intro i a k h h0 ha
    cases i with
    | zero => simp at h; subst h; simp [firstAt, ha]
    | succ i =>
      simp only [List.getElem?_cons_succ] at h
      have hx : p x = false := h0 x (by simp)
      simp only [firstAt, hx, Bool.false_eq_true, if_false]
      rw [ih h (fun y hy => h0 y (by simp [hy])) ha]
      omega
theorem firstAt_all {α : Type} {p : α → Bool} {xs : List α} : ∀ {k : Int}, (∀ x ∈ xs, p x = false) → firstAt p xs k = -1 := by
  induction xs with
  | nil => intro k _; rfl
  | cons x xs ih => intro k h; simp only [firstAt, h x (by simp), Bool.false_eq_true, if_false]; exact ih fun y hy => h y (by simp [hy])
theorem firstAt_nn {α : Type} {p : α → Bool} {xs : List α} : ∀ {k : Int}, 0 ≤ k → (0 ≤ firstAt p xs k ↔ ∃ x ∈ xs, p x = true) := by
  induction xs with
  | nil => intro k hk; simp [firstAt]
  | cons x xs ih =>
    intro k hk
    simp only [firstAt]
    split
    · rename_i h; simp [h, hk]
    · rename_i h
      rw [ih (by omega)]
      simp [h]

theorem indexNoId (s : List Entry) : Con P0 136 [eEntryS s, .fn 67 []] (.t (.i .i64 (firstAt (fun e => decide (e.id = [])) s 0))) [] := by
  refine Con.intro (fn := Try.f136) [.tmp 4] (fun _ => (0, [])) mixed (by kernel_rfl) rfl (by decide) rfl (by rfl) (by kernel_rfl) ?_
  simp -implicitDefEqProofs (maxSteps := 2000000) only [push_cast, Nat.reduceEqDiff, Nat.reduceLT, Nat.reduceLeDiff, Nat.reduceAdd, Nat.reduceMul, Nat.reduceSub, Nat.reduceBEq, ↓reduceIte, reduceCtorEq]
  intro hl
  have := Bd.hi
  refine WL.loop (ι := Nat) (D := (fun _ => (0, []))) (fun i => i ≤ s.length ∧ ∀ x ∈ s.take i, decide (x.id = []) = false) (fun i => ⟨19, [(8, .t (.i .i64 i)), (7, .t (.i .i64 s.length)), (0, .t (eEntryS s)), (1, .t (.fn 67 []))], []⟩) (fun i => s.length - i) mixed (by kernel_rfl) 0 ⟨by omega, by simp⟩ (Keep.wk (ids := []) ?_) ?_
  · simp only [push_cast, Nat.reduceEqDiff, Nat.reduceLT, Nat.reduceLeDiff, Nat.reduceAdd, Nat.reduceMul, Nat.reduceSub, Nat.reduceBEq, ↓reduceIte, reduceCtorEq] <;> rfl
  · rintro i ⟨hi, hc⟩
    simp -implicitDefEqProofs (maxSteps := 2000000) only [push_cast, Nat.reduceEqDiff, Nat.reduceLT, Nat.reduceLeDiff, Nat.reduceAdd, Nat.reduceMul, Nat.reduceSub, Nat.reduceBEq, ↓reduceIte, reduceCtorEq, eEntry_len, eEntry_isAg, eEntry_ones, eEntry_one]
    split
    · rename_i h
      refine ⟨by omega, fun a ha => ?_⟩
      rw [Int.toNat_natCast] at ha
      refine Callx.closed (noId a) rfl rfl (.inl rfl) ?_
      simp -implicitDefEqProofs (maxSteps := 2000000) only [push_cast, Nat.reduceEqDiff, Nat.reduceLT, Nat.reduceLeDiff, Nat.reduceAdd, Nat.reduceMul, Nat.reduceSub, Nat.reduceBEq, ↓reduceIte, reduceCtorEq]
      split
      · rename_i hne
        refine congrArg (T.i .i64) ?_
        rw [firstAt_at ha hc (by simpa using hne)]; omega
      · rename_i h0
        refine ⟨by unfold inI64; omega, i + 1, ⟨by omega, fun e he => ?_⟩, by omega, Keep.wk (ids := []) ?_⟩
        · rw [List.take_add_one, ha] at he
          rcases List.mem_append.1 he with he | he
          · exact hc e he
          · simp at he; subst he; simpa using h0
        · simp only [push_cast, Nat.reduceEqDiff, Nat.reduceLT, Nat.reduceLeDiff, Nat.reduceAdd, Nat.reduceMul, Nat.reduceSub, Nat.reduceBEq, ↓reduceIte, reduceCtorEq] <;> rfl
    · have hi : i = s.length := by omega
      subst hi
      rw [List.take_length] at hc
      exact congrArg (T.i .i64) (firstAt_all hc).symm

theorem containsNoId (s : List Entry) : Con P0 66 [eEntryS s, .fn 67 []] (.t (.b (decide (0 ≤ firstAt (fun e => decide (e.id = [])) s 0)))) [] := by
  refine Con.intro (fn := Try.f66) [.tmp 4] (fun _ => (0, [])) mixed (by kernel_rfl) rfl (by decide) rfl (by rfl) (by kernel_rfl) ?_
  simp -implicitDefEqProofs (maxSteps := 2000000) only [push_cast, Nat.reduceEqDiff, Nat.reduceLT, Nat.reduceLeDiff, Nat.reduceAdd, Nat.reduceMul, Nat.reduceSub, Nat.reduceBEq, ↓reduceIte, reduceCtorEq]
  refine Callx.closed (indexNoId s) rfl rfl (.inl rfl) ?_
  simp -implicitDefEqProofs (maxSteps := 2000000) only [push_cast, Nat.reduceEqDiff, Nat.reduceLT, Nat.reduceLeDiff, Nat.reduceAdd, Nat.reduceMul, Nat.reduceSub, Nat.reduceBEq, ↓reduceIte, reduceCtorEq]

theorem implStateOk (s : List Entry) : Con P0 11 [eEntryS s] (.t (.b (stateOk s))) [] := by
  refine Con.intro (fn := Try.f11) [.tmp 2] (fun _ => (0, [])) mixed (by kernel_rfl) rfl (by decide) rfl (by rfl) (by kernel_rfl) ?_
  simp -implicitDefEqProofs (maxSteps := 2000000) only [push_cast, Nat.reduceEqDiff, Nat.reduceLT, Nat.reduceLeDiff, Nat.reduceAdd, Nat.reduceMul, Nat.reduceSub, Nat.reduceBEq, ↓reduceIte, reduceCtorEq]
  intro _
  split
  case isFalse h3 => 
    unfold stateOk
    rw [decide_eq_false h3]
    simp
  rename_i h3
  refine Callx.closed (implInOrder s) rfl rfl (.inl rfl) ?_
  simp -implicitDefEqProofs (maxSteps := 2000000) only [push_cast, Nat.reduceEqDiff, Nat.reduceLT, Nat.reduceLeDiff, Nat.reduceAdd, Nat.reduceMul, Nat.reduceSub, Nat.reduceBEq, ↓reduceIte, reduceCtorEq]
  split
  case isFalse h4 =>
    unfold stateOk
    simp_all
  rename_i h4
  refine Callx.closed (containsNoId s) rfl rfl (.inr ⟨rfl, rfl⟩) ?_
  simp -implicitDefEqProofs (maxSteps := 2000000) only [push_cast, Nat.reduceEqDiff, Nat.reduceLT, Nat.reduceLeDiff, Nat.reduceAdd, Nat.reduceMul, Nat.reduceSub, Nat.reduceBEq, ↓reduceIte, reduceCtorEq]
  refine congrArg T.b ?_
  unfold stateOk
  rw [decide_eq_true h3, h4, Bool.true_and, Bool.and_true, Bool.eq_iff_iff]
  simp only [Bool.not_eq_true', decide_eq_false_iff_not, decide_eq_true_eq]
  rw [firstAt_nn (by omega)]
  simp

end Go.Proofs.Ythhgcklidfilfaa.BX
