/-
  Marks, in general; texts and grants marked all over.
-/
import Derived.Test.YthhgcklidfilfaaMk
namespace Go.Proofs.Ythhgcklidfilfaa.BX
set_option linter.unusedSectionVars false
set_option linter.unusedSimpArgs false
set_option linter.unusedVariables false
open Go Go.RowKit
set_option maxRecDepth 20000
set_option maxHeartbeats 400000

section
variable {α : Type} (mk : α → Int → α) (w : α → Nat)
/-- marked one behind the other -/
def mkL : List α → Int → List α
  | [], _ => []
  | x :: xs, k => mk x k :: mkL xs (k + w x)
def totL : List α → Nat
  | [] => 0
  | x :: xs => w x + totL xs
def mkLTo (xs : List α) (k : Int) (i : Nat) : List α := mkL mk w (xs.take i) k ++ xs.drop i
variable {mk w} {xs : List α} {k : Int} {i : Nat} {x : α}
theorem mkL_len : ∀ {xs : List α} {k : Int}, (mkL mk w xs k).length = xs.length
  | [], _ => rfl
  | x :: xs, k => by simp only [mkL, List.length_cons, mkL_len (xs := xs)]
theorem totL_app : ∀ {xs ys : List α}, totL w (xs ++ ys) = totL w xs + totL w ys
  | [], ys => by simp [totL]
  | x :: xs, ys => by simp only [List.cons_append, totL, totL_app (xs := xs)]; omega
theorem mkL_snoc : ∀ {xs : List α} {k : Int}, mkL mk w (xs ++ [x]) k = mkL mk w xs k ++ [mk x (k + totL w xs)]
  | [], k => by simp [mkL, totL]
  | y :: xs, k => by
    simp only [List.cons_append, mkL, totL, mkL_snoc (xs := xs)]
    rw [show k + w y + (totL w xs : Int) = k + (w y + totL w xs : Nat) by omega]
theorem totL_take (h : xs[i]? = some x) : totL w (xs.take (i + 1)) = totL w (xs.take i) + w x := by
  rw [List.take_add_one, h, totL_app]; rfl
theorem totL_le : totL w (xs.take i) ≤ totL w xs := by
  conv => rhs; rw [← List.take_append_drop i xs, totL_app]
  omega
theorem totL_const {c : Nat} (h : ∀ x, w x = c) : ∀ {xs : List α}, totL w xs = c * xs.length
  | [] => by simp [totL]
  | x :: xs => by simp only [totL, h, totL_const h (xs := xs), List.length_cons, Nat.mul_add]; omega
theorem mkLTo_len (h : i ≤ xs.length) : (mkLTo mk w xs k i).length = xs.length := by simp [mkLTo, mkL_len]; omega
theorem mkLTo_zero : mkLTo mk w xs k 0 = xs := by simp [mkLTo, mkL]
theorem mkLTo_all : mkLTo mk w xs k xs.length = mkL mk w xs k := by simp [mkLTo]
theorem mkLTo_get (h : xs[i]? = some x) : (mkLTo mk w xs k i)[i]? = some x := by
  have hi := (List.getElem?_eq_some_iff.1 h).1
  unfold mkLTo
  have hl : (mkL mk w (xs.take i) k).length = i := by rw [mkL_len, List.length_take]; omega
  rw [List.getElem?_append_right (by omega), hl, Nat.sub_self, List.getElem?_drop]
  simpa using h
theorem mkLTo_set (h : xs[i]? = some x) : (mkLTo mk w xs k i).set i (mk x (k + totL w (xs.take i))) = mkLTo mk w xs k (i + 1) := by
  have hi := (List.getElem?_eq_some_iff.1 h).1
  unfold mkLTo
  have hl : (mkL mk w (xs.take i) k).length = i := by rw [mkL_len, List.length_take]; omega
  rw [List.set_append_right _ _ (by omega), hl, Nat.sub_self]
  have hd : xs.drop i = x :: xs.drop (i + 1) := by
    rw [List.drop_eq_getElem_cons hi]
    congr 1
    exact (List.getElem?_eq_some_iff.1 h).2
  rw [hd, List.set_cons_zero, List.take_add_one, h, Option.toList_some, mkL_snoc]
  simp
theorem mkL_get (h : xs[i]? = some x) : (mkL mk w xs k)[i]? = some (mk x (k + totL w (xs.take i))) := by
  have hi := (List.getElem?_eq_some_iff.1 h).1
  have e : xs = (xs.take i ++ [x]) ++ xs.drop (i + 1) := by
    have : xs.take i ++ [x] = xs.take (i + 1) := by rw [List.take_add_one, h]; rfl
    rw [this, List.take_append_drop]
  have app : ∀ (us vs : List α) (k : Int), mkL mk w (us ++ vs) k = mkL mk w us k ++ mkL mk w vs (k + totL w us) := by
    intro us
    induction us with
    | nil => intro vs k; simp [mkL, totL]
    | cons a us ih =>
      intro vs k
      simp only [List.cons_append, mkL, totL, ih]
      rw [show k + w a + (totL w us : Int) = k + (w a + totL w us : Nat) by omega]
  have hl : (mkL mk w (xs.take i) k).length = i := by rw [mkL_len, List.length_take]; omega
  conv => lhs; rw [e, app, mkL_snoc]
  rw [List.getElem?_append_left (by rw [List.length_append, hl]; simp), List.getElem?_append_right (by omega), hl, Nat.sub_self]
  rfl
end
def wC {α : Type} (n : Nat) (_ : α) : Nat := n
theorem totC {α : Type} {n : Nat} {xs : List α} : totL (wC n) xs = n * xs.length := totL_const fun _ => rfl

/-! ### lists: String -/
def mkString1 (_ : List UInt8) (k : Int) : List UInt8 := mkT (k)
abbrev mkStringL (xs : List (List UInt8)) (k : Int) : List (List UInt8) := mkL mkString1 (wC 1) xs k
section
variable [Bd]
theorem markStringS (xs : List (List UInt8)) (k : Int) (h0 : 0 ≤ k) (hk : k + 1 * xs.length ≤ 4611686018427387) : ConM P0 59 [.sr 0, .t (.i .i64 k)] [.arr 9 1 (.own .leaf) (xs.map T.s)] (.t (.i .i64 (k + (totL (wC 1) xs : Nat)))) [.arr 9 1 (.own .leaf) ((mkStringL xs k).map T.s)] := by
  refine ConM.intro (fn := Try.f59) [.tmp 4] (fun _ => (0, [])) mixed (by kernel_rfl) rfl (by decide) rfl (by rfl) (by kernel_rfl) ?_
  simp -implicitDefEqProofs (maxSteps := 2000000) only [push_cast, Nat.reduceEqDiff, Nat.reduceLT, Nat.reduceLeDiff, Nat.reduceAdd, Nat.reduceMul, Nat.reduceSub, Nat.reduceBEq, ↓reduceIte, reduceCtorEq]
  have htt := totC (n := 1) (xs := xs)
  refine WL.loop (ι := Nat) (D := (fun _ => (0, []))) (fun i => i ≤ xs.length) (fun i => ⟨20, [(0, .sr 0), (1, .t (.i .i64 (k + (totL (wC 1) (xs.take i) : Nat)))), (5, .t (.i .i64 i))], [.arr 9 1 (.own .leaf) ((mkLTo mkString1 (wC 1) xs k i).map T.s)]⟩) (fun i => xs.length - i) mixed (by kernel_rfl) 0 (by omega) (Keep.wk (ids := [some 0]) ?_) ?_
  · simp only [push_cast, Nat.reduceEqDiff, Nat.reduceLT, Nat.reduceLeDiff, Nat.reduceAdd, Nat.reduceMul, Nat.reduceSub, Nat.reduceBEq, ↓reduceIte, reduceCtorEq, mkLTo_zero, totL, List.take_zero, Int.add_zero, Int.cast_ofNat_Int] <;> trivial
  · intro i hi
    simp -implicitDefEqProofs (maxSteps := 2000000) only [push_cast, Nat.reduceEqDiff, Nat.reduceLT, Nat.reduceLeDiff, Nat.reduceAdd, Nat.reduceMul, Nat.reduceSub, Nat.reduceBEq, ↓reduceIte, reduceCtorEq, mkLTo_len hi]
    intro _
    have := Bd.hi
    refine iteI (fun h => ?_) (fun h => ?_)
    · obtain ⟨x, hx⟩ : ∃ x, xs[i]? = some x := ⟨xs[i], List.getElem?_eq_getElem (by omega)⟩
      have ht := totL_take (w := (wC 1)) hx
      have hl := totL_le (w := (wC 1)) (xs := xs) (i := i + 1)
      have hw : (wC 1) x = 1 := rfl
      refine Callx.closed (markText (k + (totL (wC 1) (xs.take i) : Nat)) (by omega)) rfl rfl (.inl rfl) ?_
      simp -implicitDefEqProofs (maxSteps := 2000000) only [push_cast, Nat.reduceEqDiff, Nat.reduceLT, Nat.reduceLeDiff, Nat.reduceAdd, Nat.reduceMul, Nat.reduceSub, Nat.reduceBEq, ↓reduceIte, reduceCtorEq, mkLTo_len hi]
      refine ⟨by omega, by omega, fun a ha => ?_⟩
      refine ⟨by unfold inI64; omega, ?_⟩
      refine ⟨by unfold inI64; omega, i + 1, by omega, by omega, Keep.wk (ids := [some 0]) ?_⟩
      have e3 : ((mkLTo mkString1 (wC 1) xs k i).map T.s).set i (T.s (mkT (k + (totL (wC 1) (xs.take i) : Nat)))) = (mkLTo mkString1 (wC 1) xs k (i + 1)).map T.s := by rw [← mkLTo_set hx, List.map_set]; rfl
      simp only [push_cast, Nat.reduceEqDiff, Nat.reduceLT, Nat.reduceLeDiff, Nat.reduceAdd, Nat.reduceMul, Nat.reduceSub, Nat.reduceBEq, ↓reduceIte, reduceCtorEq, Int.toNat_natCast, List.set_set, e3, T.i.injEq, AV.t.injEq] <;> omega
    · have hi : i = xs.length := by omega
      subst hi
      rw [mkLTo_all, List.take_length]
      exact ⟨rfl, Rest.of [some 0] rfl rfl (by simp only [push_cast, Nat.reduceEqDiff, Nat.reduceLT, Nat.reduceLeDiff, Nat.reduceAdd, Nat.reduceMul, Nat.reduceSub, Nat.reduceBEq, ↓reduceIte, reduceCtorEq] <;> rfl)⟩
end

section
variable [Bd]
theorem heldStringS (xs : List (List UInt8)) (k : Int) (h0 : 0 ≤ k) (hk : k + 1 * xs.length ≤ 4611686018427387) : Con P0 61 [eStringS (mkStringL xs k), .i .i64 k] (.t (.i .i64 (k + (totL (wC 1) xs : Nat)))) [] := by
  refine Con.intro (fn := Try.f61) [.tmp 4] (fun i => if i = 4 then (7, []) else (0, [])) mixed (by kernel_rfl) rfl (by decide) rfl (by rfl) (by kernel_rfl) ?_
  simp -implicitDefEqProofs (maxSteps := 2000000) only [push_cast, Nat.reduceEqDiff, Nat.reduceLT, Nat.reduceLeDiff, Nat.reduceAdd, Nat.reduceMul, Nat.reduceSub, Nat.reduceBEq, ↓reduceIte, reduceCtorEq]
  have htt := totC (n := 1) (xs := xs)
  refine WL.loop (ι := Nat) (D := (fun i => if i = 4 then (7, []) else (0, []))) (fun i => i ≤ xs.length) (fun i => ⟨22, [(0, .t (eStringS (mkStringL xs k))), (1, .t (.i .i64 (k + (totL (wC 1) (xs.take i) : Nat)))), (5, .t (.i .i64 i))], []⟩) (fun i => xs.length - i) mixed (by kernel_rfl) 0 (by omega) (Keep.wk (ids := []) ?_) ?_
  · simp only [push_cast, Nat.reduceEqDiff, Nat.reduceLT, Nat.reduceLeDiff, Nat.reduceAdd, Nat.reduceMul, Nat.reduceSub, Nat.reduceBEq, ↓reduceIte, reduceCtorEq, totL, List.take_zero, Int.add_zero, Int.cast_ofNat_Int] <;> trivial
  · intro i hi
    simp -implicitDefEqProofs (maxSteps := 2000000) only [push_cast, Nat.reduceEqDiff, Nat.reduceLT, Nat.reduceLeDiff, Nat.reduceAdd, Nat.reduceMul, Nat.reduceSub, Nat.reduceBEq, ↓reduceIte, reduceCtorEq, mkL_len]
    intro _
    have := Bd.hi
    refine iteI (fun h => ?_) (fun h => ?_)
    · obtain ⟨x, hx⟩ : ∃ x, xs[i]? = some x := ⟨xs[i], List.getElem?_eq_getElem (by omega)⟩
      have ht := totL_take (w := (wC 1)) hx
      have hl := totL_le (w := (wC 1)) (xs := xs) (i := i + 1)
      have hw : (wC 1) x = 1 := rfl
      refine ⟨by omega, fun a ha => ?_⟩
      rw [Int.toNat_natCast, mkL_get hx] at ha
      cases ha
      refine CallV.t (markText (k + (totL (wC 1) (xs.take i) : Nat)) (by omega)) (.inl rfl) ?_
      simp -implicitDefEqProofs (maxSteps := 2000000) only [push_cast, Nat.reduceEqDiff, Nat.reduceLT, Nat.reduceLeDiff, Nat.reduceAdd, Nat.reduceMul, Nat.reduceSub, Nat.reduceBEq, ↓reduceIte, reduceCtorEq, mkL_len]
      rw [if_neg (fun h => h rfl)]
      refine ⟨by unfold inI64; omega, ?_⟩
      refine ⟨by unfold inI64; omega, i + 1, by omega, by omega, Keep.wk (ids := []) ?_⟩
      simp only [push_cast, Nat.reduceEqDiff, Nat.reduceLT, Nat.reduceLeDiff, Nat.reduceAdd, Nat.reduceMul, Nat.reduceSub, Nat.reduceBEq, ↓reduceIte, reduceCtorEq, T.i.injEq, AV.t.injEq] <;> omega
    · have hi : i = xs.length := by omega
      subst hi
      rw [List.take_length]
end

/-! ### lists: Grant -/
def mkGrant1 (_ : Grant) (k : Int) : Grant := ⟨mkT (k), k + 1⟩
abbrev mkGrantL (xs : List Grant) (k : Int) : List Grant := mkL mkGrant1 (wC 2) xs k
section
variable [Bd]
theorem markGrantS (xs : List Grant) (k : Int) (h0 : 0 ≤ k) (hk : k + 2 * xs.length ≤ 4611686018427387) : ConM P0 128 [.sr 0, .t (.i .i64 k)] [.arr 212 2 (.own (.ag [.leaf, .leaf])) (xs.map eGrant)] (.t (.i .i64 (k + (totL (wC 2) xs : Nat)))) [.arr 212 2 (.own (.ag [.leaf, .leaf])) ((mkGrantL xs k).map eGrant)] := by
  refine ConM.intro (fn := Try.f128) [.tmp 4] (fun _ => (0, [])) mixed (by kernel_rfl) rfl (by decide) rfl (by rfl) (by kernel_rfl) ?_
  simp -implicitDefEqProofs (maxSteps := 2000000) only [push_cast, Nat.reduceEqDiff, Nat.reduceLT, Nat.reduceLeDiff, Nat.reduceAdd, Nat.reduceMul, Nat.reduceSub, Nat.reduceBEq, ↓reduceIte, reduceCtorEq]
  have htt := totC (n := 2) (xs := xs)
  refine WL.loop (ι := Nat) (D := (fun _ => (0, []))) (fun i => i ≤ xs.length) (fun i => ⟨28, [(0, .sr 0), (1, .t (.i .i64 (k + (totL (wC 2) (xs.take i) : Nat)))), (5, .t (.i .i64 i))], [.arr 212 2 (.own (.ag [.leaf, .leaf])) ((mkLTo mkGrant1 (wC 2) xs k i).map eGrant)]⟩) (fun i => xs.length - i) mixed (by kernel_rfl) 0 (by omega) (Keep.wk (ids := [some 0]) ?_) ?_
  · simp only [push_cast, Nat.reduceEqDiff, Nat.reduceLT, Nat.reduceLeDiff, Nat.reduceAdd, Nat.reduceMul, Nat.reduceSub, Nat.reduceBEq, ↓reduceIte, reduceCtorEq, mkLTo_zero, totL, List.take_zero, Int.add_zero, Int.cast_ofNat_Int] <;> trivial
  · intro i hi
    simp -implicitDefEqProofs (maxSteps := 2000000) only [push_cast, Nat.reduceEqDiff, Nat.reduceLT, Nat.reduceLeDiff, Nat.reduceAdd, Nat.reduceMul, Nat.reduceSub, Nat.reduceBEq, ↓reduceIte, reduceCtorEq, mkLTo_len hi, eGrant]
    intro _
    have := Bd.hi
    refine iteI (fun h => ?_) (fun h => ?_)
    · obtain ⟨x, hx⟩ : ∃ x, xs[i]? = some x := ⟨xs[i], List.getElem?_eq_getElem (by omega)⟩
      have ht := totL_take (w := (wC 2)) hx
      have hl := totL_le (w := (wC 2)) (xs := xs) (i := i + 1)
      have hw : (wC 2) x = 2 := rfl
      refine Callx.closed (markText (k + (totL (wC 2) (xs.take i) : Nat)) (by omega)) rfl rfl (.inl rfl) ?_
      simp -implicitDefEqProofs (maxSteps := 2000000) only [push_cast, Nat.reduceEqDiff, Nat.reduceLT, Nat.reduceLeDiff, Nat.reduceAdd, Nat.reduceMul, Nat.reduceSub, Nat.reduceBEq, ↓reduceIte, reduceCtorEq, mkLTo_len hi, eGrant]
      refine ⟨by omega, by omega, fun a ha => ?_⟩
      rw [Int.toNat_natCast, mkLTo_get hx] at ha
      obtain rfl : x = a := Option.some.inj ha
      refine ⟨by unfold inI64; omega, ?_⟩
      refine ⟨by omega, by omega, fun _ => ?_⟩
      refine ⟨by unfold inI64; omega, ?_⟩
      refine ⟨by unfold inI64; omega, i + 1, by omega, by omega, Keep.wk (ids := [some 0]) ?_⟩
      have e3 : ((mkLTo mkGrant1 (wC 2) xs k i).map eGrant).set i (T.ag [T.s (mkT (k + (totL (wC 2) (xs.take i) : Nat))), T.i .i64 (k + (totL (wC 2) (xs.take i) : Nat) + 1)]) = (mkLTo mkGrant1 (wC 2) xs k (i + 1)).map eGrant := by rw [← mkLTo_set hx, List.map_set]; rfl
      simp only [push_cast, Nat.reduceEqDiff, Nat.reduceLT, Nat.reduceLeDiff, Nat.reduceAdd, Nat.reduceMul, Nat.reduceSub, Nat.reduceBEq, ↓reduceIte, reduceCtorEq, Int.toNat_natCast, List.set_set, e3, T.i.injEq, AV.t.injEq] <;> omega
    · have hi : i = xs.length := by omega
      subst hi
      rw [mkLTo_all, List.take_length]
      exact ⟨rfl, Rest.of [some 0] rfl rfl (by simp only [push_cast, Nat.reduceEqDiff, Nat.reduceLT, Nat.reduceLeDiff, Nat.reduceAdd, Nat.reduceMul, Nat.reduceSub, Nat.reduceBEq, ↓reduceIte, reduceCtorEq] <;> rfl)⟩
end

section
variable [Bd]
end

/-! ### lists: Slot -/
def mkSlot1 (_ : Slot) (k : Int) : Slot := ⟨mkT (k), mkT (k + 1)⟩
abbrev mkSlotL (xs : List Slot) (k : Int) : List Slot := mkL mkSlot1 (wC 2) xs k
section
variable [Bd]
theorem markSlotS (xs : List Slot) (k : Int) (h0 : 0 ≤ k) (hk : k + 2 * xs.length ≤ 4611686018427387) : ConM P0 50 [.sr 0, .t (.i .i64 k)] [.arr 164 2 (.own (.ag [.leaf, .leaf])) (xs.map eSlot)] (.t (.i .i64 (k + (totL (wC 2) xs : Nat)))) [.arr 164 2 (.own (.ag [.leaf, .leaf])) ((mkSlotL xs k).map eSlot)] := by
  refine ConM.intro (fn := Try.f50) [.tmp 4] (fun _ => (0, [])) mixed (by kernel_rfl) rfl (by decide) rfl (by rfl) (by kernel_rfl) ?_
  simp -implicitDefEqProofs (maxSteps := 2000000) only [push_cast, Nat.reduceEqDiff, Nat.reduceLT, Nat.reduceLeDiff, Nat.reduceAdd, Nat.reduceMul, Nat.reduceSub, Nat.reduceBEq, ↓reduceIte, reduceCtorEq]
  have htt := totC (n := 2) (xs := xs)
  refine WL.loop (ι := Nat) (D := (fun _ => (0, []))) (fun i => i ≤ xs.length) (fun i => ⟨29, [(0, .sr 0), (1, .t (.i .i64 (k + (totL (wC 2) (xs.take i) : Nat)))), (5, .t (.i .i64 i))], [.arr 164 2 (.own (.ag [.leaf, .leaf])) ((mkLTo mkSlot1 (wC 2) xs k i).map eSlot)]⟩) (fun i => xs.length - i) mixed (by kernel_rfl) 0 (by omega) (Keep.wk (ids := [some 0]) ?_) ?_
  · simp only [push_cast, Nat.reduceEqDiff, Nat.reduceLT, Nat.reduceLeDiff, Nat.reduceAdd, Nat.reduceMul, Nat.reduceSub, Nat.reduceBEq, ↓reduceIte, reduceCtorEq, mkLTo_zero, totL, List.take_zero, Int.add_zero, Int.cast_ofNat_Int] <;> trivial
  · intro i hi
    simp -implicitDefEqProofs (maxSteps := 2000000) only [push_cast, Nat.reduceEqDiff, Nat.reduceLT, Nat.reduceLeDiff, Nat.reduceAdd, Nat.reduceMul, Nat.reduceSub, Nat.reduceBEq, ↓reduceIte, reduceCtorEq, mkLTo_len hi, eSlot]
    intro _
    have := Bd.hi
    refine iteI (fun h => ?_) (fun h => ?_)
    · obtain ⟨x, hx⟩ : ∃ x, xs[i]? = some x := ⟨xs[i], List.getElem?_eq_getElem (by omega)⟩
      have ht := totL_take (w := (wC 2)) hx
      have hl := totL_le (w := (wC 2)) (xs := xs) (i := i + 1)
      have hw : (wC 2) x = 2 := rfl
      refine Callx.closed (markText (k + (totL (wC 2) (xs.take i) : Nat)) (by omega)) rfl rfl (.inl rfl) ?_
      simp -implicitDefEqProofs (maxSteps := 2000000) only [push_cast, Nat.reduceEqDiff, Nat.reduceLT, Nat.reduceLeDiff, Nat.reduceAdd, Nat.reduceMul, Nat.reduceSub, Nat.reduceBEq, ↓reduceIte, reduceCtorEq, mkLTo_len hi, eSlot]
      refine ⟨by omega, by omega, fun a ha => ?_⟩
      rw [Int.toNat_natCast, mkLTo_get hx] at ha
      obtain rfl : x = a := Option.some.inj ha
      refine ⟨by unfold inI64; omega, ?_⟩
      refine Callx.closed (markText (k + (totL (wC 2) (xs.take i) : Nat) + 1) (by omega)) rfl rfl (.inl rfl) ?_
      simp -implicitDefEqProofs (maxSteps := 2000000) only [push_cast, Nat.reduceEqDiff, Nat.reduceLT, Nat.reduceLeDiff, Nat.reduceAdd, Nat.reduceMul, Nat.reduceSub, Nat.reduceBEq, ↓reduceIte, reduceCtorEq, mkLTo_len hi, eSlot]
      refine ⟨by omega, by omega, fun _ => ?_⟩
      refine ⟨by unfold inI64; omega, ?_⟩
      refine ⟨by unfold inI64; omega, i + 1, by omega, by omega, Keep.wk (ids := [some 0]) ?_⟩
      have e3 : ((mkLTo mkSlot1 (wC 2) xs k i).map eSlot).set i (T.ag [T.s (mkT (k + (totL (wC 2) (xs.take i) : Nat))), T.s (mkT (k + (totL (wC 2) (xs.take i) : Nat) + 1))]) = (mkLTo mkSlot1 (wC 2) xs k (i + 1)).map eSlot := by rw [← mkLTo_set hx, List.map_set]; rfl
      simp only [push_cast, Nat.reduceEqDiff, Nat.reduceLT, Nat.reduceLeDiff, Nat.reduceAdd, Nat.reduceMul, Nat.reduceSub, Nat.reduceBEq, ↓reduceIte, reduceCtorEq, Int.toNat_natCast, List.set_set, e3, T.i.injEq, AV.t.injEq] <;> omega
    · have hi : i = xs.length := by omega
      subst hi
      rw [mkLTo_all, List.take_length]
      exact ⟨rfl, Rest.of [some 0] rfl rfl (by simp only [push_cast, Nat.reduceEqDiff, Nat.reduceLT, Nat.reduceLeDiff, Nat.reduceAdd, Nat.reduceMul, Nat.reduceSub, Nat.reduceBEq, ↓reduceIte, reduceCtorEq] <;> rfl)⟩
end

section
variable [Bd]
theorem heldSlotS (xs : List Slot) (k : Int) (h0 : 0 ≤ k) (hk : k + 2 * xs.length ≤ 4611686018427387) : Con P0 51 [eSlotS (mkSlotL xs k), .i .i64 k] (.t (.i .i64 (k + (totL (wC 2) xs : Nat)))) [] := by
  refine Con.intro (fn := Try.f51) [.tmp 4] (fun i => if i = 7 then (8, []) else if i = 4 then (8, []) else (0, [])) mixed (by kernel_rfl) rfl (by decide) rfl (by rfl) (by kernel_rfl) ?_
  simp -implicitDefEqProofs (maxSteps := 2000000) only [push_cast, Nat.reduceEqDiff, Nat.reduceLT, Nat.reduceLeDiff, Nat.reduceAdd, Nat.reduceMul, Nat.reduceSub, Nat.reduceBEq, ↓reduceIte, reduceCtorEq]
  have htt := totC (n := 2) (xs := xs)
  refine WL.loop (ι := Nat) (D := (fun i => if i = 7 then (8, []) else if i = 4 then (8, []) else (0, []))) (fun i => i ≤ xs.length) (fun i => ⟨33, [(0, .t (eSlotS (mkSlotL xs k))), (1, .t (.i .i64 (k + (totL (wC 2) (xs.take i) : Nat)))), (5, .t (.i .i64 i))], []⟩) (fun i => xs.length - i) mixed (by kernel_rfl) 0 (by omega) (Keep.wk (ids := []) ?_) ?_
  · simp only [push_cast, Nat.reduceEqDiff, Nat.reduceLT, Nat.reduceLeDiff, Nat.reduceAdd, Nat.reduceMul, Nat.reduceSub, Nat.reduceBEq, ↓reduceIte, reduceCtorEq, totL, List.take_zero, Int.add_zero, Int.cast_ofNat_Int] <;> trivial
  · intro i hi
    simp -implicitDefEqProofs (maxSteps := 2000000) only [push_cast, Nat.reduceEqDiff, Nat.reduceLT, Nat.reduceLeDiff, Nat.reduceAdd, Nat.reduceMul, Nat.reduceSub, Nat.reduceBEq, ↓reduceIte, reduceCtorEq, mkL_len, eSlot]
    intro _
    have := Bd.hi
    refine iteI (fun h => ?_) (fun h => ?_)
    · obtain ⟨x, hx⟩ : ∃ x, xs[i]? = some x := ⟨xs[i], List.getElem?_eq_getElem (by omega)⟩
      have ht := totL_take (w := (wC 2)) hx
      have hl := totL_le (w := (wC 2)) (xs := xs) (i := i + 1)
      have hw : (wC 2) x = 2 := rfl
      refine ⟨by omega, fun a ha => ?_⟩
      rw [Int.toNat_natCast, mkL_get hx] at ha
      cases ha
      refine CallV.t (markText (k + (totL (wC 2) (xs.take i) : Nat)) (by omega)) (.inl rfl) ?_
      simp -implicitDefEqProofs (maxSteps := 2000000) only [push_cast, Nat.reduceEqDiff, Nat.reduceLT, Nat.reduceLeDiff, Nat.reduceAdd, Nat.reduceMul, Nat.reduceSub, Nat.reduceBEq, ↓reduceIte, reduceCtorEq, mkL_len, eSlot]
      rw [if_neg (fun h => h rfl)]
      refine ⟨by unfold inI64; omega, ?_⟩
      refine ⟨by omega, fun a ha => ?_⟩
      rw [Int.toNat_natCast, mkL_get hx] at ha
      cases ha
      refine CallV.t (markText (k + (totL (wC 2) (xs.take i) : Nat) + 1) (by omega)) (.inl rfl) ?_
      simp -implicitDefEqProofs (maxSteps := 2000000) only [push_cast, Nat.reduceEqDiff, Nat.reduceLT, Nat.reduceLeDiff, Nat.reduceAdd, Nat.reduceMul, Nat.reduceSub, Nat.reduceBEq, ↓reduceIte, reduceCtorEq, mkL_len, eSlot]
      rw [if_neg (fun h => h rfl)]
      refine ⟨by unfold inI64; omega, ?_⟩
      refine ⟨by unfold inI64; omega, i + 1, by omega, by omega, Keep.wk (ids := []) ?_⟩
      simp only [push_cast, Nat.reduceEqDiff, Nat.reduceLT, Nat.reduceLeDiff, Nat.reduceAdd, Nat.reduceMul, Nat.reduceSub, Nat.reduceBEq, ↓reduceIte, reduceCtorEq, T.i.injEq, AV.t.injEq] <;> omega
    · have hi : i = xs.length := by omega
      subst hi
      rw [List.take_length]
end

/-! ### lists: Entry -/
def mkEntry1 (_ : Entry) (k : Int) : Entry := ⟨mkT (k), mkT (k + 1), mkT (k + 1 + 1)⟩
abbrev mkEntryL (xs : List Entry) (k : Int) : List Entry := mkL mkEntry1 (wC 3) xs k
end Go.Proofs.Ythhgcklidfilfaa.BX
