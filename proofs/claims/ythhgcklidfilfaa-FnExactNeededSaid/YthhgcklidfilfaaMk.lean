/-
  Entries marked all over: 'laws.markText', 'laws.markEntryS', 'laws.heldEntryS'.
-/
import Derived.Test.YthhgcklidfilfaaDa
namespace Go.Proofs.Ythhgcklidfilfaa.BX
set_option linter.unusedSectionVars false
set_option linter.unusedSimpArgs false
set_option linter.unusedVariables false
open Go Go.RowKit
set_option maxRecDepth 20000
set_option maxHeartbeats 400000

def dig (k : Nat) : UInt8 := UInt8.ofNat (IntKind.u8.wrap (48 + (k : Int) % 10)).toNat
def digs (k : Nat) (out : List UInt8) : List UInt8 := if _h : k = 0 then out else digs (k / 10) (dig k :: out)
termination_by k
decreasing_by omega
theorem digs_zero {out : List UInt8} : digs 0 out = out := by rw [digs]; simp
theorem digs_pos {k : Nat} {out : List UInt8} (h : 0 < k) : digs k out = digs (k / 10) (dig k :: out) := by
  rw [digs, dif_neg (by omega)]
theorem digs_len : ∀ (m k : Nat) (out : List UInt8), k < 10 ^ m → (digs k out).length ≤ out.length + m
  | 0, k, out, h => by
    have : k = 0 := by simp at h; exact h
    subst this
    rw [digs_zero]; omega
  | m + 1, k, out, h => by
    by_cases hk : k = 0
    · subst hk; rw [digs_zero]; omega
    · rw [digs_pos (by omega)]
      have := digs_len m (k / 10) (dig k :: out) (by rw [Nat.pow_succ] at h; omega)
      simp only [List.length_cons] at this
      omega
/-- the text of a number -/
def mkT (k : Int) : List UInt8 := if k ≤ 0 then [109, 48] else 109 :: digs k.toNat []
/-- an entry marked all over -/
def mkE (k : Int) : Entry := ⟨mkT k, mkT (k + 1), mkT (k + 2)⟩
def mkEs (n : Nat) (k : Int) : List Entry := (List.range n).map fun i : Nat => mkE (k + 3 * i)
theorem mkEs_len {n : Nat} {k : Int} : (mkEs n k).length = n := by simp [mkEs]
theorem mkEs_succ {n : Nat} {k : Int} : mkEs (n + 1) k = mkEs n k ++ [mkE (k + 3 * n)] := by simp [mkEs, List.range_succ]
theorem mkEs_get {n i : Nat} {k : Int} (h : i < n) : (mkEs n k)[i]? = some (mkE (k + 3 * i)) := by simp [mkEs, h]
def mkTo (xs : List Entry) (k : Int) (i : Nat) : List Entry := mkEs i k ++ xs.drop i
theorem mkTo_len {xs : List Entry} {k : Int} {i : Nat} (h : i ≤ xs.length) : (mkTo xs k i).length = xs.length := by simp [mkTo, mkEs_len]; omega
theorem mkTo_zero {xs : List Entry} {k : Int} : mkTo xs k 0 = xs := by simp [mkTo, mkEs]
theorem mkTo_all {xs : List Entry} {k : Int} : mkTo xs k xs.length = mkEs xs.length k := by simp [mkTo]
theorem mkTo_set {xs : List Entry} {k : Int} {i : Nat} (h : i < xs.length) : (mkTo xs k i).set i (mkE (k + 3 * i)) = mkTo xs k (i + 1) := by
  unfold mkTo
  rw [List.set_append_right _ _ (by rw [mkEs_len]; omega), mkEs_len, Nat.sub_self, mkEs_succ]
  have : xs.drop i = xs[i] :: xs.drop (i + 1) := List.drop_eq_getElem_cons h
  rw [this, List.set_cons_zero]
  simp
theorem mkTo_get {xs : List Entry} {k : Int} {i : Nat} (h : i < xs.length) : (mkTo xs k i)[i]? = some xs[i] := by
  unfold mkTo
  rw [List.getElem?_append_right (by rw [mkEs_len]; omega), mkEs_len, Nat.sub_self, List.getElem?_drop]
  simp [h]

variable [Bd]

theorem markText (k : Int) (hk : k < 1000000000000000000) : Con P0 95 [.i .i64 k] (.t (.s (mkT k))) [] := by
  refine Con.intro (fn := Try.f95) [.tmp 2] (fun _ => (0, [])) mixed (by kernel_rfl) rfl (by decide) rfl (by rfl) (by kernel_rfl) ?_
  simp -implicitDefEqProofs (maxSteps := 2000000) only [push_cast, Nat.reduceEqDiff, Nat.reduceLT, Nat.reduceLeDiff, Nat.reduceAdd, Nat.reduceMul, Nat.reduceSub, Nat.reduceBEq, ↓reduceIte, reduceCtorEq]
  have := Bd.lo
  split
  · rename_i h
    unfold mkT
    rw [if_pos h]
  rename_i h
  refine WL.loop (ι := Nat × List UInt8) (D := (fun _ => (0, []))) (fun x => digs x.1 x.2 = digs k.toNat [] ∧ ∃ m, x.1 < 10 ^ m ∧ x.2.length + m ≤ 18) (fun x => ⟨20, [(0, .t (.i .i64 x.1)), (3, .t (.s x.2))], []⟩) (fun x => x.1) mixed (by kernel_rfl) (k.toNat, []) ⟨rfl, 18, by dsimp only; omega, by simp⟩ (Keep.wk (ids := []) ?_) ?_
  · simp only [push_cast, Nat.reduceEqDiff, Nat.reduceLT, Nat.reduceLeDiff, Nat.reduceAdd, Nat.reduceMul, Nat.reduceSub, Nat.reduceBEq, ↓reduceIte, reduceCtorEq, T.i.injEq, AV.t.injEq, Int.toNat_of_nonneg (show 0 ≤ k by omega)] <;> rfl
  · rintro ⟨j, out⟩ ⟨hj, m, hm, hl⟩
    dsimp only at hj hm hl ⊢
    simp -implicitDefEqProofs (maxSteps := 2000000) only [push_cast, Nat.reduceEqDiff, Nat.reduceLT, Nat.reduceLeDiff, Nat.reduceAdd, Nat.reduceMul, Nat.reduceSub, Nat.reduceBEq, ↓reduceIte, reduceCtorEq]
    split
    · rename_i hpos
      have hm0 : m ≠ 0 := by rintro rfl; simp at hm; omega
      obtain ⟨m', rfl⟩ := Nat.exists_eq_succ_of_ne_zero hm0
      refine ⟨by omega, by omega, by unfold inI64; omega, rfl, by omega, by omega, by omega, by omega, ?_, (j / 10, dig j :: out), ⟨?_, m', ?_, ?_⟩, ?_, Keep.wk (ids := []) ?_⟩
      · have : 10 ^ (m' + 1) ≤ 10 ^ 18 := Nat.pow_le_pow_right (by omega) (by omega)
        unfold inI64; omega
      · dsimp only; rw [← hj, digs_pos (k := j) (by omega)]
      · dsimp only; rw [Nat.pow_succ] at hm; omega
      · simp only [List.length_cons]; omega
      · dsimp only; omega
      · simp only [push_cast, Nat.reduceEqDiff, Nat.reduceLT, Nat.reduceLeDiff, Nat.reduceAdd, Nat.reduceMul, Nat.reduceSub, Nat.reduceBEq, ↓reduceIte, reduceCtorEq] <;> first | rfl | exact ⟨rfl, rfl⟩
    · have hj0 : j = 0 := by omega
      subst hj0
      rw [digs_zero] at hj
      refine ⟨by omega, ?_⟩
      unfold mkT
      rw [if_neg h, hj]

theorem markEntryS (xs : List Entry) (k : Int) (h0 : 0 ≤ k) (hk : k + 3 * xs.length ≤ 4611686018427387) : ConM P0 32 [.sr 0, .t (.i .i64 k)] [.arr 32 3 (.own (.ag [.leaf, .leaf, .leaf])) (xs.map eEntry)] (.t (.i .i64 (k + 3 * xs.length))) [.arr 32 3 (.own (.ag [.leaf, .leaf, .leaf])) ((mkEs xs.length k).map eEntry)] := by
  refine ConM.intro (fn := Try.f32) [.tmp 4] (fun _ => (0, [])) mixed (by kernel_rfl) rfl (by decide) rfl (by rfl) (by kernel_rfl) ?_
  simp -implicitDefEqProofs (maxSteps := 2000000) only [push_cast, Nat.reduceEqDiff, Nat.reduceLT, Nat.reduceLeDiff, Nat.reduceAdd, Nat.reduceMul, Nat.reduceSub, Nat.reduceBEq, ↓reduceIte, reduceCtorEq]
  refine WL.loop (ι := Nat) (D := (fun _ => (0, []))) (fun i => i ≤ xs.length) (fun i => ⟨37, [(0, .sr 0), (1, .t (.i .i64 (k + 3 * i))), (5, .t (.i .i64 i))], [.arr 32 3 (.own (.ag [.leaf, .leaf, .leaf])) ((mkTo xs k i).map eEntry)]⟩) (fun i => xs.length - i) mixed (by kernel_rfl) 0 (by omega) (Keep.wk (ids := [some 0]) ?_) ?_
  · simp only [push_cast, Nat.reduceEqDiff, Nat.reduceLT, Nat.reduceLeDiff, Nat.reduceAdd, Nat.reduceMul, Nat.reduceSub, Nat.reduceBEq, ↓reduceIte, reduceCtorEq, mkTo_zero, Int.mul_zero, Int.add_zero, Int.cast_ofNat_Int] <;> trivial
  · intro i hi
    simp -implicitDefEqProofs (maxSteps := 2000000) only [push_cast, Nat.reduceEqDiff, Nat.reduceLT, Nat.reduceLeDiff, Nat.reduceAdd, Nat.reduceMul, Nat.reduceSub, Nat.reduceBEq, ↓reduceIte, reduceCtorEq]
    intro _
    have := Bd.hi
    rw [mkTo_len hi]
    split
    · rename_i h
      have hgx := mkTo_get (xs := xs) (k := k) (i := i) (by omega)
      have hml := mkTo_len (xs := xs) (k := k) hi
      have hst : ∀ (l : List Entry) (z : Entry), (l.map eEntry).set i (eEntry z) = (l.set i z).map eEntry := fun l z => by rw [List.map_set]
      refine Callx.closed (markText (k + 3 * i) (by omega)) rfl rfl (.inl rfl) ?_
      simp -implicitDefEqProofs (maxSteps := 2000000) only [push_cast, Nat.reduceEqDiff, Nat.reduceLT, Nat.reduceLeDiff, Nat.reduceAdd, Nat.reduceMul, Nat.reduceSub, Nat.reduceBEq, ↓reduceIte, reduceCtorEq, eEntry]
      refine ⟨by omega, by omega, fun a ha => ?_⟩
      rw [Int.toNat_natCast, hgx] at ha
      cases ha
      rw [Int.toNat_natCast]
      have hl1 : (mkTo xs k i).length = xs.length := hml
      generalize hgl : mkTo xs k i = l at hl1 hgx ⊢
      obtain ⟨x, hx⟩ : ∃ x, xs[i] = x := ⟨_, rfl⟩
      rw [hx]
      refine ⟨by unfold inI64; omega, ?_⟩
      rw [show T.ag [T.s (mkT (k + 3 * i)), T.s x.key, T.s x.id] = eEntry ⟨mkT (k + 3 * i), x.key, x.id⟩ from rfl, hst]
      refine Callx.closed (markText (k + 3 * i + 1) (by omega)) rfl rfl (.inl rfl) ?_
      simp -implicitDefEqProofs (maxSteps := 2000000) only [push_cast, Nat.reduceEqDiff, Nat.reduceLT, Nat.reduceLeDiff, Nat.reduceAdd, Nat.reduceMul, Nat.reduceSub, Nat.reduceBEq, ↓reduceIte, reduceCtorEq, eEntry]
      refine ⟨by omega, by omega, fun a ha => ?_⟩
      rw [Int.toNat_natCast, List.getElem?_set_self (by omega)] at ha
      cases ha
      rw [Int.toNat_natCast]
      refine ⟨by unfold inI64; omega, ?_⟩
      rw [show T.ag [T.s (mkT (k + 3 * i)), T.s (mkT (k + 3 * i + 1)), T.s x.id] = eEntry ⟨mkT (k + 3 * i), mkT (k + 3 * i + 1), x.id⟩ from rfl, hst, List.set_set]
      refine Callx.closed (markText (k + 3 * i + 1 + 1) (by omega)) rfl rfl (.inl rfl) ?_
      simp -implicitDefEqProofs (maxSteps := 2000000) only [push_cast, Nat.reduceEqDiff, Nat.reduceLT, Nat.reduceLeDiff, Nat.reduceAdd, Nat.reduceMul, Nat.reduceSub, Nat.reduceBEq, ↓reduceIte, reduceCtorEq, eEntry]
      refine ⟨by omega, by omega, fun a ha => ?_⟩
      rw [Int.toNat_natCast, List.getElem?_set_self (by omega)] at ha
      cases ha
      rw [Int.toNat_natCast]
      refine ⟨by unfold inI64; omega, by unfold inI64; omega, i + 1, by omega, by omega, Keep.wk (ids := [some 0]) ?_⟩
      have e3 : ((l.set i ⟨mkT (k + 3 * i), mkT (k + 3 * i + 1), x.id⟩).map eEntry).set i (T.ag [T.s (mkT (k + 3 * i)), T.s (mkT (k + 3 * i + 1)), T.s (mkT (k + 3 * i + 1 + 1))]) = (mkTo xs k (i + 1)).map eEntry := by
        rw [show T.ag [T.s (mkT (k + 3 * i)), T.s (mkT (k + 3 * i + 1)), T.s (mkT (k + 3 * i + 1 + 1))] = eEntry (mkE (k + 3 * i)) by simp [eEntry, mkE, Int.add_assoc], hst, List.set_set, ← hgl, mkTo_set (by omega)]
      simp only [push_cast, Nat.reduceEqDiff, Nat.reduceLT, Nat.reduceLeDiff, Nat.reduceAdd, Nat.reduceMul, Nat.reduceSub, Nat.reduceBEq, ↓reduceIte, reduceCtorEq, e3, T.i.injEq, AV.t.injEq] <;> omega
    · have hi : i = xs.length := by omega
      subst hi
      rw [mkTo_all]
      exact ⟨rfl, Rest.of [some 0] rfl rfl (by simp only [push_cast, Nat.reduceEqDiff, Nat.reduceLT, Nat.reduceLeDiff, Nat.reduceAdd, Nat.reduceMul, Nat.reduceSub, Nat.reduceBEq, ↓reduceIte, reduceCtorEq] <;> rfl)⟩

theorem heldEntryS (n : Nat) (k : Int) (h0 : 0 ≤ k) (hk : k + 3 * n ≤ 4611686018427387) : Con P0 60 [eEntryS (mkEs n k), .i .i64 k] (.t (.i .i64 (k + 3 * n))) [] := by
  refine Con.intro (fn := Try.f60) [.tmp 4] (fun i => if i = 10 then (8, []) else if i = 7 then (8, []) else if i = 4 then (8, []) else (0, [])) mixed (by kernel_rfl) rfl (by decide) rfl (by rfl) (by kernel_rfl) ?_
  simp -implicitDefEqProofs (maxSteps := 2000000) only [push_cast, Nat.reduceEqDiff, Nat.reduceLT, Nat.reduceLeDiff, Nat.reduceAdd, Nat.reduceMul, Nat.reduceSub, Nat.reduceBEq, ↓reduceIte, reduceCtorEq]
  refine WL.loop (ι := Nat) (D := (fun i => if i = 10 then (8, []) else if i = 7 then (8, []) else if i = 4 then (8, []) else (0, []))) (fun i => i ≤ n) (fun i => ⟨43, [(0, .t (eEntryS (mkEs n k))), (1, .t (.i .i64 (k + 3 * i))), (5, .t (.i .i64 i))], []⟩) (fun i => n - i) mixed (by kernel_rfl) 0 (by omega) (Keep.wk (ids := []) ?_) ?_
  · simp only [push_cast, Nat.reduceEqDiff, Nat.reduceLT, Nat.reduceLeDiff, Nat.reduceAdd, Nat.reduceMul, Nat.reduceSub, Nat.reduceBEq, ↓reduceIte, reduceCtorEq, Int.mul_zero, Int.add_zero, Int.cast_ofNat_Int] <;> trivial
  · intro i hi
    simp -implicitDefEqProofs (maxSteps := 2000000) only [push_cast, Nat.reduceEqDiff, Nat.reduceLT, Nat.reduceLeDiff, Nat.reduceAdd, Nat.reduceMul, Nat.reduceSub, Nat.reduceBEq, ↓reduceIte, reduceCtorEq, eEntry]
    intro _
    have hml : (mkEs n k).length = n := mkEs_len
    rw [hml]
    split
    · rename_i h
      refine ⟨by omega, fun a ha => ?_⟩
      rw [Int.toNat_natCast, mkEs_get (by omega)] at ha
      cases ha
      refine CallV.t (markText (k + 3 * i) (by omega)) (.inl rfl) ?_
      simp -implicitDefEqProofs (maxSteps := 2000000) only [push_cast, Nat.reduceEqDiff, Nat.reduceLT, Nat.reduceLeDiff, Nat.reduceAdd, Nat.reduceMul, Nat.reduceSub, Nat.reduceBEq, ↓reduceIte, reduceCtorEq, eEntry]
      rw [if_neg (by simp [mkE])]
      refine ⟨by unfold inI64; omega, by omega, fun a ha => ?_⟩
      rw [Int.toNat_natCast, mkEs_get (by omega)] at ha
      cases ha
      refine CallV.t (markText (k + 3 * i + 1) (by omega)) (.inl rfl) ?_
      simp -implicitDefEqProofs (maxSteps := 2000000) only [push_cast, Nat.reduceEqDiff, Nat.reduceLT, Nat.reduceLeDiff, Nat.reduceAdd, Nat.reduceMul, Nat.reduceSub, Nat.reduceBEq, ↓reduceIte, reduceCtorEq, eEntry]
      rw [if_neg (by simp [mkE])]
      refine ⟨by unfold inI64; omega, by omega, fun a ha => ?_⟩
      rw [Int.toNat_natCast, mkEs_get (by omega)] at ha
      cases ha
      refine CallV.t (markText (k + 3 * i + 1 + 1) (by omega)) (.inl rfl) ?_
      simp -implicitDefEqProofs (maxSteps := 2000000) only [push_cast, Nat.reduceEqDiff, Nat.reduceLT, Nat.reduceLeDiff, Nat.reduceAdd, Nat.reduceMul, Nat.reduceSub, Nat.reduceBEq, ↓reduceIte, reduceCtorEq, eEntry]
      rw [if_neg (by simp [mkE, Int.add_assoc])]
      refine ⟨by unfold inI64; omega, by unfold inI64; omega, i + 1, by omega, by omega, Keep.wk (ids := []) ?_⟩
      simp only [push_cast, Nat.reduceEqDiff, Nat.reduceLT, Nat.reduceLeDiff, Nat.reduceAdd, Nat.reduceMul, Nat.reduceSub, Nat.reduceBEq, ↓reduceIte, reduceCtorEq, T.i.injEq, AV.t.injEq] <;> omega
    · have hi : i = n := by omega
      subst hi
      rfl

end Go.Proofs.Ythhgcklidfilfaa.BX
