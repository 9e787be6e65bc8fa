/-
  What is drawn: the reader of bytes, small texts, slots.
-/
import Derived.Test.YthhgcklidfilfaaSq
namespace Go.Proofs.Ythhgcklidfilfaa.BX
set_option linter.unusedSectionVars false
set_option linter.unusedSimpArgs false
set_option linter.unusedVariables false
open Go Go.RowKit
set_option maxRecDepth 20000
set_option maxHeartbeats 400000
/-- the next byte, and the place behind it -/
def nx (b : List UInt8) (p : Nat) : Nat := ((b[p]?).map UInt8.toNat).getD 0
def np (b : List UInt8) (p : Nat) : Nat := if p < b.length then p + 1 else p
theorem nx_lt {b : List UInt8} {p : Nat} : nx b p < 256 := by
  unfold nx
  cases b[p]? with
  | none => simp
  | some c => exact c.toNat_lt
theorem np_le {b : List UInt8} {p : Nat} (h : p ≤ b.length) : np b p ≤ b.length := by unfold np; split <;> omega
/-- a number in decimal -/
def decT (n : Nat) : List UInt8 := if h : n < 10 then [UInt8.ofNat (48 + n)] else decT (n / 10) ++ [UInt8.ofNat (48 + n % 10)]
termination_by n
decreasing_by omega
theorem decT_len : ∀ (n k : Nat), n < 10 ^ (k + 1) → (decT n).length ≤ k + 1
  | n, 0, h => by
    rw [decT, dif_pos (by simpa using h)]
    simp
  | n, k + 1, h => by
    rw [decT]
    split
    · simp
    · rw [List.length_append, List.length_singleton]
      have := decT_len (n / 10) k (by rw [Nat.pow_succ] at h; omega)
      omega
variable [Bd]
abbrev rdO (b : List UInt8) (p : Nat) : Ob := .box (.ag [.t (.sl (b.map eU8)), .t (.i .i64 p)])
theorem rdNext (b : List UInt8) (p : Nat) (hb : b.length ≤ 1000) (hp : p ≤ b.length) : ConM P0 75 [.rf 0 0] [rdO b p] (.t (.i .i64 (nx b p))) [rdO b (np b p)] := by
  refine ConM.intro (fn := Try.f75) [.tmp 2] (fun i => if i = 2 then (12, []) else if i = 1 then (10, []) else (0, [])) mixed (by kernel_rfl) rfl (by decide) rfl (by rfl) (by kernel_rfl) ?_
  simp -implicitDefEqProofs (maxSteps := 2000000) only [push_cast, Nat.reduceEqDiff, Nat.reduceLT, Nat.reduceLeDiff, Nat.reduceAdd, Nat.reduceMul, Nat.reduceSub, Nat.reduceBEq, ↓reduceIte, reduceCtorEq, eU8]
  intro _
  refine iteI (fun h => ⟨by omega, fun c hc => ?_⟩) (fun h => ?_)
  · have hn : nx b p = c.toNat := by unfold nx; rw [show ((p : Int)).toNat = p from Int.toNat_natCast _] at hc; rw [hc]; rfl
    have hp1 : np b p = p + 1 := if_pos (by omega)
    have hc := c.toNat_lt
    rw [hn, hp1, IntWalk.i64_in _ (by omega)]
    exact ⟨by unfold inI64; omega, rfl, Rest.of [some 0] rfl rfl (by simp only [push_cast, Nat.reduceEqDiff, Nat.reduceLT, Nat.reduceLeDiff, Nat.reduceAdd, Nat.reduceMul, Nat.reduceSub, Nat.reduceBEq, ↓reduceIte, reduceCtorEq] <;> first | rfl | exact ⟨rfl, rfl⟩)⟩
  · have hn : nx b p = 0 := by unfold nx; rw [List.getElem?_eq_none (by omega)]; rfl
    have hp1 : np b p = p := if_neg (by omega)
    rw [hn, hp1]
    exact ⟨rfl, Rest.of [some 0] rfl rfl (by simp only [push_cast, Nat.reduceEqDiff, Nat.reduceLT, Nat.reduceLeDiff, Nat.reduceAdd, Nat.reduceMul, Nat.reduceSub, Nat.reduceBEq, ↓reduceIte, reduceCtorEq] <;> first | rfl | exact ⟨rfl, rfl⟩)⟩
theorem l1Open (c : List UInt8) : Con P0 63 [.sl (c.map eU8)] (.rf 0 0) [rdO (c.take 1000) 0] := by
  refine Con.intro (fn := Try.f63) [.tmp 2] (fun _ => (0, [])) mixed (by kernel_rfl) rfl (by decide) rfl (by rfl) (by kernel_rfl) ?_
  simp -implicitDefEqProofs (maxSteps := 2000000) only [push_cast, Nat.reduceEqDiff, Nat.reduceLT, Nat.reduceLeDiff, Nat.reduceAdd, Nat.reduceMul, Nat.reduceSub, Nat.reduceBEq, ↓reduceIte, reduceCtorEq, eU8]
  intro _
  refine iteI (fun h => ⟨by omega, ?_⟩) (fun h => ?_)
  · exact Close.of [some 0] rfl rfl rfl (by simp only [push_cast, Nat.reduceEqDiff, Nat.reduceLT, Nat.reduceLeDiff, Nat.reduceAdd, Nat.reduceMul, Nat.reduceSub, Nat.reduceBEq, ↓reduceIte, reduceCtorEq]) (by simp only [push_cast, Nat.reduceEqDiff, Nat.reduceLT, Nat.reduceLeDiff, Nat.reduceAdd, Nat.reduceMul, Nat.reduceSub, Nat.reduceBEq, ↓reduceIte, reduceCtorEq, List.map_take] <;> first | rfl | exact ⟨rfl, rfl⟩)
  · rw [List.take_of_length_le (by omega)]
    exact Close.of [some 0] rfl rfl rfl (by simp only [push_cast, Nat.reduceEqDiff, Nat.reduceLT, Nat.reduceLeDiff, Nat.reduceAdd, Nat.reduceMul, Nat.reduceSub, Nat.reduceBEq, ↓reduceIte, reduceCtorEq]) (by simp only [push_cast, Nat.reduceEqDiff, Nat.reduceLT, Nat.reduceLeDiff, Nat.reduceAdd, Nat.reduceMul, Nat.reduceSub, Nat.reduceBEq, ↓reduceIte, reduceCtorEq] <;> first | rfl | exact ⟨rfl, rfl⟩)
theorem l1User (k : Nat) (hk : k < 1000) : Con P0 142 [.i .i64 k] (.t (.s [64, UInt8.ofNat (97 + k % 4)])) [] := by
  refine Con.intro (fn := Try.f142) [.tmp 2] (fun _ => (0, [])) mixed (by kernel_rfl) rfl (by decide) rfl (by rfl) (by kernel_rfl) ?_
  simp -implicitDefEqProofs (maxSteps := 2000000) only [push_cast, Nat.reduceEqDiff, Nat.reduceLT, Nat.reduceLeDiff, Nat.reduceAdd, Nat.reduceMul, Nat.reduceSub, Nat.reduceBEq, ↓reduceIte, reduceCtorEq]
  have := Bd.lo
  have e1 : ((k : Int) % 4).toNat = k % 4 := by omega
  have e2 : ((k : Int) % 4 + 1).toNat = k % 4 + 1 := by omega
  rw [e1, e2]
  have h4 : k % 4 = 0 ∨ k % 4 = 1 ∨ k % 4 = 2 ∨ k % 4 = 3 := by omega
  refine ⟨by omega, by omega, by omega, by omega, by unfold inI64; omega, by omega, ?_, ?_⟩
  · simp only [List.length_drop, List.length_take, List.length_cons, List.length_nil]
    omega
  · rcases h4 with h | h | h | h <;> rw [h] <;> rfl
theorem l1Dec : ∀ (n : Nat), n < 10000000000000000 → Con P0 78 [.i .i64 n] (.t (.s (decT n))) [] := by
  intro n
  induction n using Nat.strongRecOn with
  | ind n ih =>
  intro hn
  refine Con.intro (fn := Try.f78) [.tmp 2] (fun i => if i = 5 then (11, [(false, 0), (false, 1), (false, 2), (false, 3), (false, 4), (false, 5), (false, 6), (true, 7), (false, 8), (false, 9), (false, 10)]) else (0, [])) mixed (by kernel_rfl) rfl (by decide) rfl (by rfl) (by kernel_rfl) ?_
  simp -implicitDefEqProofs (maxSteps := 2000000) only [push_cast, Nat.reduceEqDiff, Nat.reduceLT, Nat.reduceLeDiff, Nat.reduceAdd, Nat.reduceMul, Nat.reduceSub, Nat.reduceBEq, ↓reduceIte, reduceCtorEq]
  have := Bd.lo
  refine iteI (fun h => by omega) (fun _ => iteI (fun h => ?_) (fun h => ?_))
  · rw [IntWalk.u8_in _ (by omega), decT, dif_pos (by omega), show ((48 : Int) + n).toNat = 48 + n by omega]
    exact ⟨by unfold inI64; omega, rfl, by omega, rfl⟩
  · refine ⟨by omega, by omega, by unfold inI64; omega, ?_⟩
    refine CallV.t (by have := ih (n / 10) (by omega) (by omega); rw [show (n : Int) / 10 = ((n / 10 : Nat) : Int) by omega]; exact this) (.inl rfl) ?_
    simp -implicitDefEqProofs (maxSteps := 2000000) only [push_cast, Nat.reduceEqDiff, Nat.reduceLT, Nat.reduceLeDiff, Nat.reduceAdd, Nat.reduceMul, Nat.reduceSub, Nat.reduceBEq, ↓reduceIte, reduceCtorEq]
    have hl := decT_len (n / 10) 15 (by omega)
    rw [IntWalk.u8_in _ (by omega), show ((48 : Int) + n % 10).toNat = 48 + n % 10 by omega]
    refine ⟨by omega, by omega, by unfold inI64; omega, rfl, by omega, by omega, ?_⟩
    conv => rhs; rw [decT, dif_neg (by omega)]
/-- a user -/
def userT (k : Nat) : List UInt8 := [64, UInt8.ofNat (97 + k % 4)]
/-- the kind of a slot that is drawn -/
def typeAt (k : Nat) : List UInt8 := if k % 4 = 0 then [99, 114, 101, 97, 116, 101] else if k % 4 = 1 then [109, 101, 109, 98, 101, 114] else if k % 4 = 2 then [112, 111, 119, 101, 114] else [116, 111, 112, 105, 99]
/-- a slot that is drawn -/
def slotAt (k : Nat) : Entry := ⟨typeAt k, if k % 4 = 1 ∨ k % 8 = 7 then userT (k / 8) else [], 36 :: decT (k / 16)⟩
theorem l4Slot (b : List UInt8) (p : Nat) (hb : b.length ≤ 1000) (hp : p ≤ b.length) : ConM P0 81 [.rf 0 0] [rdO b p] (.t (eEntry (slotAt (nx b p)))) [rdO b (np b p)] := by
  refine ConM.intro (fn := Try.f81) [.cell 2 32] (fun i => if i = 2 then (2000002, [(true, 3), (false, 1), (true, 2), (true, 3), (false, 0), (true, 2), (true, 3), (false, 0), (true, 3), (false, 0), (true, 3), (false, 0), (true, 2), (true, 3), (false, 0), (true, 2), (true, 3), (false, 0), (true, 2), (true, 3), (false, 0), (true, 2), (true, 3), (false, 0), (true, 3), (false, 0), (true, 2), (false, 1)]) else (0, [])) mixed (by kernel_rfl) rfl (by decide) rfl (by rfl) (by kernel_rfl) ?_
  simp -implicitDefEqProofs (maxSteps := 2000000) only [push_cast, Nat.reduceEqDiff, Nat.reduceLT, Nat.reduceLeDiff, Nat.reduceAdd, Nat.reduceMul, Nat.reduceSub, Nat.reduceBEq, ↓reduceIte, reduceCtorEq]
  refine Callx.hand [0] (rdNext b p hb hp) (by decide) (by simp only [push_cast, Nat.reduceEqDiff, Nat.reduceLT, Nat.reduceLeDiff, Nat.reduceAdd, Nat.reduceMul, Nat.reduceSub, Nat.reduceBEq, ↓reduceIte, reduceCtorEq]) rfl rfl (by simp only [push_cast, Nat.reduceEqDiff, Nat.reduceLT, Nat.reduceLeDiff, Nat.reduceAdd, Nat.reduceMul, Nat.reduceSub, Nat.reduceBEq, ↓reduceIte, reduceCtorEq] <;> rfl) rfl (.inr ⟨rfl, by simp only [push_cast, Nat.reduceEqDiff, Nat.reduceLT, Nat.reduceLeDiff, Nat.reduceAdd, Nat.reduceMul, Nat.reduceSub, Nat.reduceBEq, ↓reduceIte, reduceCtorEq]⟩) ?_
  simp -implicitDefEqProofs (maxSteps := 2000000) only [push_cast, Nat.reduceEqDiff, Nat.reduceLT, Nat.reduceLeDiff, Nat.reduceAdd, Nat.reduceMul, Nat.reduceSub, Nat.reduceBEq, ↓reduceIte, reduceCtorEq]
  have := Bd.lo
  have hk := nx_lt (b := b) (p := p)
  generalize nx b p = k at *
  have e1 : ((k : Int) % 4).toNat = k % 4 := by omega
  rw [e1]
  refine ⟨rfl, by omega, by omega, by omega, by omega, by omega, fun y hy => ?_⟩
  have hy : y = .s (typeAt k) := by
    have h4 : k % 4 = 0 ∨ k % 4 = 1 ∨ k % 4 = 2 ∨ k % 4 = 3 := by omega
    unfold typeAt
    rcases h4 with h | h | h | h <;> rw [h] at hy ⊢ <;> (cases hy; rfl)
  subst hy
  simp -implicitDefEqProofs (maxSteps := 2000000) only [push_cast, Nat.reduceEqDiff, Nat.reduceLT, Nat.reduceLeDiff, Nat.reduceAdd, Nat.reduceMul, Nat.reduceSub, Nat.reduceBEq, ↓reduceIte, reduceCtorEq]
  have e16 : (k : Int) / 16 = ((k / 16 : Nat) : Int) := by omega
  rw [e16]
  refine ⟨by omega, by omega, by unfold inI64; omega, ?_⟩
  refine CallV.t (l1Dec (k / 16) (by omega)) (.inl rfl) ?_
  simp -implicitDefEqProofs (maxSteps := 2000000) only [push_cast, Nat.reduceEqDiff, Nat.reduceLT, Nat.reduceLeDiff, Nat.reduceAdd, Nat.reduceMul, Nat.reduceSub, Nat.reduceBEq, ↓reduceIte, reduceCtorEq]
  have e8 : (k : Int) / 8 = ((k / 8 : Nat) : Int) := by omega
  rw [e8]
  have hl := decT_len (k / 16) 15 (by omega)
  have hh : inI64 (k : Int) := by unfold inI64; omega
  refine ⟨by omega, by omega, by omega, iteI (fun h1 => ⟨by omega, by omega, hh, ?_⟩) (fun h1 => ⟨by omega, by omega, iteI (fun h2 => ⟨by omega, by omega, hh, ?_⟩) (fun h2 => ?_)⟩)⟩
  · refine Callx.closed (l1User (k / 8) (by omega)) rfl rfl (.inl rfl) ?_
    simp -implicitDefEqProofs (maxSteps := 2000000) only [push_cast, Nat.reduceEqDiff, Nat.reduceLT, Nat.reduceLeDiff, Nat.reduceAdd, Nat.reduceMul, Nat.reduceSub, Nat.reduceBEq, ↓reduceIte, reduceCtorEq]
    refine ⟨by rw [slotAt, if_pos (.inl (by omega))]; rfl, Rest.of [some 0] rfl rfl (by simp only [push_cast, Nat.reduceEqDiff, Nat.reduceLT, Nat.reduceLeDiff, Nat.reduceAdd, Nat.reduceMul, Nat.reduceSub, Nat.reduceBEq, ↓reduceIte, reduceCtorEq] <;> rfl)⟩
  · refine Callx.closed (l1User (k / 8) (by omega)) rfl rfl (.inl rfl) ?_
    simp -implicitDefEqProofs (maxSteps := 2000000) only [push_cast, Nat.reduceEqDiff, Nat.reduceLT, Nat.reduceLeDiff, Nat.reduceAdd, Nat.reduceMul, Nat.reduceSub, Nat.reduceBEq, ↓reduceIte, reduceCtorEq]
    refine ⟨by rw [slotAt, if_pos (.inr (by omega))]; rfl, Rest.of [some 0] rfl rfl (by simp only [push_cast, Nat.reduceEqDiff, Nat.reduceLT, Nat.reduceLeDiff, Nat.reduceAdd, Nat.reduceMul, Nat.reduceSub, Nat.reduceBEq, ↓reduceIte, reduceCtorEq] <;> rfl)⟩
  · refine ⟨by rw [slotAt, if_neg (by omega)]; rfl, Rest.of [some 0] rfl rfl (by simp only [push_cast, Nat.reduceEqDiff, Nat.reduceLT, Nat.reduceLeDiff, Nat.reduceAdd, Nat.reduceMul, Nat.reduceSub, Nat.reduceBEq, ↓reduceIte, reduceCtorEq] <;> rfl)⟩
/-- slots drawn one after the other: the list, and the place behind them -/
def drawTo (b : List UInt8) (p : Nat) : Nat → List Entry × Nat
  | 0 => ([], p)
  | i + 1 => (setL (drawTo b p i).1 (slotAt (nx b (drawTo b p i).2)) false, np b (drawTo b p i).2)
def drawL (b : List UInt8) (p : Nat) : List Entry × Nat := drawTo b (np b p) (nx b p % 7)
theorem drawTo_p {b : List UInt8} {p : Nat} (hp : p ≤ b.length) : ∀ {i : Nat}, (drawTo b p i).2 ≤ b.length
  | 0 => hp
  | i + 1 => np_le (drawTo_p hp)
theorem drawTo_ord {b : List UInt8} {p : Nat} : ∀ {i : Nat}, Ordered (drawTo b p i).1 ∧ (drawTo b p i).1.length ≤ i
  | 0 => ⟨.nil, Nat.zero_le _⟩
  | i + 1 => ⟨(setL_spec (drawTo_ord (i := i)).1).1, by
      have h1 := setL_len_ord (e := slotAt (nx b (drawTo b p i).2)) (keep := false) (drawTo_ord (b := b) (p := p) (i := i)).1
      have h2 := (drawTo_ord (b := b) (p := p) (i := i)).2
      show (setL _ _ _).length ≤ _
      omega⟩
theorem l4Draw (b : List UInt8) (p : Nat) (hB : Bd.B ≤ 2147483648) (hb : b.length ≤ 1000) (hp : p ≤ b.length) : ConM P0 134 [.rf 0 0] [rdO b p] (.sr 1) [rdO b (drawL b p).2, enO (drawL b p).1] := by
  refine ConM.intro (fn := Try.f134) [.tmp 2] (fun _ => (0, [])) mixed (by kernel_rfl) rfl (by decide) rfl (by rfl) (by kernel_rfl) ?_
  simp -implicitDefEqProofs (maxSteps := 2000000) only [push_cast, Nat.reduceEqDiff, Nat.reduceLT, Nat.reduceLeDiff, Nat.reduceAdd, Nat.reduceMul, Nat.reduceSub, Nat.reduceBEq, ↓reduceIte, reduceCtorEq]
  have := Bd.lo
  refine ⟨rfl, by omega, ?_⟩
  refine Callx.hand [0] (rdNext b p hb hp) (by decide) (by simp only [push_cast, Nat.reduceEqDiff, Nat.reduceLT, Nat.reduceLeDiff, Nat.reduceAdd, Nat.reduceMul, Nat.reduceSub, Nat.reduceBEq, ↓reduceIte, reduceCtorEq]) rfl rfl (by simp only [push_cast, Nat.reduceEqDiff, Nat.reduceLT, Nat.reduceLeDiff, Nat.reduceAdd, Nat.reduceMul, Nat.reduceSub, Nat.reduceBEq, ↓reduceIte, reduceCtorEq] <;> rfl) rfl (.inr ⟨rfl, by simp only [push_cast, Nat.reduceEqDiff, Nat.reduceLT, Nat.reduceLeDiff, Nat.reduceAdd, Nat.reduceMul, Nat.reduceSub, Nat.reduceBEq, ↓reduceIte, reduceCtorEq]⟩) ?_
  simp -implicitDefEqProofs (maxSteps := 2000000) only [push_cast, Nat.reduceEqDiff, Nat.reduceLT, Nat.reduceLeDiff, Nat.reduceAdd, Nat.reduceMul, Nat.reduceSub, Nat.reduceBEq, ↓reduceIte, reduceCtorEq]
  have hnp := np_le hp
  generalize hn : nx b p % 7 = n at *
  have hL : drawL b p = drawTo b (np b p) n := by rw [drawL, hn]
  have e7 : ((nx b p : Nat) : Int) % 7 = ((n : Nat) : Int) := by omega
  rw [e7, hL]
  refine ⟨by omega, by omega, ?_⟩
  refine WL.loop (ι := Nat) (D := (fun _ => (0, []))) (fun i => i ≤ n) (fun i => ⟨20, [(0, .rf 0 0), (3, .sr 1), (4, .t (.i .i64 n)), (5, .t (.i .i64 i))], [rdO b (drawTo b (np b p) i).2, enO (drawTo b (np b p) i).1]⟩) (fun i => n - i) mixed (by kernel_rfl) 0 (by omega) (Keep.wk (ids := [some 0, some 1]) ?_) ?_
  · simp only [push_cast, Nat.reduceEqDiff, Nat.reduceLT, Nat.reduceLeDiff, Nat.reduceAdd, Nat.reduceMul, Nat.reduceSub, Nat.reduceBEq, ↓reduceIte, reduceCtorEq, drawTo] <;> trivial
  intro i hi
  have hol := drawTo_ord (b := b) (p := np b p) (i := i)
  have hpi := drawTo_p hnp (i := i)
  simp -implicitDefEqProofs (maxSteps := 2000000) only [push_cast, Nat.reduceEqDiff, Nat.reduceLT, Nat.reduceLeDiff, Nat.reduceAdd, Nat.reduceMul, Nat.reduceSub, Nat.reduceBEq, ↓reduceIte, reduceCtorEq]
  split
  · rename_i h
    refine Callx.hand [0] (l4Slot b (drawTo b (np b p) i).2 hb hpi) (by decide) (by simp only [push_cast, Nat.reduceEqDiff, Nat.reduceLT, Nat.reduceLeDiff, Nat.reduceAdd, Nat.reduceMul, Nat.reduceSub, Nat.reduceBEq, ↓reduceIte, reduceCtorEq]) rfl rfl (by simp only [push_cast, Nat.reduceEqDiff, Nat.reduceLT, Nat.reduceLeDiff, Nat.reduceAdd, Nat.reduceMul, Nat.reduceSub, Nat.reduceBEq, ↓reduceIte, reduceCtorEq] <;> rfl) rfl (.inr ⟨rfl, by simp only [push_cast, Nat.reduceEqDiff, Nat.reduceLT, Nat.reduceLeDiff, Nat.reduceAdd, Nat.reduceMul, Nat.reduceSub, Nat.reduceBEq, ↓reduceIte, reduceCtorEq]⟩) ?_
    simp -implicitDefEqProofs (maxSteps := 2000000) only [push_cast, Nat.reduceEqDiff, Nat.reduceLT, Nat.reduceLeDiff, Nat.reduceAdd, Nat.reduceMul, Nat.reduceSub, Nat.reduceBEq, ↓reduceIte, reduceCtorEq]
    refine Callx.closed (l4Set (drawTo b (np b p) i).1 (slotAt (nx b (drawTo b (np b p) i).2)) false hB (by omega)) rfl rfl (.inr ⟨rfl, rfl⟩) ?_
    simp -implicitDefEqProofs (maxSteps := 2000000) only [push_cast, Nat.reduceEqDiff, Nat.reduceLT, Nat.reduceLeDiff, Nat.reduceAdd, Nat.reduceMul, Nat.reduceSub, Nat.reduceBEq, ↓reduceIte, reduceCtorEq]
    refine ⟨by unfold inI64; omega, i + 1, by omega, by omega, Keep.wk (ids := [some 0, some 2]) ?_⟩
    simp only [push_cast, Nat.reduceEqDiff, Nat.reduceLT, Nat.reduceLeDiff, Nat.reduceAdd, Nat.reduceMul, Nat.reduceSub, Nat.reduceBEq, ↓reduceIte, reduceCtorEq, drawTo] <;> rfl
  · have hi : i = n := by omega
    subst hi
    refine Close.of [some 0, some 1] rfl rfl rfl (by simp only [push_cast, Nat.reduceEqDiff, Nat.reduceLT, Nat.reduceLeDiff, Nat.reduceAdd, Nat.reduceMul, Nat.reduceSub, Nat.reduceBEq, ↓reduceIte, reduceCtorEq] <;> rfl) (by simp only [push_cast, Nat.reduceEqDiff, Nat.reduceLT, Nat.reduceLeDiff, Nat.reduceAdd, Nat.reduceMul, Nat.reduceSub, Nat.reduceBEq, ↓reduceIte, reduceCtorEq] <;> rfl)

/-- a list that is spoiled in place -/
def spoilIn (k : Nat) (s : List Entry) : List Entry := match s[k / 3 % s.length]? with
  | some e => s.set (k / 3 % s.length) (if k % 3 = 0 then ⟨e.typ, e.key, []⟩ else ⟨[122, 122], e.key, e.id⟩)
  | none => s
/-- .. and by one more -/
def spoilOut (k : Nat) (s : List Entry) : List Entry := match s[k / 3 % s.length]? with
  | some e => s ++ [e]
  | none => [⟨[120], [], []⟩]
theorem spoil_at {k n : Nat} (h : 0 < n) : (((k : Int) / 3 % (n : Int)).toNat = k / 3 % n ∧ k / 3 % n < n) ∧ (0 ≤ (k : Int) / 3 % (n : Int) ∧ (k : Int) / 3 % (n : Int) < n) := by
  have h1 : (k : Int) / 3 % (n : Int) = ((k / 3 % n : Nat) : Int) := by rw [show (k : Int) / 3 = ((k / 3 : Nat) : Int) by omega]; exact (Int.natCast_emod _ _).symm
  have := Nat.mod_lt (k / 3) h
  rw [h1]
  refine ⟨⟨by omega, this⟩, by omega, by omega⟩
theorem l4SpoilIn (b : List UInt8) (p : Nat) (s : List Entry) (hb : b.length ≤ 1000) (hp : p ≤ b.length) (hs : ¬ s = [] ∧ nx b p % 3 ≠ 1) : ConM P0 139 [.rf 0 0, .sr 1] [rdO b p, enO s] (.sr 1) [rdO b (np b p), enO (spoilIn (nx b p) s)] := by
  refine ConM.intro (fn := Try.f139) [.tmp 4] (fun _ => (0, [])) mixed (by kernel_rfl) rfl (by decide) rfl (by rfl) (by kernel_rfl) ?_
  simp -implicitDefEqProofs (maxSteps := 2000000) only [push_cast, Nat.reduceEqDiff, Nat.reduceLT, Nat.reduceLeDiff, Nat.reduceAdd, Nat.reduceMul, Nat.reduceSub, Nat.reduceBEq, ↓reduceIte, reduceCtorEq]
  have := Bd.lo
  refine Callx.hand [0] (rdNext b p hb hp) (by decide) (by simp only [push_cast, Nat.reduceEqDiff, Nat.reduceLT, Nat.reduceLeDiff, Nat.reduceAdd, Nat.reduceMul, Nat.reduceSub, Nat.reduceBEq, ↓reduceIte, reduceCtorEq]) rfl rfl (by simp only [push_cast, Nat.reduceEqDiff, Nat.reduceLT, Nat.reduceLeDiff, Nat.reduceAdd, Nat.reduceMul, Nat.reduceSub, Nat.reduceBEq, ↓reduceIte, reduceCtorEq] <;> rfl) rfl (.inr ⟨rfl, by simp only [push_cast, Nat.reduceEqDiff, Nat.reduceLT, Nat.reduceLeDiff, Nat.reduceAdd, Nat.reduceMul, Nat.reduceSub, Nat.reduceBEq, ↓reduceIte, reduceCtorEq]⟩) ?_
  simp -implicitDefEqProofs (maxSteps := 2000000) only [push_cast, Nat.reduceEqDiff, Nat.reduceLT, Nat.reduceLeDiff, Nat.reduceAdd, Nat.reduceMul, Nat.reduceSub, Nat.reduceBEq, ↓reduceIte, reduceCtorEq, eEntry]
  have h0 : 0 < s.length := List.length_pos_iff.2 hs.1
  have hk := nx_lt (b := b) (p := p)
  generalize nx b p = k at *
  obtain ⟨⟨e1, e2⟩, e3⟩ := spoil_at (k := k) h0
  obtain ⟨x, hx⟩ : ∃ x, s[k / 3 % s.length]? = some x := ⟨_, List.getElem?_eq_getElem e2⟩
  have h64 : inI64 (k : Int) := by unfold inI64; omega
  have hst : ∀ (l : List Entry) (i : Nat) (z : Entry), (l.map eEntry).set i (eEntry z) = (l.set i z).map eEntry := fun l i z => by rw [List.map_set]
  rw [e1]
  intro _
  refine iteI (fun h => by omega) (fun _ => ⟨by omega, by omega, h64, fun _ => ⟨by omega, by omega, by omega, by omega, iteI (fun h => ⟨e3, e2, fun a ha => ?_⟩) (fun h => ⟨by omega, by omega, iteI (fun h => by omega) (fun h2 => ⟨e3, e2, fun a ha => ?_⟩)⟩)⟩⟩)
  · rw [hx] at ha
    cases ha
    rw [show T.ag [T.s x.typ, T.s x.key, T.s []] = eEntry ⟨x.typ, x.key, []⟩ from rfl, hst]
    refine Close.of [some 0, some 1] rfl rfl rfl (by simp only [push_cast, Nat.reduceEqDiff, Nat.reduceLT, Nat.reduceLeDiff, Nat.reduceAdd, Nat.reduceMul, Nat.reduceSub, Nat.reduceBEq, ↓reduceIte, reduceCtorEq] <;> rfl) ?_
    simp only [push_cast, Nat.reduceEqDiff, Nat.reduceLT, Nat.reduceLeDiff, Nat.reduceAdd, Nat.reduceMul, Nat.reduceSub, Nat.reduceBEq, ↓reduceIte, reduceCtorEq, spoilIn, hx, if_pos (show k % 3 = 0 by omega)] <;> rfl
  · rw [hx] at ha
    cases ha
    rw [show T.ag [T.s [122, 122], T.s x.key, T.s x.id] = eEntry ⟨[122, 122], x.key, x.id⟩ from rfl, hst]
    refine Close.of [some 0, some 1] rfl rfl rfl (by simp only [push_cast, Nat.reduceEqDiff, Nat.reduceLT, Nat.reduceLeDiff, Nat.reduceAdd, Nat.reduceMul, Nat.reduceSub, Nat.reduceBEq, ↓reduceIte, reduceCtorEq] <;> rfl) ?_
    simp only [push_cast, Nat.reduceEqDiff, Nat.reduceLT, Nat.reduceLeDiff, Nat.reduceAdd, Nat.reduceMul, Nat.reduceSub, Nat.reduceBEq, ↓reduceIte, reduceCtorEq, spoilIn, hx, if_neg (show ¬ k % 3 = 0 by omega)] <;> rfl
theorem l4SpoilOut (b : List UInt8) (p : Nat) (s : List Entry) (hB : Bd.B ≤ 2147483648) (hl : s.length + 1 < Bd.B) (hb : b.length ≤ 1000) (hp : p ≤ b.length) (hs : s = [] ∨ nx b p % 3 = 1) : ConM P0 139 [.rf 0 0, .sr 1] [rdO b p, enO s] (.sr 2) [rdO b (np b p), .dead, enO (spoilOut (nx b p) s)] := by
  refine ConM.intro (fn := Try.f139) [.tmp 4] (fun _ => (0, [])) mixed (by kernel_rfl) rfl (by decide) rfl (by rfl) (by kernel_rfl) ?_
  simp -implicitDefEqProofs (maxSteps := 2000000) only [push_cast, Nat.reduceEqDiff, Nat.reduceLT, Nat.reduceLeDiff, Nat.reduceAdd, Nat.reduceMul, Nat.reduceSub, Nat.reduceBEq, ↓reduceIte, reduceCtorEq]
  have := Bd.lo
  refine Callx.hand [0] (rdNext b p hb hp) (by decide) (by simp only [push_cast, Nat.reduceEqDiff, Nat.reduceLT, Nat.reduceLeDiff, Nat.reduceAdd, Nat.reduceMul, Nat.reduceSub, Nat.reduceBEq, ↓reduceIte, reduceCtorEq]) rfl rfl (by simp only [push_cast, Nat.reduceEqDiff, Nat.reduceLT, Nat.reduceLeDiff, Nat.reduceAdd, Nat.reduceMul, Nat.reduceSub, Nat.reduceBEq, ↓reduceIte, reduceCtorEq] <;> rfl) rfl (.inr ⟨rfl, by simp only [push_cast, Nat.reduceEqDiff, Nat.reduceLT, Nat.reduceLeDiff, Nat.reduceAdd, Nat.reduceMul, Nat.reduceSub, Nat.reduceBEq, ↓reduceIte, reduceCtorEq]⟩) ?_
  simp -implicitDefEqProofs (maxSteps := 2000000) only [push_cast, Nat.reduceEqDiff, Nat.reduceLT, Nat.reduceLeDiff, Nat.reduceAdd, Nat.reduceMul, Nat.reduceSub, Nat.reduceBEq, ↓reduceIte, reduceCtorEq, eEntry]
  have hk := nx_lt (b := b) (p := p)
  generalize nx b p = k at *
  have h64 : inI64 (k : Int) := by unfold inI64; omega
  intro _
  refine iteI (fun h => ⟨rfl, by omega, rfl, by omega, by omega, ?_⟩) (fun h0 => ⟨by omega, by omega, h64, fun _ => ⟨by omega, by omega, by omega, by omega, ?_⟩⟩)
  · have h0 : s = [] := List.eq_nil_of_length_eq_zero (by omega)
    subst h0
    refine Close.of [some 0, some 1, some 3] rfl rfl rfl (by simp only [push_cast, Nat.reduceEqDiff, Nat.reduceLT, Nat.reduceLeDiff, Nat.reduceAdd, Nat.reduceMul, Nat.reduceSub, Nat.reduceBEq, ↓reduceIte, reduceCtorEq] <;> rfl) ?_
    simp only [push_cast, Nat.reduceEqDiff, Nat.reduceLT, Nat.reduceLeDiff, Nat.reduceAdd, Nat.reduceMul, Nat.reduceSub, Nat.reduceBEq, ↓reduceIte, reduceCtorEq, spoilOut, List.getElem?_nil] <;> rfl
  have h0 : 0 < s.length := by omega
  have h3 : k % 3 = 1 := by
    rcases hs with hs | hs
    · subst hs; simp at h0
    · exact hs
  obtain ⟨⟨e1, e2⟩, e3⟩ := spoil_at (k := k) h0
  obtain ⟨x, hx⟩ : ∃ x, s[k / 3 % s.length]? = some x := ⟨_, List.getElem?_eq_getElem e2⟩
  rw [e1]
  refine iteI (fun h => by omega) (fun h => ⟨by omega, by omega, iteI (fun h => ⟨e3, e2, fun a ha => ⟨rfl, by omega, rfl, by omega, by omega, ?_⟩⟩) (fun h2 => by omega)⟩)
  rw [hx] at ha
  cases ha
  refine Close.of [some 0, some 1, some 3] rfl rfl rfl (by simp only [push_cast, Nat.reduceEqDiff, Nat.reduceLT, Nat.reduceLeDiff, Nat.reduceAdd, Nat.reduceMul, Nat.reduceSub, Nat.reduceBEq, ↓reduceIte, reduceCtorEq] <;> rfl) ?_
  simp only [push_cast, Nat.reduceEqDiff, Nat.reduceLT, Nat.reduceLeDiff, Nat.reduceAdd, Nat.reduceMul, Nat.reduceSub, Nat.reduceBEq, ↓reduceIte, reduceCtorEq, spoilOut, hx, List.map_append] <;> rfl

def spoilL (k : Nat) (s : List Entry) : List Entry := if s = [] ∨ k % 3 = 1 then spoilOut k s else spoilIn k s
/-- a list, now and then one that is no state -/
def anyL (b : List UInt8) (p : Nat) : List Entry × Nat :=
  if nx b p % 6 = 5 then (spoilL (nx b (drawL b (np b p)).2) (drawL b (np b p)).1, np b (drawL b (np b p)).2) else drawL b (np b p)
theorem drawL_p {b : List UInt8} {p : Nat} (hp : p ≤ b.length) : (drawL b p).2 ≤ b.length := drawTo_p (np_le hp)
theorem drawL_len {b : List UInt8} {p : Nat} : (drawL b p).1.length ≤ 6 := by
  have := (drawTo_ord (b := b) (p := np b p) (i := nx b p % 7)).2
  unfold drawL
  omega
theorem spoilL_len {k : Nat} {s : List Entry} : (spoilL k s).length ≤ s.length + 1 := by
  unfold spoilL spoilOut spoilIn
  split <;> split <;> simp
theorem anyL_p {b : List UInt8} {p : Nat} (hp : p ≤ b.length) : (anyL b p).2 ≤ b.length := by
  unfold anyL
  split
  · exact np_le (drawL_p (np_le hp))
  · exact drawL_p (np_le hp)
theorem anyL_len {b : List UInt8} {p : Nat} : (anyL b p).1.length ≤ 7 := by
  have h1 := drawL_len (b := b) (p := np b p)
  unfold anyL
  split
  · have := spoilL_len (k := nx b (drawL b (np b p)).2) (s := (drawL b (np b p)).1)
    dsimp only
    omega
  · omega
theorem l4DrawAny (b : List UInt8) (p : Nat) (hB : Bd.B ≤ 2147483648) (hb : b.length ≤ 1000) (hp : p ≤ b.length) : ConM P0 77 [.rf 0 0] [rdO b p] (.sr 1) [rdO b (anyL b p).2, enO (anyL b p).1] := by
  refine ConM.intro (fn := Try.f77) [.tmp 2] (fun _ => (0, [])) mixed (by kernel_rfl) rfl (by decide) rfl (by rfl) (by kernel_rfl) ?_
  simp -implicitDefEqProofs (maxSteps := 2000000) only [push_cast, Nat.reduceEqDiff, Nat.reduceLT, Nat.reduceLeDiff, Nat.reduceAdd, Nat.reduceMul, Nat.reduceSub, Nat.reduceBEq, ↓reduceIte, reduceCtorEq]
  have := Bd.lo
  have hl := drawL_len (b := b) (p := np b p)
  refine Callx.hand [0] (rdNext b p hb hp) (by decide) (by simp only [push_cast, Nat.reduceEqDiff, Nat.reduceLT, Nat.reduceLeDiff, Nat.reduceAdd, Nat.reduceMul, Nat.reduceSub, Nat.reduceBEq, ↓reduceIte, reduceCtorEq]) rfl rfl (by simp only [push_cast, Nat.reduceEqDiff, Nat.reduceLT, Nat.reduceLeDiff, Nat.reduceAdd, Nat.reduceMul, Nat.reduceSub, Nat.reduceBEq, ↓reduceIte, reduceCtorEq] <;> rfl) rfl (.inr ⟨rfl, by simp only [push_cast, Nat.reduceEqDiff, Nat.reduceLT, Nat.reduceLeDiff, Nat.reduceAdd, Nat.reduceMul, Nat.reduceSub, Nat.reduceBEq, ↓reduceIte, reduceCtorEq]⟩) ?_
  simp -implicitDefEqProofs (maxSteps := 2000000) only [push_cast, Nat.reduceEqDiff, Nat.reduceLT, Nat.reduceLeDiff, Nat.reduceAdd, Nat.reduceMul, Nat.reduceSub, Nat.reduceBEq, ↓reduceIte, reduceCtorEq]
  refine Callx.hand [0] (l4Draw b (np b p) hB hb (np_le hp)) (by decide) (by simp only [push_cast, Nat.reduceEqDiff, Nat.reduceLT, Nat.reduceLeDiff, Nat.reduceAdd, Nat.reduceMul, Nat.reduceSub, Nat.reduceBEq, ↓reduceIte, reduceCtorEq]) rfl rfl (by simp only [push_cast, Nat.reduceEqDiff, Nat.reduceLT, Nat.reduceLeDiff, Nat.reduceAdd, Nat.reduceMul, Nat.reduceSub, Nat.reduceBEq, ↓reduceIte, reduceCtorEq] <;> rfl) rfl (.inr ⟨rfl, by simp only [push_cast, Nat.reduceEqDiff, Nat.reduceLT, Nat.reduceLeDiff, Nat.reduceAdd, Nat.reduceMul, Nat.reduceSub, Nat.reduceBEq, ↓reduceIte, reduceCtorEq]⟩) ?_
  simp -implicitDefEqProofs (maxSteps := 2000000) only [push_cast, Nat.reduceEqDiff, Nat.reduceLT, Nat.reduceLeDiff, Nat.reduceAdd, Nat.reduceMul, Nat.reduceSub, Nat.reduceBEq, ↓reduceIte, reduceCtorEq]
  have hk := nx_lt (b := b) (p := p)
  have hpd := drawL_p (np_le hp) (b := b)
  refine ⟨by omega, by omega, iteI (fun h => ?_) (fun h => ?_)⟩
  · have ha : anyL b p = (spoilL (nx b (drawL b (np b p)).2) (drawL b (np b p)).1, np b (drawL b (np b p)).2) := if_pos (by omega)
    rw [ha]
    by_cases hs : (drawL b (np b p)).1 = [] ∨ nx b (drawL b (np b p)).2 % 3 = 1
    · refine Callx.hand [0, 1] (l4SpoilOut b _ _ hB (by omega) hb hpd hs) (by decide) (by simp only [push_cast, Nat.reduceEqDiff, Nat.reduceLT, Nat.reduceLeDiff, Nat.reduceAdd, Nat.reduceMul, Nat.reduceSub, Nat.reduceBEq, ↓reduceIte, reduceCtorEq]) rfl rfl (by simp only [push_cast, Nat.reduceEqDiff, Nat.reduceLT, Nat.reduceLeDiff, Nat.reduceAdd, Nat.reduceMul, Nat.reduceSub, Nat.reduceBEq, ↓reduceIte, reduceCtorEq] <;> rfl) rfl (.inr ⟨rfl, by simp only [push_cast, Nat.reduceEqDiff, Nat.reduceLT, Nat.reduceLeDiff, Nat.reduceAdd, Nat.reduceMul, Nat.reduceSub, Nat.reduceBEq, ↓reduceIte, reduceCtorEq]⟩) ?_
      simp -implicitDefEqProofs (maxSteps := 2000000) only [push_cast, Nat.reduceEqDiff, Nat.reduceLT, Nat.reduceLeDiff, Nat.reduceAdd, Nat.reduceMul, Nat.reduceSub, Nat.reduceBEq, ↓reduceIte, reduceCtorEq]
      rw [spoilL, if_pos hs]
      refine Close.of [some 0, some 2] rfl rfl rfl (by simp only [push_cast, Nat.reduceEqDiff, Nat.reduceLT, Nat.reduceLeDiff, Nat.reduceAdd, Nat.reduceMul, Nat.reduceSub, Nat.reduceBEq, ↓reduceIte, reduceCtorEq] <;> rfl) (by simp only [push_cast, Nat.reduceEqDiff, Nat.reduceLT, Nat.reduceLeDiff, Nat.reduceAdd, Nat.reduceMul, Nat.reduceSub, Nat.reduceBEq, ↓reduceIte, reduceCtorEq] <;> rfl)
    · refine Callx.hand [0, 1] (l4SpoilIn b _ _ hb hpd (by simpa using hs)) (by decide) (by simp only [push_cast, Nat.reduceEqDiff, Nat.reduceLT, Nat.reduceLeDiff, Nat.reduceAdd, Nat.reduceMul, Nat.reduceSub, Nat.reduceBEq, ↓reduceIte, reduceCtorEq]) rfl rfl (by simp only [push_cast, Nat.reduceEqDiff, Nat.reduceLT, Nat.reduceLeDiff, Nat.reduceAdd, Nat.reduceMul, Nat.reduceSub, Nat.reduceBEq, ↓reduceIte, reduceCtorEq] <;> rfl) rfl (.inr ⟨rfl, by simp only [push_cast, Nat.reduceEqDiff, Nat.reduceLT, Nat.reduceLeDiff, Nat.reduceAdd, Nat.reduceMul, Nat.reduceSub, Nat.reduceBEq, ↓reduceIte, reduceCtorEq]⟩) ?_
      simp -implicitDefEqProofs (maxSteps := 2000000) only [push_cast, Nat.reduceEqDiff, Nat.reduceLT, Nat.reduceLeDiff, Nat.reduceAdd, Nat.reduceMul, Nat.reduceSub, Nat.reduceBEq, ↓reduceIte, reduceCtorEq]
      rw [spoilL, if_neg hs]
      refine Close.of [some 0, some 1] rfl rfl rfl (by simp only [push_cast, Nat.reduceEqDiff, Nat.reduceLT, Nat.reduceLeDiff, Nat.reduceAdd, Nat.reduceMul, Nat.reduceSub, Nat.reduceBEq, ↓reduceIte, reduceCtorEq] <;> rfl) (by simp only [push_cast, Nat.reduceEqDiff, Nat.reduceLT, Nat.reduceLeDiff, Nat.reduceAdd, Nat.reduceMul, Nat.reduceSub, Nat.reduceBEq, ↓reduceIte, reduceCtorEq] <;> rfl)
  · have ha : anyL b p = drawL b (np b p) := if_neg (by omega)
    rw [ha]
    refine Close.of [some 0, some 1] rfl rfl rfl (by simp only [push_cast, Nat.reduceEqDiff, Nat.reduceLT, Nat.reduceLeDiff, Nat.reduceAdd, Nat.reduceMul, Nat.reduceSub, Nat.reduceBEq, ↓reduceIte, reduceCtorEq] <;> rfl) (by simp only [push_cast, Nat.reduceEqDiff, Nat.reduceLT, Nat.reduceLeDiff, Nat.reduceAdd, Nat.reduceMul, Nat.reduceSub, Nat.reduceBEq, ↓reduceIte, reduceCtorEq] <;> rfl)

/-- an entry, now and then without Id -/
def dropId (b : List UInt8) (q : Nat) : Entry := if nx b (np b q) % 3 = 2 then ⟨(slotAt (nx b q)).typ, (slotAt (nx b q)).key, []⟩ else slotAt (nx b q)
def pairTo (b : List UInt8) (p : Nat) (l : List Entry) : Nat → List Entry × Nat
  | 0 => (l, p)
  | i + 1 => (setL (pairTo b p l i).1 (dropId b (pairTo b p l i).2) false, np b (np b (pairTo b p l i).2))
def pair0 (b : List UInt8) (p : Nat) : List Entry × Nat := if nx b p % 4 = 3 then drawL b (anyL b (np b p)).2 else anyL b (np b p)
/-- two lists that are drawn, and the place behind them -/
def pairA (b : List UInt8) (p : Nat) : List Entry := (anyL b (np b p)).1
def pairB (b : List UInt8) (p : Nat) : List Entry × Nat := pairTo b (pair0 b p).2 (pair0 b p).1 (nx b p / 4 % 4)
theorem pairTo_p {b : List UInt8} {p : Nat} {l : List Entry} (hp : p ≤ b.length) : ∀ {i : Nat}, (pairTo b p l i).2 ≤ b.length
  | 0 => hp
  | i + 1 => np_le (np_le (pairTo_p hp))
theorem pair0_p {b : List UInt8} {p : Nat} (hp : p ≤ b.length) : (pair0 b p).2 ≤ b.length := by
  unfold pair0
  split
  · exact drawL_p (anyL_p (np_le hp))
  · exact anyL_p (np_le hp)
theorem pair0_len {b : List UInt8} {p : Nat} : (pair0 b p).1.length ≤ 7 := by
  unfold pair0
  split
  · have := drawL_len (b := b) (p := (anyL b (np b p)).2); omega
  · exact anyL_len
theorem pairTo_len {b : List UInt8} {p : Nat} {l : List Entry} (hl : l.length ≤ 7) : ∀ {i : Nat}, (pairTo b p l i).1.length + 1 ≤ 8 * 2 ^ i
  | 0 => by simp [pairTo]; omega
  | i + 1 => by
    have h1 := setL_len (s := (pairTo b p l i).1) (e := dropId b (pairTo b p l i).2) (keep := false)
    have h2 := pairTo_len hl (b := b) (p := p) (i := i)
    rw [Nat.pow_succ]
    show (setL _ _ _).length + 1 ≤ _
    omega
theorem l4Pair (b : List UInt8) (p : Nat) (hB : Bd.B ≤ 2147483648) (hb : b.length ≤ 1000) (hp : p ≤ b.length) : ConM P0 62 [.rf 0 0] [rdO b p] (.tp [.sr 1, .sr 2]) [rdO b (pairB b p).2, enO (pairA b p), enO (pairB b p).1] := by
  refine ConM.intro (fn := Try.f62) [.tmp 2, .tmp 3] (fun i => if i = 1000006 then (999999, []) else (0, [])) mixed (by kernel_rfl) rfl (by decide) rfl (by rfl) (by kernel_rfl) ?_
  simp -implicitDefEqProofs (maxSteps := 2000000) only [push_cast, Nat.reduceEqDiff, Nat.reduceLT, Nat.reduceLeDiff, Nat.reduceAdd, Nat.reduceMul, Nat.reduceSub, Nat.reduceBEq, ↓reduceIte, reduceCtorEq]
  have := Bd.lo
  have hla := anyL_len (b := b) (p := np b p)
  have hpa := anyL_p (np_le hp) (b := b)
  have hk := nx_lt (b := b) (p := p)
  refine Callx.hand [0] (rdNext b p hb hp) (by decide) (by simp only [push_cast, Nat.reduceEqDiff, Nat.reduceLT, Nat.reduceLeDiff, Nat.reduceAdd, Nat.reduceMul, Nat.reduceSub, Nat.reduceBEq, ↓reduceIte, reduceCtorEq]) rfl rfl (by simp only [push_cast, Nat.reduceEqDiff, Nat.reduceLT, Nat.reduceLeDiff, Nat.reduceAdd, Nat.reduceMul, Nat.reduceSub, Nat.reduceBEq, ↓reduceIte, reduceCtorEq] <;> rfl) rfl (.inr ⟨rfl, by simp only [push_cast, Nat.reduceEqDiff, Nat.reduceLT, Nat.reduceLeDiff, Nat.reduceAdd, Nat.reduceMul, Nat.reduceSub, Nat.reduceBEq, ↓reduceIte, reduceCtorEq]⟩) ?_
  simp -implicitDefEqProofs (maxSteps := 2000000) only [push_cast, Nat.reduceEqDiff, Nat.reduceLT, Nat.reduceLeDiff, Nat.reduceAdd, Nat.reduceMul, Nat.reduceSub, Nat.reduceBEq, ↓reduceIte, reduceCtorEq]
  refine Callx.hand [0] (l4DrawAny b (np b p) hB hb (np_le hp)) (by decide) (by simp only [push_cast, Nat.reduceEqDiff, Nat.reduceLT, Nat.reduceLeDiff, Nat.reduceAdd, Nat.reduceMul, Nat.reduceSub, Nat.reduceBEq, ↓reduceIte, reduceCtorEq]) rfl rfl (by simp only [push_cast, Nat.reduceEqDiff, Nat.reduceLT, Nat.reduceLeDiff, Nat.reduceAdd, Nat.reduceMul, Nat.reduceSub, Nat.reduceBEq, ↓reduceIte, reduceCtorEq] <;> rfl) rfl (.inr ⟨rfl, by simp only [push_cast, Nat.reduceEqDiff, Nat.reduceLT, Nat.reduceLeDiff, Nat.reduceAdd, Nat.reduceMul, Nat.reduceSub, Nat.reduceBEq, ↓reduceIte, reduceCtorEq]⟩) ?_
  simp -implicitDefEqProofs (maxSteps := 2000000) only [push_cast, Nat.reduceEqDiff, Nat.reduceLT, Nat.reduceLeDiff, Nat.reduceAdd, Nat.reduceMul, Nat.reduceSub, Nat.reduceBEq, ↓reduceIte, reduceCtorEq]
  refine Callx.closed (l4Copy (anyL b (np b p)).1 hB (by omega)) rfl rfl (.inr ⟨rfl, rfl⟩) ?_
  simp -implicitDefEqProofs (maxSteps := 2000000) only [push_cast, Nat.reduceEqDiff, Nat.reduceLT, Nat.reduceLeDiff, Nat.reduceAdd, Nat.reduceMul, Nat.reduceSub, Nat.reduceBEq, ↓reduceIte, reduceCtorEq]
  refine W.join (ι := Unit) (D := (fun _ => (0, []))) (fun _ => True) (fun _ => ⟨39, [(0, .rf 0 0), (4, .t (.i .i64 (nx b p))), (5, .sr 1), (6, .sr 2)], [rdO b (pair0 b p).2, enO (pairA b p), enO (pair0 b p).1]⟩) mixed (by kernel_rfl) ?_ (fun _ _ => ?_)
  · simp -implicitDefEqProofs (maxSteps := 2000000) only [push_cast, Nat.reduceEqDiff, Nat.reduceLT, Nat.reduceLeDiff, Nat.reduceAdd, Nat.reduceMul, Nat.reduceSub, Nat.reduceBEq, ↓reduceIte, reduceCtorEq]
    refine ⟨by omega, by omega, iteI (fun h => ?_) (fun h => ?_)⟩
    · have h0 : pair0 b p = drawL b (anyL b (np b p)).2 := if_pos (by omega)
      rw [h0, pairA]
      refine Callx.hand [0] (l4Draw b _ hB hb hpa) (by decide) (by simp only [push_cast, Nat.reduceEqDiff, Nat.reduceLT, Nat.reduceLeDiff, Nat.reduceAdd, Nat.reduceMul, Nat.reduceSub, Nat.reduceBEq, ↓reduceIte, reduceCtorEq]) rfl rfl (by simp only [push_cast, Nat.reduceEqDiff, Nat.reduceLT, Nat.reduceLeDiff, Nat.reduceAdd, Nat.reduceMul, Nat.reduceSub, Nat.reduceBEq, ↓reduceIte, reduceCtorEq] <;> rfl) rfl (.inr ⟨rfl, by simp only [push_cast, Nat.reduceEqDiff, Nat.reduceLT, Nat.reduceLeDiff, Nat.reduceAdd, Nat.reduceMul, Nat.reduceSub, Nat.reduceBEq, ↓reduceIte, reduceCtorEq]⟩) ?_
      simp -implicitDefEqProofs (maxSteps := 2000000) only [push_cast, Nat.reduceEqDiff, Nat.reduceLT, Nat.reduceLeDiff, Nat.reduceAdd, Nat.reduceMul, Nat.reduceSub, Nat.reduceBEq, ↓reduceIte, reduceCtorEq]
      refine ⟨(), Keep.wk (ids := [some 0, some 1, some 3]) ?_⟩
      simp only [push_cast, Nat.reduceEqDiff, Nat.reduceLT, Nat.reduceLeDiff, Nat.reduceAdd, Nat.reduceMul, Nat.reduceSub, Nat.reduceBEq, ↓reduceIte, reduceCtorEq] <;> rfl
    · have h0 : pair0 b p = anyL b (np b p) := if_neg (by omega)
      rw [h0, pairA]
      refine ⟨(), Keep.wk (ids := [some 0, some 1, some 2]) ?_⟩
      simp only [push_cast, Nat.reduceEqDiff, Nat.reduceLT, Nat.reduceLeDiff, Nat.reduceAdd, Nat.reduceMul, Nat.reduceSub, Nat.reduceBEq, ↓reduceIte, reduceCtorEq] <;> rfl
  simp -implicitDefEqProofs (maxSteps := 2000000) only [push_cast, Nat.reduceEqDiff, Nat.reduceLT, Nat.reduceLeDiff, Nat.reduceAdd, Nat.reduceMul, Nat.reduceSub, Nat.reduceBEq, ↓reduceIte, reduceCtorEq]
  generalize hn : nx b p / 4 % 4 = n at *
  have hp0 := pair0_p hp (b := b)
  have hl0 := pair0_len (b := b) (p := p)
  have e4 : (nx b p : Int) / 4 % 4 = (n : Int) := by omega
  have hB' : pairB b p = pairTo b (pair0 b p).2 (pair0 b p).1 n := by rw [pairB, hn]
  rw [hB']
  refine WL.loop (ι := Nat) (D := (fun _ => (0, []))) (fun i => i ≤ n) (fun i => ⟨39, [(0, .rf 0 0), (4, .t (.i .i64 (nx b p))), (5, .sr 1), (6, .sr 2), (7, .t (.i .i64 i))], [rdO b (pairTo b (pair0 b p).2 (pair0 b p).1 i).2, enO (pairA b p), enO (pairTo b (pair0 b p).2 (pair0 b p).1 i).1]⟩) (fun i => n - i) mixed (by kernel_rfl) 0 (by omega) (Keep.wk (ids := [some 0, some 1, some 2]) ?_) ?_
  · simp only [push_cast, Nat.reduceEqDiff, Nat.reduceLT, Nat.reduceLeDiff, Nat.reduceAdd, Nat.reduceMul, Nat.reduceSub, Nat.reduceBEq, ↓reduceIte, reduceCtorEq, pairTo] <;> trivial
  intro i hi
  have hpi := pairTo_p (l := (pair0 b p).1) hp0 (i := i)
  have hli := pairTo_len (b := b) (p := (pair0 b p).2) hl0 (i := i)
  have hst : pairTo b (pair0 b p).2 (pair0 b p).1 (i + 1) = (setL (pairTo b (pair0 b p).2 (pair0 b p).1 i).1 (dropId b (pairTo b (pair0 b p).2 (pair0 b p).1 i).2) false, np b (np b (pairTo b (pair0 b p).2 (pair0 b p).1 i).2)) := rfl
  obtain ⟨⟨l, q⟩, hq⟩ : ∃ x, pairTo b (pair0 b p).2 (pair0 b p).1 i = x := ⟨_, rfl⟩
  rw [hq] at hpi hli hst ⊢
  have h2i : 2 ^ i ≤ 2 ^ 3 := Nat.pow_le_pow_right (by omega) (by omega)
  dsimp only at hpi hli hst ⊢
  simp -implicitDefEqProofs (maxSteps := 2000000) only [push_cast, Nat.reduceEqDiff, Nat.reduceLT, Nat.reduceLeDiff, Nat.reduceAdd, Nat.reduceMul, Nat.reduceSub, Nat.reduceBEq, ↓reduceIte, reduceCtorEq, eEntry]
  refine ⟨by omega, by omega, by unfold inI64; omega, by omega, by omega, ?_⟩
  rw [e4]
  split
  · rename_i h
    refine Callx.hand [0] (l4Slot b q hb hpi) (by decide) (by simp only [push_cast, Nat.reduceEqDiff, Nat.reduceLT, Nat.reduceLeDiff, Nat.reduceAdd, Nat.reduceMul, Nat.reduceSub, Nat.reduceBEq, ↓reduceIte, reduceCtorEq]) rfl rfl (by simp only [push_cast, Nat.reduceEqDiff, Nat.reduceLT, Nat.reduceLeDiff, Nat.reduceAdd, Nat.reduceMul, Nat.reduceSub, Nat.reduceBEq, ↓reduceIte, reduceCtorEq] <;> rfl) rfl (.inr ⟨rfl, by simp only [push_cast, Nat.reduceEqDiff, Nat.reduceLT, Nat.reduceLeDiff, Nat.reduceAdd, Nat.reduceMul, Nat.reduceSub, Nat.reduceBEq, ↓reduceIte, reduceCtorEq]⟩) ?_
    simp -implicitDefEqProofs (maxSteps := 2000000) only [push_cast, Nat.reduceEqDiff, Nat.reduceLT, Nat.reduceLeDiff, Nat.reduceAdd, Nat.reduceMul, Nat.reduceSub, Nat.reduceBEq, ↓reduceIte, reduceCtorEq, eEntry]
    refine Callx.hand [0] (rdNext b (np b q) hb (np_le hpi)) (by decide) (by simp only [push_cast, Nat.reduceEqDiff, Nat.reduceLT, Nat.reduceLeDiff, Nat.reduceAdd, Nat.reduceMul, Nat.reduceSub, Nat.reduceBEq, ↓reduceIte, reduceCtorEq]) rfl rfl (by simp only [push_cast, Nat.reduceEqDiff, Nat.reduceLT, Nat.reduceLeDiff, Nat.reduceAdd, Nat.reduceMul, Nat.reduceSub, Nat.reduceBEq, ↓reduceIte, reduceCtorEq] <;> rfl) rfl (.inr ⟨rfl, by simp only [push_cast, Nat.reduceEqDiff, Nat.reduceLT, Nat.reduceLeDiff, Nat.reduceAdd, Nat.reduceMul, Nat.reduceSub, Nat.reduceBEq, ↓reduceIte, reduceCtorEq]⟩) ?_
    simp -implicitDefEqProofs (maxSteps := 2000000) only [push_cast, Nat.reduceEqDiff, Nat.reduceLT, Nat.reduceLeDiff, Nat.reduceAdd, Nat.reduceMul, Nat.reduceSub, Nat.reduceBEq, ↓reduceIte, reduceCtorEq, eEntry]
    refine ⟨by omega, by omega, iteI (fun h3 => ?_) (fun h3 => ?_)⟩
    · have hd : dropId b q = ⟨(slotAt (nx b q)).typ, (slotAt (nx b q)).key, []⟩ := if_pos (by omega)
      rw [hd] at hst
      refine Callx.closed (l4Set l ⟨(slotAt (nx b q)).typ, (slotAt (nx b q)).key, []⟩ false hB (by omega)) rfl rfl (.inr ⟨rfl, rfl⟩) ?_
      simp -implicitDefEqProofs (maxSteps := 2000000) only [push_cast, Nat.reduceEqDiff, Nat.reduceLT, Nat.reduceLeDiff, Nat.reduceAdd, Nat.reduceMul, Nat.reduceSub, Nat.reduceBEq, ↓reduceIte, reduceCtorEq]
      refine ⟨by unfold inI64; omega, i + 1, by omega, by omega, Keep.wk (ids := [some 0, some 1, some 4]) ?_⟩
      simp only [push_cast, Nat.reduceEqDiff, Nat.reduceLT, Nat.reduceLeDiff, Nat.reduceAdd, Nat.reduceMul, Nat.reduceSub, Nat.reduceBEq, ↓reduceIte, reduceCtorEq, hst] <;> rfl
    · have hd : dropId b q = slotAt (nx b q) := if_neg (by omega)
      rw [hd] at hst
      refine Callx.closed (l4Set l (slotAt (nx b q)) false hB (by omega)) rfl rfl (.inr ⟨rfl, rfl⟩) ?_
      simp -implicitDefEqProofs (maxSteps := 2000000) only [push_cast, Nat.reduceEqDiff, Nat.reduceLT, Nat.reduceLeDiff, Nat.reduceAdd, Nat.reduceMul, Nat.reduceSub, Nat.reduceBEq, ↓reduceIte, reduceCtorEq]
      refine ⟨by unfold inI64; omega, i + 1, by omega, by omega, Keep.wk (ids := [some 0, some 1, some 4]) ?_⟩
      simp only [push_cast, Nat.reduceEqDiff, Nat.reduceLT, Nat.reduceLeDiff, Nat.reduceAdd, Nat.reduceMul, Nat.reduceSub, Nat.reduceBEq, ↓reduceIte, reduceCtorEq, hst] <;> rfl
  · have hi : i = n := by omega
    subst hi
    rw [hq]
    refine Close.of [some 0, some 1, some 2] rfl rfl rfl (by simp only [push_cast, Nat.reduceEqDiff, Nat.reduceLT, Nat.reduceLeDiff, Nat.reduceAdd, Nat.reduceMul, Nat.reduceSub, Nat.reduceBEq, ↓reduceIte, reduceCtorEq] <;> rfl) (by simp only [push_cast, Nat.reduceEqDiff, Nat.reduceLT, Nat.reduceLeDiff, Nat.reduceAdd, Nat.reduceMul, Nat.reduceSub, Nat.reduceBEq, ↓reduceIte, reduceCtorEq] <;> rfl)
theorem drawDelta (c : List UInt8) (hB : Bd.B ≤ 2147483648) : Con P0 9 [.sl (c.map eU8)] (.tp [.sr 0, .sr 1]) [enO (pairA (c.take 1000) 0), enO (pairB (c.take 1000) 0).1] := by
  refine Con.intro (fn := Try.f9) [.tmp 2, .tmp 3] (fun _ => (0, [])) mixed (by kernel_rfl) rfl (by decide) rfl (by rfl) (by kernel_rfl) ?_
  simp -implicitDefEqProofs (maxSteps := 2000000) only [push_cast, Nat.reduceEqDiff, Nat.reduceLT, Nat.reduceLeDiff, Nat.reduceAdd, Nat.reduceMul, Nat.reduceSub, Nat.reduceBEq, ↓reduceIte, reduceCtorEq]
  refine Callx.closed (l1Open c) rfl rfl (.inl rfl) ?_
  simp -implicitDefEqProofs (maxSteps := 2000000) only [push_cast, Nat.reduceEqDiff, Nat.reduceLT, Nat.reduceLeDiff, Nat.reduceAdd, Nat.reduceMul, Nat.reduceSub, Nat.reduceBEq, ↓reduceIte, reduceCtorEq]
  refine Callx.hand [0] (l4Pair (c.take 1000) 0 hB (by rw [List.length_take]; omega) (by omega)) (by decide) (by simp only [push_cast, Nat.reduceEqDiff, Nat.reduceLT, Nat.reduceLeDiff, Nat.reduceAdd, Nat.reduceMul, Nat.reduceSub, Nat.reduceBEq, ↓reduceIte, reduceCtorEq]) rfl rfl (by simp only [push_cast, Nat.reduceEqDiff, Nat.reduceLT, Nat.reduceLeDiff, Nat.reduceAdd, Nat.reduceMul, Nat.reduceSub, Nat.reduceBEq, ↓reduceIte, reduceCtorEq] <;> rfl) rfl (.inr ⟨rfl, by simp only [push_cast, Nat.reduceEqDiff, Nat.reduceLT, Nat.reduceLeDiff, Nat.reduceAdd, Nat.reduceMul, Nat.reduceSub, Nat.reduceBEq, ↓reduceIte, reduceCtorEq]⟩) ?_
  simp -implicitDefEqProofs (maxSteps := 2000000) only [push_cast, Nat.reduceEqDiff, Nat.reduceLT, Nat.reduceLeDiff, Nat.reduceAdd, Nat.reduceMul, Nat.reduceSub, Nat.reduceBEq, ↓reduceIte, reduceCtorEq]
  refine Close.of [some 1, some 2] rfl rfl rfl (by simp only [push_cast, Nat.reduceEqDiff, Nat.reduceLT, Nat.reduceLeDiff, Nat.reduceAdd, Nat.reduceMul, Nat.reduceSub, Nat.reduceBEq, ↓reduceIte, reduceCtorEq] <;> rfl) (by simp only [push_cast, Nat.reduceEqDiff, Nat.reduceLT, Nat.reduceLeDiff, Nat.reduceAdd, Nat.reduceMul, Nat.reduceSub, Nat.reduceBEq, ↓reduceIte, reduceCtorEq] <;> rfl)
theorem pairA_len {b : List UInt8} {p : Nat} : (pairA b p).length ≤ 7 := anyL_len
theorem pairB_len {b : List UInt8} {p : Nat} : (pairB b p).1.length ≤ 63 := by
  have h1 := pairTo_len (b := b) (p := (pair0 b p).2) (l := (pair0 b p).1) pair0_len (i := nx b p / 4 % 4)
  have h2 : 2 ^ (nx b p / 4 % 4) ≤ 2 ^ 3 := Nat.pow_le_pow_right (by omega) (by omega)
  unfold pairB
  omega
end Go.Proofs.Ythhgcklidfilfaa.BX
