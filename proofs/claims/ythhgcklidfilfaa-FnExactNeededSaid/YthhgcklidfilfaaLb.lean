/-
  What the library's functions on texts answer, read in the frame.
-/
import Derived.Test.YthhgcklidfilfaaUt
import Derived.WalkKit
import Derived.ProofKit
import Derived.Laws.Externs
import Derived.Laws.Runes
namespace Go.Proofs.Ythhgcklidfilfaa.BX
set_option linter.unusedSectionVars false
set_option linter.unusedSimpArgs false
set_option linter.unusedVariables false
open Go Go.RowKit
set_option maxRecDepth 20000
variable [Bd]

theorem foots_of {w : World} : ∀ {ts : List T} {vs : List Value}, vs.length = ts.length → (∀ (i : Nat) (x : T) (v : Value), ts[i]? = some x → vs[i]? = some v → ∃ L, footT w x v L) → ∃ L, footTs w ts vs L
  | [], [], _, _ => ⟨[], by simp [footTs]⟩
  | [], _ :: _, h, _ => by simp at h
  | _ :: _, [], h, _ => by simp at h
  | x :: ts, v :: vs, hl, h => by
    obtain ⟨L1, h1⟩ := h 0 x v rfl rfl
    obtain ⟨L2, h2⟩ := foots_of (ts := ts) (vs := vs) (by simpa using hl) fun i x v hx hv => h (i + 1) x v (by simpa using hx) (by simpa using hv)
    exact ⟨L1 ++ L2, by simp only [footTs]; exact ⟨v, vs, L1, L2, rfl, rfl, h1, h2⟩⟩
/-- a contract out of the kit's: a closed value without memory is yielded, and what was there stays -/
theorem Con.plain {P : Program} {f : FuncId} {ts : List T} {r : T} (hb : hasBody P f) (h : ∀ (w : World) (vs : List Value) (L : List Nat), footTs w ts vs L → Calls P f vs.toArray w fun e w' => ∃ v, e = .returned v ∧ footT w' r v [] ∧ Grew w w') : Con P f ts (.t r) [] := by
  refine ⟨hb, fun w L M vs hv S F hr => ?_⟩
  have hlen : vs.length = ts.length := by simpa using hr.size
  obtain ⟨La, ha⟩ := foots_of (w := w) hlen fun i x v hx hv' => by
    obtain ⟨L', h', _⟩ := hr.tm i
    have e1 : getL (numA 0 (ts.map AV.t)) i = .t x := by
      rw [numA_get, if_pos (Nat.zero_le _), Nat.sub_zero, List.getElem?_map, hx]; rfl
    have e2 : vs.toArray.getD i undef = v := by
      simp [Array.getD_eq_getD_getElem?, hv']
    have h'' : footA hv w (getL (numA 0 (ts.map AV.t)) i) (vs.toArray.getD i undef) L' := h'
    rw [e1, e2] at h''
    exact ⟨L', by simpa only [footA] using h''⟩
  refine (h w vs La ha).mono fun e w' ⟨v, he, hf, hg⟩ => ?_
  exact ⟨v, _, _, _, [], he, (hr.grow hg).no_tmp, by simpa only [footA] using hf, by simp, by simp [AV.under]⟩

/-- where a byte first stands -/
def idxOf (c : UInt8) (xs : List UInt8) : Int := firstIdx ⟨xs.toArray⟩ c
theorem idxOf_nn {c : UInt8} {xs : List UInt8} : decide (0 ≤ idxOf c xs) = xs.any (· == c) := by
  unfold idxOf; rw [firstIdx_nonneg]
theorem idx_calls (c : UInt8) (s : ByteArray) (w : World) : Calls P0 204 #[.string s, .int .u8 c.toNat] w fun e w' => e = .returned (.int .i64 (firstIdx s c)) ∧ w' = w := by
  have h := run_indexByte_string (P := P0) s c.toNat
  go_enter Try.func204, Try.ntmps204
  go_wp2
  rw [run_callFunc_extern Try.func222 (by kernel_rfl) (by kernel_rfl) (by kernel_rfl) (e := Extern.BytealgIndexByte.indexByte) (by kernel_rfl), h]
  simp only [Result.andThen]
  rw [Oper.upon_value]
  go_wp2
  go_ret
  simp
theorem indexByteL (c : UInt8) (xs : List UInt8) : Con P0 204 [.s xs, .i .u8 c.toNat] (.t (.i .i64 (idxOf c xs))) [] := by
  refine Con.plain ⟨_, Try.func204, rfl, rfl⟩ fun w vs L hf => ?_
  simp only [footTs, footT] at hf
  obtain ⟨v1, vs1, L1, L2, rfl, _, ⟨rfl, _, _⟩, v2, vs2, L3, L4, rfl, _, ⟨rfl, _⟩, rfl, _⟩ := hf
  refine (idx_calls c ⟨xs.toArray⟩ w).mono fun e w' ⟨he, hw⟩ => ?_
  subst hw
  exact ⟨_, he, by simp only [footT]; exact ⟨rfl, trivial⟩, Grew.refl _⟩
theorem indexByte (c : UInt8) (xs : List UInt8) : Con P0 182 [.s xs, .i .u8 c.toNat] (.t (.i .i64 (idxOf c xs))) [] := by
  refine Con.intro (fn := Try.f182) [.tmp 4] (fun _ => (0, [])) mixed (by kernel_rfl) rfl (by decide) rfl (by rfl) (by kernel_rfl) ?_
  simp -implicitDefEqProofs (maxSteps := 2000000) only [push_cast, Nat.reduceEqDiff, Nat.reduceLT, Nat.reduceLeDiff, Nat.reduceAdd, Nat.reduceMul, Nat.reduceSub, Nat.reduceBEq, ↓reduceIte, reduceCtorEq]
  refine Callx.closed (indexByteL c xs) rfl rfl (.inl rfl) ?_
  simp -implicitDefEqProofs (maxSteps := 2000000) only [push_cast, Nat.reduceEqDiff, Nat.reduceLT, Nat.reduceLeDiff, Nat.reduceAdd, Nat.reduceMul, Nat.reduceSub, Nat.reduceBEq, ↓reduceIte, reduceCtorEq]

end Go.Proofs.Ythhgcklidfilfaa.BX
