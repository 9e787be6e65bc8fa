/- FnInsert: the call answers true at every argument, and the arguments read as they did; it has no conditions. -/
import Derived.Test.YtmgdkkhnjkepiaaGreatQ9
import Derived.Test.YtmgdkkhnjkepiaaGreatRows
import Derived.WalkKit
import Derived.ProofKit
import Derived.OpenShut
namespace Go.Proofs.YtmgdkkhnjkepiaaGreat.fnInsert
open Go.ChangeShapes Go.WideShapes Go.ChangeAt Go.RowKit BX
set_option linter.unusedSectionVars false
set_option linter.unusedSimpArgs false
set_option linter.unusedVariables false

theorem own : ownKnob Tryz.prog.godebug = none := by kernel_rfl
theorem laidOut : laidOutB Tryz.prog = true := by kernel_rfl



theorem walk {W : World} (a0 : List UInt8) {vs : List Value} {L : List Nat} (h : SeesL W [(T.sl (a0.map eU8))] vs L) :
    Calls Tryz.prog 6 vs.toArray W fun e W' => e = .returned (.bool true) ∧ Below W.heap.size W W' := by
  by_cases hw : mxs [(T.sl (a0.map eU8))] ≤ 1048576
  · exact @Con.below small _ _ _ (@lawFnInsert small a0 fun _ => Nat.le_refl _) _ _ _ (h.2.2.1 small (by show _ < 2147483648; omega)) h.2.2.2
  · exact @Con.below big _ _ _ (@lawFnInsert big a0 fun h => absurd h hw) _ _ _ (h.2.2.1 big h.1) h.2.2.2

set_option maxRecDepth 100000 in
theorem lifted (os : Os) (started : os.Started) (H : Type) (enc : TypeId × Value → H) :
    ReturnsInHanded {} Tryz.checked os 6 .any (Rows.fnInsertSpec.pre6 enc Tryz.prog Tryz.f6 Rows.fnInsertRow.domain false) (Rows.fnInsertSpec.post enc Tryz.prog Tryz.f6 false true false false) := by
  refine returnsInHanded_of_change (C := Tryz.checked) own started (by kernel_rfl) Tryz.func6
    (ChangeSpec.witness6 (enc := enc) (C := Tryz.checked) false ⟨#[], #[.slice none 0 0], []⟩ 8 (by kernel_rfl) (by kernel_rfl) (by kernel_rfl) (by kernel_rfl)) ?_
  intro W base args ds gs before hval0 hW hcnd _
  have hval : ∀ (j : Nat) t v, Tryz.f6.params[j]? = some t → args[j]? = some v → Value.okWide Tryz.prog W .any base t v := hval0
  have hW' := hW
  obtain ⟨p, q, hA0, hV, rfl, hfz, hnd⟩ := hW
  have hA : DataW.TrodAll enc Tryz.prog W 0 (fun _ => true) true Tryz.f6.params.toList args.toList ds p := hA0
  rw [Tryz.params6] at hA hval
  obtain ⟨v0, vs0, d0, ds0, p0, q0, hargs, rfl, rfl, h0, r0⟩ := trodAll_cons hA
  obtain ⟨rfl, rfl, rfl⟩ := trodAll_nil r0
  obtain rfl : args = #[v0] := by cases args; simp_all
  obtain ⟨a0, L0, s0⟩ := (ArrT.slice (e := 5) (h := eU8) (by kernel_rfl) (Reads.slice (e := 5) (h := eU8) (by kernel_rfl) (of_decide_eq_true (by kernel_rfl)) (Reads.byte (by kernel_rfl))) : ArrT P0 55 (fun xs : List UInt8 => T.sl (xs.map eU8))) (hval 0 55 v0 rfl rfl) h0
  refine (walk a0 (SeesL.cons s0 (SeesL.nil W))).mono fun e W' ⟨he, hg⟩ => ?_
  subst he
  exact ⟨_, rfl, post_of_below (tb := 4) hW' rfl hg laidOut (by kernel_rfl) rfl (by kernel_rfl) fun ds hgs hl => by
    subst hgs
    match ds, hl with
    | [_], _ => exact ⟨rfl, rfl, rfl⟩⟩

theorem band {a b : Bool} (h : a = true) (k : b = true) : (a && b) = true := by rw [h, k]; rfl
set_option maxHeartbeats 4000000 in
theorem closed : joinedFacts Tryz.prog 6 Tryz.f6 Rows.fnInsertSpec Rows.fnInsertRow = true := by
  unfold joinedFacts
  repeat' with_reducible refine band ?_ ?_
  all_goals as_aux_lemma => kernel_rfl

theorem over : Rows.fnInsertRow.holds Tryz.pinned (OpenSpec.ofChange Rows.fnInsertSpec) :=
  OpenClaim.holds_of_wide 6 Tryz.f6 rfl rfl rfl rfl rfl rfl rfl ⟨rfl, rfl, rfl, rfl, rfl⟩ rfl rfl rfl rfl rfl (by kernel_rfl) Tryz.func6 closed
    (of_decide_eq_true (by kernel_rfl)) (by unfold Func.isWrapper; first | (rw [if_pos (by decide +kernel)]; kernel_rfl) | (rw [if_neg (by decide +kernel)]; exact ⟨rfl, rfl⟩))
    (fun os started H enc _ => lifted os started H enc)

/-- THE STATEMENT -/
theorem proved : Rows.FnInsertSaid :=
  over
#print axioms proved
end Go.Proofs.YtmgdkkhnjkepiaaGreat.fnInsert
