/- FnExactSplit: the call answers true at every argument, and the arguments read as they did; it has no conditions. -/
import Derived.Test.YtmgdkkhnjkepiaaQ6
import Derived.Test.YtmgdkkhnjkepiaaRows
import Derived.WalkKit
import Derived.ProofKit
import Derived.OpenShut
namespace Go.Proofs.Ytmgdkkhnjkepiaa.fnExactSplit
open Go.ChangeShapes Go.WideShapes Go.ChangeAt Go.RowKit BX
set_option linter.unusedSectionVars false
set_option linter.unusedSimpArgs false
set_option linter.unusedVariables false

theorem own : ownKnob Try.prog.godebug = none := by kernel_rfl
theorem laidOut : laidOutB Try.prog = true := by kernel_rfl

theorem reads107 : Reads P0 107 eEntry :=
  Reads.map (Reads.struct (N := 3) (fs := [(9, 0), (9, 1), (9, 2)]) (by kernel_rfl) (by simp) (by kernel_rfl) (ReadsF.cons 1 (by kernel_rfl) (Reads.str (by kernel_rfl)) (ReadsF.cons 1 (by kernel_rfl) (Reads.str (by kernel_rfl)) (ReadsF.cons 1 (by kernel_rfl) (Reads.str (by kernel_rfl)) ReadsF.nil)))) fun (x0, x1, x2, _) => ⟨⟨x0, x1, x2⟩, rfl⟩

theorem walk {W : World} (a0 : List (List BX.Entry)) {vs : List Value} {L : List Nat} (h : SeesL W [(T.sl (a0.map (fun xs : List BX.Entry => T.sl (xs.map eEntry))))] vs L) :
    Calls Try.prog 4 vs.toArray W fun e W' => e = .returned (.bool true) ∧ Below W.heap.size W W' := by
  by_cases hw : mxs [(T.sl (a0.map (fun xs : List BX.Entry => T.sl (xs.map eEntry))))] ≤ 1048576
  · exact @Con.below small _ _ _ (@lawSplit small a0 (fun h => h) fun _ => Nat.le_refl _) _ _ _ (h.2.2.1 small (by show _ < 2147483648; omega)) h.2.2.2
  · exact @Con.below big _ _ _ (@lawSplit big a0 (fun h => h) fun h => absurd h hw) _ _ _ (h.2.2.1 big h.1) h.2.2.2

set_option maxRecDepth 100000 in
theorem lifted (os : Os) (started : os.Started) (H : Type) (enc : TypeId × Value → H) :
    ReturnsInHanded {} Try.checked os 4 .any (Rows.fnExactSplitSpec.pre6 enc Try.prog Try.f4 Rows.fnExactSplitRow.domain false) (Rows.fnExactSplitSpec.post enc Try.prog Try.f4 false true false false) := by
  refine returnsInHanded_of_change (C := Try.checked) own started (by kernel_rfl) Try.func4
    (ChangeSpec.witness6 (enc := enc) (C := Try.checked) false ⟨#[], #[.slice none 0 0], []⟩ 8 (by kernel_rfl) (by kernel_rfl) (by kernel_rfl) (by kernel_rfl)) ?_
  intro W base args ds gs before hval0 hW hcnd _
  have hval : ∀ (j : Nat) t v, Try.f4.params[j]? = some t → args[j]? = some v → Value.okWide Try.prog W .any base t v := hval0
  have hW' := hW
  obtain ⟨p, q, hA0, hV, rfl, hfz, hnd⟩ := hW
  have hA : DataW.TrodAll enc Try.prog W 0 (fun _ => true) true Try.f4.params.toList args.toList ds p := hA0
  rw [Try.params4] at hA hval
  obtain ⟨v0, vs0, d0, ds0, p0, q0, hargs, rfl, rfl, h0, r0⟩ := trodAll_cons hA
  obtain ⟨rfl, rfl, rfl⟩ := trodAll_nil r0
  obtain rfl : args = #[v0] := by cases args; simp_all
  obtain ⟨a0, L0, s0⟩ := (ArrT.slice (e := 83) (h := (fun xs : List BX.Entry => T.sl (xs.map eEntry))) (by kernel_rfl) (Reads.slice (e := 83) (h := (fun xs : List BX.Entry => T.sl (xs.map eEntry))) (by kernel_rfl) (of_decide_eq_true (by kernel_rfl)) (Reads.slice (e := 107) (h := eEntry) (by kernel_rfl) (of_decide_eq_true (by kernel_rfl)) reads107)) : ArrT P0 40 (fun xs : List (List BX.Entry) => T.sl (xs.map (fun xs : List BX.Entry => T.sl (xs.map eEntry))))) (hval 0 40 v0 rfl rfl) h0
  refine (walk a0 (SeesL.cons s0 (SeesL.nil W))).mono fun e W' ⟨he, hg⟩ => ?_
  subst he
  exact ⟨_, rfl, post_of_below (tb := 4) hW' rfl hg laidOut (by kernel_rfl) rfl (by kernel_rfl) fun ds hgs hl => by
    subst hgs
    match ds, hl with
    | [_], _ => exact ⟨rfl, rfl, rfl⟩⟩

theorem over : Rows.fnExactSplitRow.holds Try.pinned (OpenSpec.ofChange Rows.fnExactSplitSpec) :=
  OpenClaim.holds_of_wide 4 Try.f4 rfl rfl rfl rfl rfl rfl rfl ⟨rfl, rfl, rfl, rfl, rfl⟩ rfl rfl rfl rfl rfl (by kernel_rfl) Try.func4 (by kernel_rfl)
    (of_decide_eq_true (by kernel_rfl)) (by unfold Func.isWrapper; first | (rw [if_pos (by decide +kernel)]; kernel_rfl) | (rw [if_neg (by decide +kernel)]; exact ⟨rfl, rfl⟩))
    (fun os started H enc _ => lifted os started H enc)

/-- THE STATEMENT -/
theorem proved : Rows.FnExactSplitSaid :=
  over
#print axioms proved
end Go.Proofs.Ytmgdkkhnjkepiaa.fnExactSplit
