/- FnExactNeeded: the call answers true at every argument, and the arguments read as they did; it has no conditions. -/
import Derived.Test.YthhgcklidfilfaaRows
import Derived.Test.YthhgcklidfilfaaLa
import Derived.Test.YthhgcklidfilfaaNl
import Derived.WalkKit
import Derived.ProofKit
import Derived.OpenShut
namespace Go.Proofs.Ythhgcklidfilfaa.fnExactNeeded
open Go.ChangeShapes Go.WideShapes Go.ChangeAt Go.RowKit BX
set_option linter.unusedSectionVars false
set_option linter.unusedSimpArgs false
set_option linter.unusedVariables false

theorem own : ownKnob Try.prog.godebug = none := by kernel_rfl
theorem laidOut : laidOutB Try.prog = true := by kernel_rfl

theorem reads208 : Reads P0 208 eGrant :=
  Reads.map (Reads.struct (N := 2) (fs := [(9, 0), (3, 1)]) (by kernel_rfl) (by simp) (by kernel_rfl) (ReadsF.cons 1 (by kernel_rfl) (Reads.str (by kernel_rfl)) (ReadsF.cons 1 (by kernel_rfl) (Reads.int (k := .i64) (by kernel_rfl)) ReadsF.nil))) fun (x0, x1, _) => ⟨⟨x0, x1⟩, rfl⟩

theorem reads81 : Reads P0 81 eEvent :=
  Reads.map (Reads.struct (N := 10) (fs := [(9, 0), (9, 1), (9, 2), (4, 3), (9, 4), (3, 5), (78, 6), (78, 7), (9, 8), (79, 9)]) (by kernel_rfl) (by simp) (by kernel_rfl) (ReadsF.cons 1 (by kernel_rfl) (Reads.str (by kernel_rfl)) (ReadsF.cons 1 (by kernel_rfl) (Reads.str (by kernel_rfl)) (ReadsF.cons 1 (by kernel_rfl) (Reads.str (by kernel_rfl)) (ReadsF.cons 1 (by kernel_rfl) (Reads.bool (by kernel_rfl)) (ReadsF.cons 1 (by kernel_rfl) (Reads.str (by kernel_rfl)) (ReadsF.cons 1 (by kernel_rfl) (Reads.int (k := .i64) (by kernel_rfl)) (ReadsF.cons 1 (by kernel_rfl) (Reads.slice (e := 9) (h := T.s) (by kernel_rfl) (of_decide_eq_true (by kernel_rfl)) (Reads.str (by kernel_rfl))) (ReadsF.cons 1 (by kernel_rfl) (Reads.slice (e := 9) (h := T.s) (by kernel_rfl) (of_decide_eq_true (by kernel_rfl)) (Reads.str (by kernel_rfl))) (ReadsF.cons 1 (by kernel_rfl) (Reads.str (by kernel_rfl)) (ReadsF.cons 1 (by kernel_rfl) (Reads.slice (e := 208) (h := eGrant) (by kernel_rfl) (of_decide_eq_true (by kernel_rfl)) reads208) ReadsF.nil))))))))))) fun (x0, x1, x2, x3, x4, x5, x6, x7, x8, x9, _) => ⟨⟨x0, x1, x2, x3, x4, x5, x6, x7, x8, x9⟩, rfl⟩

theorem walk {W : World} (a0 : BX.Event) {vs : List Value} {L : List Nat} (h : SeesL W [(eEvent a0)] vs L) :
    Calls Try.prog 7 vs.toArray W fun e W' => e = .returned (.bool true) ∧ Below W.heap.size W W' := by
  by_cases hw : mxs [(eEvent a0)] ≤ 1048576
  · exact @Con.below small _ _ _ (@lawNeeded small a0 fun _ => Nat.le_refl _) _ _ _ (h.2.2.1 small (by show _ < 2147483648; omega)) h.2.2.2
  · exact @Con.below big _ _ _ (@lawNeeded big a0 fun h => absurd h hw) _ _ _ (h.2.2.1 big h.1) h.2.2.2

set_option maxRecDepth 100000 in
theorem lifted (os : Os) (started : os.Started) (H : Type) (enc : TypeId × Value → H) :
    ReturnsInHanded {} Try.checked os 7 .any (Rows.fnExactNeededSpec.pre6 enc Try.prog Try.f7 Rows.fnExactNeededRow.domain false) (Rows.fnExactNeededSpec.post enc Try.prog Try.f7 false true false false) := by
  refine returnsInHanded_of_change (C := Try.checked) own started (by kernel_rfl) Try.func7
    (ChangeSpec.witness6 (enc := enc) (C := Try.checked) false ⟨#[], #[.agg #[.string ByteArray.empty, .string ByteArray.empty, .string ByteArray.empty, .bool false, .string ByteArray.empty, .int .i64 0, .slice none 0 0, .slice none 0 0, .string ByteArray.empty, .slice none 0 0]], []⟩ 8 (by kernel_rfl) (by kernel_rfl) (by kernel_rfl) (by kernel_rfl)) ?_
  intro W base args ds gs before hval0 hW hcnd _
  have hval : ∀ (j : Nat) t v, Try.f7.params[j]? = some t → args[j]? = some v → Value.okWide Try.prog W .any base t v := hval0
  have hW' := hW
  obtain ⟨p, q, hA0, hV, rfl, hfz, hnd⟩ := hW
  have hA : DataW.TrodAll enc Try.prog W 0 (fun _ => true) true Try.f7.params.toList args.toList ds p := hA0
  rw [Try.params7] at hA hval
  obtain ⟨v0, vs0, d0, ds0, p0, q0, hargs, rfl, rfl, h0, r0⟩ := trodAll_cons hA
  obtain ⟨rfl, rfl, rfl⟩ := trodAll_nil r0
  obtain rfl : args = #[v0] := by cases args; simp_all
  obtain ⟨a0, L0, s0⟩ := (ArrT.struct (fs := [(9, 0), (9, 1), (9, 2), (4, 3), (9, 4), (3, 5), (78, 6), (78, 7), (9, 8), (79, 9)]) (by simp) (by kernel_rfl) (fun _ => rfl) reads81 : ArrT P0 81 eEvent) (hval 0 81 v0 rfl rfl) h0
  refine (walk a0 (SeesL.cons s0 (SeesL.nil W))).mono fun e W' ⟨he, hg⟩ => ?_
  subst he
  exact ⟨_, rfl, post_of_below (tb := 4) hW' rfl hg laidOut (by kernel_rfl) rfl (by kernel_rfl) fun ds hgs hl => by
    subst hgs
    match ds, hl with
    | [_], _ => exact ⟨rfl, rfl, rfl⟩⟩

theorem over : Rows.fnExactNeededRow.holds Try.pinned (OpenSpec.ofChange Rows.fnExactNeededSpec) :=
  OpenClaim.holds_of_wide 7 Try.f7 rfl rfl rfl rfl rfl rfl rfl ⟨rfl, rfl, rfl, rfl, rfl⟩ rfl rfl rfl rfl rfl (by kernel_rfl) Try.func7 (by kernel_rfl)
    (of_decide_eq_true (by kernel_rfl)) (by unfold Func.isWrapper; first | (rw [if_pos (by decide +kernel)]; kernel_rfl) | (rw [if_neg (by decide +kernel)]; exact ⟨rfl, rfl⟩))
    (fun os started H enc _ => lifted os started H enc)

/-- THE STATEMENT -/
theorem proved : Rows.FnExactNeededSaid :=
  over
#print axioms proved
end Go.Proofs.Ythhgcklidfilfaa.fnExactNeeded
