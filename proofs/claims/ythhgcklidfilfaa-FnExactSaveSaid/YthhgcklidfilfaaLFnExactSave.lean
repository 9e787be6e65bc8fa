/- FnExactSave: the call answers true at every argument, and the arguments read as they did; it has no conditions. -/
import Derived.Test.YthhgcklidfilfaaRows
import Derived.Test.YthhgcklidfilfaaLa
import Derived.Test.YthhgcklidfilfaaSw
import Derived.WalkKit
import Derived.ProofKit
import Derived.OpenShut
namespace Go.Proofs.Ythhgcklidfilfaa.fnExactSave
open Go.ChangeShapes Go.WideShapes Go.ChangeAt Go.RowKit BX
set_option linter.unusedSectionVars false
set_option linter.unusedSimpArgs false
set_option linter.unusedVariables false

theorem own : ownKnob Try.prog.godebug = none := by kernel_rfl
theorem laidOut : laidOutB Try.prog = true := by kernel_rfl

theorem reads137 : Reads P0 137 eEntry :=
  Reads.map (Reads.struct (N := 3) (fs := [(9, 0), (9, 1), (9, 2)]) (by kernel_rfl) (by simp) (by kernel_rfl) (ReadsF.cons 1 (by kernel_rfl) (Reads.str (by kernel_rfl)) (ReadsF.cons 1 (by kernel_rfl) (Reads.str (by kernel_rfl)) (ReadsF.cons 1 (by kernel_rfl) (Reads.str (by kernel_rfl)) ReadsF.nil)))) fun (x0, x1, x2, _) => ⟨⟨x0, x1, x2⟩, rfl⟩

theorem reads194 : Reads P0 194 eGroup :=
  Reads.map (Reads.struct (N := 2) (fs := [(3, 0), (50, 1)]) (by kernel_rfl) (by simp) (by kernel_rfl) (ReadsF.cons 1 (by kernel_rfl) (Reads.int (k := .i64) (by kernel_rfl)) (ReadsF.cons 1 (by kernel_rfl) (Reads.slice (e := 137) (h := eEntry) (by kernel_rfl) (of_decide_eq_true (by kernel_rfl)) reads137) ReadsF.nil))) fun (x0, x1, _) => ⟨⟨x0, x1⟩, rfl⟩

theorem reads49 : Reads P0 49 eStore :=
  Reads.map (Reads.struct (N := 1) (fs := [(47, 0)]) (by kernel_rfl) (by simp) (by kernel_rfl) (ReadsF.cons 1 (by kernel_rfl) (Reads.slice (e := 194) (h := eGroup) (by kernel_rfl) (of_decide_eq_true (by kernel_rfl)) reads194) ReadsF.nil)) fun (x0, _) => ⟨⟨x0⟩, rfl⟩

theorem walk {W : World} (a0 : BX.Store) (a1 : List BX.Entry) (a2 : Int) {vs : List Value} {L : List Nat} (h : SeesL W [(eStore a0), (T.sl (a1.map eEntry)), ((T.i .i64) a2)] vs L) :
    Calls Try.prog 5 vs.toArray W fun e W' => e = .returned (.bool true) ∧ Below W.heap.size W W' := by
  by_cases hw : mxs [(eStore a0), (T.sl (a1.map eEntry)), ((T.i .i64) a2)] ≤ 1048576
  · exact @Con.below small _ _ _ (@lawSave small a0 a1 a2 fun _ => Nat.le_refl _) _ _ _ (h.2.2.1 small (by show _ < 2147483648; omega)) h.2.2.2
  · exact @Con.below big _ _ _ (@lawSave big a0 a1 a2 fun h => absurd h hw) _ _ _ (h.2.2.1 big h.1) h.2.2.2

set_option maxRecDepth 100000 in
theorem lifted (os : Os) (started : os.Started) (H : Type) (enc : TypeId × Value → H) :
    ReturnsInHanded {} Try.checked os 5 .any (Rows.fnExactSaveSpec.pre6 enc Try.prog Try.f5 Rows.fnExactSaveRow.domain false) (Rows.fnExactSaveSpec.post enc Try.prog Try.f5 false true false false) := by
  refine returnsInHanded_of_change (C := Try.checked) own started (by kernel_rfl) Try.func5
    (ChangeSpec.witness6 (enc := enc) (C := Try.checked) false ⟨#[], #[.agg #[.slice none 0 0], .slice none 0 0, .int .i64 0], []⟩ 8 (by kernel_rfl) (by kernel_rfl) (by kernel_rfl) (by kernel_rfl)) ?_
  intro W base args ds gs before hval0 hW hcnd _
  have hval : ∀ (j : Nat) t v, Try.f5.params[j]? = some t → args[j]? = some v → Value.okWide Try.prog W .any base t v := hval0
  have hW' := hW
  obtain ⟨p, q, hA0, hV, rfl, hfz, hnd⟩ := hW
  have hA : DataW.TrodAll enc Try.prog W 0 (fun _ => true) true Try.f5.params.toList args.toList ds p := hA0
  rw [Try.params5] at hA hval
  obtain ⟨v0, vs0, d0, ds0, p0, q0, hargs, rfl, rfl, h0, r0⟩ := trodAll_cons hA
  obtain ⟨v1, vs1, d1, ds1, p1, q1, rfl, rfl, rfl, h1, r1⟩ := trodAll_cons r0
  obtain ⟨v2, vs2, d2, ds2, p2, q2, rfl, rfl, rfl, h2, r2⟩ := trodAll_cons r1
  obtain ⟨rfl, rfl, rfl⟩ := trodAll_nil r2
  obtain rfl : args = #[v0, v1, v2] := by cases args; simp_all
  obtain ⟨a0, L0, s0⟩ := (ArrT.struct (fs := [(47, 0)]) (by simp) (by kernel_rfl) (fun _ => rfl) reads49 : ArrT P0 49 eStore) (hval 0 49 v0 rfl rfl) h0
  obtain ⟨a1, L1, s1⟩ := (ArrT.slice (e := 137) (h := eEntry) (by kernel_rfl) (Reads.slice (e := 137) (h := eEntry) (by kernel_rfl) (of_decide_eq_true (by kernel_rfl)) reads137) : ArrT P0 50 (fun xs : List BX.Entry => T.sl (xs.map eEntry))) (hval 1 50 v1 rfl rfl) h1
  obtain ⟨a2, L2, s2⟩ := (ArrT.int (k := .i64) (by kernel_rfl) : ArrT P0 3 (T.i .i64)) (hval 2 3 v2 rfl rfl) h2
  refine (walk a0 a1 a2 (SeesL.cons s0 (SeesL.cons s1 (SeesL.cons s2 (SeesL.nil W))))).mono fun e W' ⟨he, hg⟩ => ?_
  subst he
  exact ⟨_, rfl, post_of_below (tb := 4) hW' rfl hg laidOut (by kernel_rfl) rfl (by kernel_rfl) fun ds hgs hl => by
    subst hgs
    match ds, hl with
    | [_, _, _], _ => exact ⟨rfl, rfl, rfl⟩⟩

theorem over : Rows.fnExactSaveRow.holds Try.pinned (OpenSpec.ofChange Rows.fnExactSaveSpec) :=
  OpenClaim.holds_of_wide 5 Try.f5 rfl rfl rfl rfl rfl rfl rfl ⟨rfl, rfl, rfl, rfl, rfl⟩ rfl rfl rfl rfl rfl (by kernel_rfl) Try.func5 (by kernel_rfl)
    (of_decide_eq_true (by kernel_rfl)) (by unfold Func.isWrapper; first | (rw [if_pos (by decide +kernel)]; kernel_rfl) | (rw [if_neg (by decide +kernel)]; exact ⟨rfl, rfl⟩))
    (fun os started H enc _ => lifted os started H enc)

/-- THE STATEMENT -/
theorem proved : Rows.FnExactSaveSaid :=
  over
#print axioms proved
end Go.Proofs.Ythhgcklidfilfaa.fnExactSave
