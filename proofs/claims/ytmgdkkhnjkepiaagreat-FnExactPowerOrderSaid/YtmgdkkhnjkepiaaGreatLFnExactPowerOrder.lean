/- FnExactPowerOrder: the call answers true at every argument, and the arguments read as they did; it has no conditions. -/
import Derived.Test.YtmgdkkhnjkepiaaGreatQ8
import Derived.Test.YtmgdkkhnjkepiaaGreatRows
import Derived.WalkKit
import Derived.ProofKit
import Derived.OpenShut
namespace Go.Proofs.YtmgdkkhnjkepiaaGreat.fnExactPowerOrder
open Go.ChangeShapes Go.WideShapes Go.ChangeAt Go.RowKit BX
set_option linter.unusedSectionVars false
set_option linter.unusedSimpArgs false
set_option linter.unusedVariables false

theorem own : ownKnob Tryz.prog.godebug = none := by kernel_rfl
theorem laidOut : laidOutB Tryz.prog = true := by kernel_rfl

theorem reads158 : Reads P0 158 eGrant :=
  Reads.map (Reads.struct (N := 2) (fs := [(9, 0), (3, 1)]) (by kernel_rfl) (by simp) (by kernel_rfl) (ReadsF.cons 1 (by kernel_rfl) (Reads.str (by kernel_rfl)) (ReadsF.cons 1 (by kernel_rfl) (Reads.int (k := .i64) (by kernel_rfl)) ReadsF.nil))) fun (x0, x1, _) => ⟨⟨x0, x1⟩, rfl⟩

theorem reads29 : Reads P0 29 eEvent :=
  Reads.map (Reads.struct (N := 10) (fs := [(9, 0), (9, 1), (9, 2), (4, 3), (9, 4), (3, 5), (26, 6), (26, 7), (9, 8), (27, 9)]) (by kernel_rfl) (by simp) (by kernel_rfl) (ReadsF.cons 1 (by kernel_rfl) (Reads.str (by kernel_rfl)) (ReadsF.cons 1 (by kernel_rfl) (Reads.str (by kernel_rfl)) (ReadsF.cons 1 (by kernel_rfl) (Reads.str (by kernel_rfl)) (ReadsF.cons 1 (by kernel_rfl) (Reads.bool (by kernel_rfl)) (ReadsF.cons 1 (by kernel_rfl) (Reads.str (by kernel_rfl)) (ReadsF.cons 1 (by kernel_rfl) (Reads.int (k := .i64) (by kernel_rfl)) (ReadsF.cons 1 (by kernel_rfl) (Reads.slice (e := 9) (h := T.s) (by kernel_rfl) (of_decide_eq_true (by kernel_rfl)) (Reads.str (by kernel_rfl))) (ReadsF.cons 1 (by kernel_rfl) (Reads.slice (e := 9) (h := T.s) (by kernel_rfl) (of_decide_eq_true (by kernel_rfl)) (Reads.str (by kernel_rfl))) (ReadsF.cons 1 (by kernel_rfl) (Reads.str (by kernel_rfl)) (ReadsF.cons 1 (by kernel_rfl) (Reads.slice (e := 158) (h := eGrant) (by kernel_rfl) (of_decide_eq_true (by kernel_rfl)) reads158) ReadsF.nil))))))))))) fun (x0, x1, x2, x3, x4, x5, x6, x7, x8, x9, _) => ⟨⟨x0, x1, x2, x3, x4, x5, x6, x7, x8, x9⟩, rfl⟩

theorem reads24 : Reads P0 24 eRoom :=
  Reads.map (Reads.struct (N := 1) (fs := [(22, 0)]) (by kernel_rfl) (by simp) (by kernel_rfl) (ReadsF.cons 1 (by kernel_rfl) (Reads.slice (e := 29) (h := eEvent) (by kernel_rfl) (of_decide_eq_true (by kernel_rfl)) reads29) ReadsF.nil)) fun (x0, _) => ⟨⟨x0⟩, rfl⟩

theorem walk {W : World} (a0 : BX.Room) (a1 : List (List UInt8)) {vs : List Value} {L : List Nat} (h : SeesL W [(eRoom a0), (T.sl (a1.map T.s))] vs L) :
    Calls Tryz.prog 7 vs.toArray W fun e W' => e = .returned (.bool true) ∧ Below W.heap.size W W' := by
  by_cases hw : mxs [(eRoom a0), (T.sl (a1.map T.s))] ≤ 1048576
  · exact @Con.below small _ _ _ (@lawPowerOrder small a0 a1 (fun h => h) fun _ => Nat.le_refl _) _ _ _ (h.2.2.1 small (by show _ < 2147483648; omega)) h.2.2.2
  · exact @Con.below big _ _ _ (@lawPowerOrder big a0 a1 (fun h => h) fun h => absurd h hw) _ _ _ (h.2.2.1 big h.1) h.2.2.2

set_option maxRecDepth 100000 in
theorem lifted (os : Os) (started : os.Started) (H : Type) (enc : TypeId × Value → H) :
    ReturnsInHanded {} Tryz.checked os 7 .any (Rows.fnExactPowerOrderSpec.pre6 enc Tryz.prog Tryz.f7 Rows.fnExactPowerOrderRow.domain false) (Rows.fnExactPowerOrderSpec.post enc Tryz.prog Tryz.f7 false true false false) := by
  refine returnsInHanded_of_change (C := Tryz.checked) own started (by kernel_rfl) Tryz.func7
    (ChangeSpec.witness6 (enc := enc) (C := Tryz.checked) false ⟨#[], #[.agg #[.slice none 0 0], .slice none 0 0], []⟩ 8 (by kernel_rfl) (by kernel_rfl) (by kernel_rfl) (by kernel_rfl)) ?_
  intro W base args ds gs before hval0 hW hcnd _
  have hval : ∀ (j : Nat) t v, Tryz.f7.params[j]? = some t → args[j]? = some v → Value.okWide Tryz.prog W .any base t v := hval0
  have hW' := hW
  obtain ⟨p, q, hA0, hV, rfl, hfz, hnd⟩ := hW
  have hA : DataW.TrodAll enc Tryz.prog W 0 (fun _ => true) true Tryz.f7.params.toList args.toList ds p := hA0
  rw [Tryz.params7] at hA hval
  obtain ⟨v0, vs0, d0, ds0, p0, q0, hargs, rfl, rfl, h0, r0⟩ := trodAll_cons hA
  obtain ⟨v1, vs1, d1, ds1, p1, q1, rfl, rfl, rfl, h1, r1⟩ := trodAll_cons r0
  obtain ⟨rfl, rfl, rfl⟩ := trodAll_nil r1
  obtain rfl : args = #[v0, v1] := by cases args; simp_all
  obtain ⟨a0, L0, s0⟩ := (ArrT.struct (fs := [(22, 0)]) (by simp) (by kernel_rfl) (fun _ => rfl) reads24 : ArrT P0 24 eRoom) (hval 0 24 v0 rfl rfl) h0
  obtain ⟨a1, L1, s1⟩ := (ArrT.slice (e := 9) (h := T.s) (by kernel_rfl) (Reads.slice (e := 9) (h := T.s) (by kernel_rfl) (of_decide_eq_true (by kernel_rfl)) (Reads.str (by kernel_rfl))) : ArrT P0 26 (fun xs : List (List UInt8) => T.sl (xs.map T.s))) (hval 1 26 v1 rfl rfl) h1
  refine (walk a0 a1 (SeesL.cons s0 (SeesL.cons s1 (SeesL.nil W)))).mono fun e W' ⟨he, hg⟩ => ?_
  subst he
  exact ⟨_, rfl, post_of_below (tb := 4) hW' rfl hg laidOut (by kernel_rfl) rfl (by kernel_rfl) fun ds hgs hl => by
    subst hgs
    match ds, hl with
    | [_, _], _ => exact ⟨rfl, rfl, rfl⟩⟩

theorem band {a b : Bool} (h : a = true) (k : b = true) : (a && b) = true := by rw [h, k]; rfl
set_option maxHeartbeats 4000000 in
theorem closed : joinedFacts Tryz.prog 7 Tryz.f7 Rows.fnExactPowerOrderSpec Rows.fnExactPowerOrderRow = true := by
  unfold joinedFacts
  repeat' with_reducible refine band ?_ ?_
  all_goals as_aux_lemma => kernel_rfl

theorem over : Rows.fnExactPowerOrderRow.holds Tryz.pinned (OpenSpec.ofChange Rows.fnExactPowerOrderSpec) :=
  OpenClaim.holds_of_wide 7 Tryz.f7 rfl rfl rfl rfl rfl rfl rfl ⟨rfl, rfl, rfl, rfl, rfl⟩ rfl rfl rfl rfl rfl (by kernel_rfl) Tryz.func7 closed
    (of_decide_eq_true (by kernel_rfl)) (by unfold Func.isWrapper; first | (rw [if_pos (by decide +kernel)]; kernel_rfl) | (rw [if_neg (by decide +kernel)]; exact ⟨rfl, rfl⟩))
    (fun os started H enc _ => lifted os started H enc)

/-- THE STATEMENT -/
theorem proved : Rows.FnExactPowerOrderSaid :=
  over
#print axioms proved
end Go.Proofs.YtmgdkkhnjkepiaaGreat.fnExactPowerOrder
