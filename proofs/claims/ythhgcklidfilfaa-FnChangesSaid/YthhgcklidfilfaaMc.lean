/-
  'maps.Clone' of a map of plain values.
-/
import Derived.Test.YthhgcklidfilfaaFi
import Derived.WalkKit
import Derived.ProofKit
import Derived.Laws.Externs
import Derived.MapKept
namespace Go.Proofs.Ythhgcklidfilfaa.BX
set_option linter.unusedSectionVars false
set_option linter.unusedSimpArgs false
set_option linter.unusedVariables false
open Go Go.RowKit
set_option maxRecDepth 20000

section
variable {P : Program} (w : World)
theorem eqlIn_map_nil (d : Nat) (t k e : TypeId) (p : Option Nat) (h : P.underlying t = some (.map k e)) :
    (Op.equalIn (d + 1) t (.map p) (.map none)).run P w = .ok p.isNone w := by
  cases p <;> simp [Op.equalIn, run_underlying h]
theorem eql_map_nil (t k e : TypeId) (p : Option Nat) (h : P.underlying t = some (.map k e)) :
    (binOp .eql t (.map p) (.map none)).run P w = .ok (.bool p.isNone) w := by
  simp only [binOp]
  simp [show Op.equal t (.map p) (.map none) = Op.equalIn (9999 + 1) t (.map p) (.map none) from rfl, eqlIn_map_nil w 9999 t k e p h]
theorem assert_map (t xT k e : TypeId) (v : Value) (h : P.underlying t = some (.map k e)) : (Instr.typeAssert (.iface t v) xT t false).run P w = .ok v w := by
  simp [Instr.typeAssert, run_underlying h, go_sem, Result.andThen]
theorem extern_clone {r : Nat} {es : Array MapEntry} {clock : Nat} (t : TypeId) (hb : w.heap[r]? = some (.map es clock)) :
    (Extern.MapsClone.clone #[.iface t (.map (some r))]).run P w = .ok (.iface t (.map (some w.heap.size))) (w.alloc (.map es clock)) := by
  have e : Extern.MapsClone.clone #[.iface t (.map (some r))] = (getObj r >>= fun o => match o with
      | .map entries clock => (newObj (.map entries clock) >>= fun n => pure (.iface t (.map (some n))))
      | _ => stuck "maps.clone: a map expected") := rfl
  rw [e]
  simp [MapKept.run_getObj_map hb, Result.andThen, go_sem]
end

theorem clone_calls (b : Nat) (es : Array MapEntry) (clock : Nat) (w : World) (hb : w.heap[b]? = some (.map es clock)) :
    Calls P0 145 #[.map (some b)] w fun e w' => e = .returned (.map (some w.heap.size)) ∧ w' = w.alloc (.map es clock) := by
  have hu : Try.prog.underlying 112 = some (.map 118 9) := by kernel_rfl
  have hq := fun w => eql_map_nil (P := Try.prog) w 112 _ _ (some b) hu
  go_enter Try.func145, Try.ntmps145
  go_wp2
  rw [run_callFunc_extern Try.func177 (by kernel_rfl) (by kernel_rfl) (by kernel_rfl) (e := Extern.MapsClone.clone) (by kernel_rfl), extern_clone w 112 hb]
  simp only [Result.andThen]
  rw [Oper.upon_value]
  go_wp2
  rw [assert_map _ 112 20 _ _ _ hu]
  simp only [Result.andThen]
  rw [Oper.upon_value]
  go_wp2
  go_ret
  exact ⟨rfl, rfl⟩

theorem mapsClone [Bd] {ks vs : List T} (hfk : flats ks = true) (hfv : flats vs = true) (ho : ∀ x ∈ vs, x.one = true) : Con P0 145 [.mp ks vs] (.mr 0) [.map 118 9 (.own .leaf) ks vs none] := by
  refine ⟨⟨_, Try.func145, rfl, rfl⟩, ?_⟩
  intro w L M vals hv S F hr
  have hsz : vals.length = 1 := by simpa using hr.size
  obtain ⟨v, rfl⟩ : ∃ v, vals = [v] := List.length_eq_one_iff.1 hsz
  obtain ⟨Lt, ht, hLt⟩ := hr.tm 0
  have ht : footT w (.mp ks vs) v Lt := by simpa [numA, getL, footA] using ht
  simp only [footT] at ht
  obtain ⟨r, es, clock, l, L1, L2, rfl, hheap, ⟨p1, p2, p3, p4, p5⟩, f1, f2, rfl⟩ := ht
  have f1 := (flats_foot ks hfk f1).2
  have f2 := (flats_foot vs hfv f2).2
  refine (clone_calls r es clock w hheap).mono fun e w' ⟨he, hw⟩ => ?_
  subst hw
  have hones : ∀ en ∈ l, en.val.oneCell' = true := by
    intro en hen
    obtain ⟨i, hi⟩ := List.getElem?_of_mem hen
    have hlv := footTs_length (f2 w)
    rw [List.length_map] at hlv
    have hil := (List.getElem?_eq_some_iff.1 hi).1
    obtain ⟨u, L', q1, q2, _⟩ := footTs_get (f2 w) (List.getElem?_eq_getElem (by omega : i < vs.length))
    rw [List.getElem?_map, hi] at q1
    simp only [Option.map_some, Option.some.injEq] at q1
    rw [q1]
    exact T.one_value (ho _ (List.getElem_mem _)) q2
  have hlen : ks.length = vs.length := by
    have a := footTs_length (f1 w); have b := footTs_length (f2 w)
    rw [List.length_map] at a b
    omega
  obtain ⟨hv', _, h1, h2, h3⟩ := hr.new (Grew.alloc w (.map es clock)) (o := .map 118 9 (.own .leaf) ks vs none) (v := .map (some w.heap.size)) (Fi := [])
    (by intro b hb; simp [blkOf] at hb; subst hb; exact ⟨Nat.le_refl _, by simp⟩) rfl rfl (by simp) (by simp) (by
      intro hv' hB he hn'
      exact ⟨w.heap.size, es, clock, l, ⟨rfl, heap_alloc_new w _, p1, p2, p3, f1 _, hfk, p4, p5, hones⟩, els_leaf hfv (f2 _), hlen, by simp⟩)
  exact ⟨.map (some w.heap.size), hv', _, _, [], he, h3.no_tmp, by simp only [footA]; exact ⟨h2.symm, trivial⟩, by simp, by simp [AV.under]⟩

end Go.Proofs.Ythhgcklidfilfaa.BX
