/-
  Part 6 of what LFnGroups leans on: its texts, merged by a program (prune.py), with what it needs alone.
-/
import Derived.Test.YtmgdkkhnjkepiaaQ5
import Derived.WalkKit
import Derived.ProofKit
import Derived.Laws.Externs
import Derived.MapKept
namespace Go.Proofs.Ytmgdkkhnjkepiaa.BX
set_option linter.unusedSectionVars false
set_option linter.unusedSimpArgs false
set_option linter.unusedVariables false
open Go Go.RowKit
set_option maxRecDepth 20000
set_option maxHeartbeats 400000
def linksOf (gs : List Group) (i : Nat) : Nat := match gs[i]? with
  | none => 0
  | some g => if _h : 0 ≤ g.parent ∧ g.parent.toNat < i then 1 + linksOf gs g.parent.toNat else 0
termination_by i
decreasing_by exact _h.2
def expandOf (gs : List Group) (i : Nat) : List Entry := match gs[i]? with
  | none => []
  | some g => if _h : 0 ≤ g.parent ∧ g.parent.toNat < i then patchL (expandOf gs g.parent.toNat) g.sets else g.sets
termination_by i
decreasing_by exact _h.2
theorem linksOf_eq {gs : List Group} {i : Nat} {g : Group} (h : gs[i]? = some g) : linksOf gs i = if 0 ≤ g.parent ∧ g.parent.toNat < i then 1 + linksOf gs g.parent.toNat else 0 := by
  rw [linksOf, h]
  simp only [dite_eq_ite]
theorem expandOf_eq {gs : List Group} {i : Nat} {g : Group} (h : gs[i]? = some g) : expandOf gs i = if 0 ≤ g.parent ∧ g.parent.toNat < i then patchL (expandOf gs g.parent.toNat) g.sets else g.sets := by
  rw [expandOf, h]
  simp only [dite_eq_ite]
structure OkAt (gs : List Group) (i : Nat) (g : Group) : Prop where
  lo : -1 ≤ g.parent
  hi : g.parent < i
  len : g.sets.length ≤ 600
  ord : inOrd g.sets = true
  base : g.parent = -1 → stateOk g.sets = true
  links : linksOf gs i ≤ 4
  full : (expandOf gs i).length ≤ 300
def Ups (gs : List Group) (i : Nat) : Prop := ∀ j < i, ∀ g, gs[j]? = some g → OkAt gs j g
noncomputable def storeOk (gs : List Group) : Bool := decide (gs.length ≤ 1000) && @decide (Ups gs gs.length) (Classical.propDecidable _)
theorem linksOf_le {gs : List Group} : ∀ (i : Nat), linksOf gs i ≤ i := by
  intro i
  induction i using Nat.strongRecOn with
  | ind i ih =>
    rw [linksOf]
    split
    · omega
    · split
      · rename_i h; have := ih _ h.2; omega
      · omega
theorem expandOf_ord {gs : List Group} (i : Nat) (h : ∀ j ≤ i, ∀ g, gs[j]? = some g → inOrd g.sets = true) : Ordered (expandOf gs i) := by
  induction i using Nat.strongRecOn with
  | ind i ih =>
    rw [expandOf]
    split
    · exact .nil
    · rename_i g hg
      split
      · rename_i hc
        exact (patchL_ord (ih _ hc.2 fun j hj => h j (by omega))).1
      · exact ordered_of (h i (by omega) g hg)
variable [Bd]
theorem l4Links (gs : List Group) : ∀ (i : Nat), i < gs.length → (∀ j ≤ i, ∀ g, gs[j]? = some g → g.parent < j) → i < 1048576 → Con P0 37 [eStore ⟨gs⟩, .i .i64 i] (.t (.i .i64 (linksOf gs i))) [] := by
  intro i
  induction i using Nat.strongRecOn with
  | ind i ih =>
  intro hi hp hn
  refine Con.intro (fn := Try.f37) [.tmp 4] (fun i => if i = 3 then (10, []) else (0, [])) mixed (by kernel_rfl) rfl (by decide) rfl (by rfl) (by kernel_rfl) ?_
  simp -implicitDefEqProofs (maxSteps := 2000000) only [push_cast, Nat.reduceEqDiff, Nat.reduceLT, Nat.reduceLeDiff, Nat.reduceAdd, Nat.reduceMul, Nat.reduceSub, Nat.reduceBEq, ↓reduceIte, reduceCtorEq, eStore, eGroup]
  refine ⟨by omega, fun g hg => ?_⟩
  rw [Int.toNat_natCast] at hg
  have hpi := hp i (by omega) g hg
  have hli := linksOf_le (gs := gs) i
  have hlq := linksOf_eq hg
  split
  · rw [if_neg (by omega)] at hlq
    rw [hlq]; rfl
  · rw [if_pos (by omega)] at hlq
    have hlp := linksOf_le (gs := gs) g.parent.toNat
    refine ⟨by omega, fun g' hg' => ?_⟩
    rw [Int.toNat_natCast, hg] at hg'
    cases hg'
    have h := ih g.parent.toNat (by omega) (by omega) (fun j hj => hp j (by omega)) (by omega)
    rw [Int.toNat_of_nonneg (by omega)] at h
    refine CallV.t h (.inl rfl) ?_
    simp -implicitDefEqProofs (maxSteps := 2000000) only [push_cast, Nat.reduceEqDiff, Nat.reduceLT, Nat.reduceLeDiff, Nat.reduceAdd, Nat.reduceMul, Nat.reduceSub, Nat.reduceBEq, ↓reduceIte, reduceCtorEq]
    refine ⟨by unfold inI64; omega, ?_⟩
    rw [hlq]; push_cast; rfl
theorem l4Expand (gs : List Group) (hB : Bd.B ≤ 2147483648) : ∀ (i : Nat), i < gs.length → (∀ j ≤ i, ∀ g, gs[j]? = some g → g.parent < j ∧ inOrd g.sets = true ∧ g.sets.length ≤ 600) → (∀ j < i, (expandOf gs j).length ≤ 300) → i < 1048576 → Con P0 31 [eStore ⟨gs⟩, .i .i64 i] (.sr 0) [.arr 38 3 (.own (.ag [.leaf, .leaf, .leaf])) ((expandOf gs i).map eEntry)] := by
  intro i
  induction i using Nat.strongRecOn with
  | ind i ih =>
  intro hi hp hl hn
  have := Bd.lo
  refine Con.intro (fn := Try.f31) [.tmp 4] (fun i => if i = 4 then (6, []) else (0, [])) mixed (by kernel_rfl) rfl (by decide) rfl (by rfl) (by kernel_rfl) ?_
  simp -implicitDefEqProofs (maxSteps := 2000000) only [push_cast, Nat.reduceEqDiff, Nat.reduceLT, Nat.reduceLeDiff, Nat.reduceAdd, Nat.reduceMul, Nat.reduceSub, Nat.reduceBEq, ↓reduceIte, reduceCtorEq, eStore, eGroup]
  refine ⟨by omega, fun g hg => ?_⟩
  rw [Int.toNat_natCast] at hg
  obtain ⟨hp1, hp2, hp3⟩ := hp i (by omega) g hg
  have hlq := expandOf_eq hg
  split
  · rw [if_neg (by omega)] at hlq
    refine Callx.closed (l4Copy g.sets hB (by omega)) rfl rfl (.inl rfl) ?_
    rw [hlq]
    simp -implicitDefEqProofs (maxSteps := 2000000) only [push_cast, Nat.reduceEqDiff, Nat.reduceLT, Nat.reduceLeDiff, Nat.reduceAdd, Nat.reduceMul, Nat.reduceSub, Nat.reduceBEq, ↓reduceIte, reduceCtorEq]
    exact Close.of [some 2] rfl rfl rfl rfl (by simp only [push_cast, Nat.reduceEqDiff, Nat.reduceLT, Nat.reduceLeDiff, Nat.reduceAdd, Nat.reduceMul, Nat.reduceSub, Nat.reduceBEq, ↓reduceIte, reduceCtorEq] <;> rfl)
  · rw [if_pos (by omega)] at hlq
    have h := ih g.parent.toNat (by omega) (by omega) (fun j hj => hp j (by omega)) (fun j hj => hl j (by omega)) (by omega)
    rw [Int.toNat_of_nonneg (by omega)] at h
    have ho := expandOf_ord (gs := gs) g.parent.toNat (fun j hj x hx => (hp j (by omega) x hx).2.1)
    have hle := hl g.parent.toNat (by omega)
    refine CallV.of (r := eEntryS (expandOf gs g.parent.toNat)) h (by simp only [push_cast, Nat.reduceEqDiff, Nat.reduceLT, Nat.reduceLeDiff, Nat.reduceAdd, Nat.reduceMul, Nat.reduceSub, Nat.reduceBEq, ↓reduceIte, reduceCtorEq]; rfl) rfl (.inl rfl) ?_
    simp -implicitDefEqProofs (maxSteps := 2000000) only [push_cast, Nat.reduceEqDiff, Nat.reduceLT, Nat.reduceLeDiff, Nat.reduceAdd, Nat.reduceMul, Nat.reduceSub, Nat.reduceBEq, ↓reduceIte, reduceCtorEq]
    refine Callx.closed (l4Patch (expandOf gs g.parent.toNat) g.sets hB ho (by omega)) rfl rfl (.inl rfl) ?_
    rw [hlq]
    simp -implicitDefEqProofs (maxSteps := 2000000) only [push_cast, Nat.reduceEqDiff, Nat.reduceLT, Nat.reduceLeDiff, Nat.reduceAdd, Nat.reduceMul, Nat.reduceSub, Nat.reduceBEq, ↓reduceIte, reduceCtorEq]
    exact Close.of [some 2] rfl rfl rfl rfl (by simp only [push_cast, Nat.reduceEqDiff, Nat.reduceLT, Nat.reduceLeDiff, Nat.reduceAdd, Nat.reduceMul, Nat.reduceSub, Nat.reduceBEq, ↓reduceIte, reduceCtorEq] <;> rfl)
theorem specStoreOk (gs : List Group) (hB : Bd.B ≤ 2147483648) : Con P0 30 [eStore ⟨gs⟩] (.t (.b (storeOk gs))) [] := by
  refine Con.intro (fn := Try.f30) [.tmp 2] (fun _ => (0, [])) mixed (by kernel_rfl) rfl (by decide) rfl (by rfl) (by kernel_rfl) ?_
  simp -implicitDefEqProofs (maxSteps := 2000000) only [push_cast, Nat.reduceEqDiff, Nat.reduceLT, Nat.reduceLeDiff, Nat.reduceAdd, Nat.reduceMul, Nat.reduceSub, Nat.reduceBEq, ↓reduceIte, reduceCtorEq, eStore]
  intro hlen
  split
  · rename_i h
    simp only [storeOk]
    rw [decide_eq_false (by omega)]
    rfl
  rename_i hm
  refine WL.loop (ι := Nat) (D := (fun _ => (0, []))) (fun i => i ≤ gs.length ∧ Ups gs i) (fun i => ⟨58, [(1, .rf 0 0), (3, .t (.i .i64 i))], [.box (.t (eStore ⟨gs⟩))]⟩) (fun i => gs.length - i) mixed (by kernel_rfl) 0 ⟨by omega, fun j hj => absurd hj (by omega)⟩ (Keep.wk (ids := [some 0]) ?_) ?_
  · simp only [push_cast, Nat.reduceEqDiff, Nat.reduceLT, Nat.reduceLeDiff, Nat.reduceAdd, Nat.reduceMul, Nat.reduceSub, Nat.reduceBEq, ↓reduceIte, reduceCtorEq, eStore] <;> rfl
  · rintro i ⟨hi, hu⟩
    simp -implicitDefEqProofs (maxSteps := 2000000) only [push_cast, Nat.reduceEqDiff, Nat.reduceLT, Nat.reduceLeDiff, Nat.reduceAdd, Nat.reduceMul, Nat.reduceSub, Nat.reduceBEq, ↓reduceIte, reduceCtorEq, eStore, eGroup]
    intro _
    have hno : ∀ g, gs[i]? = some g → ¬ OkAt gs i g → storeOk gs = false := by
      intro g hg hn
      simp only [storeOk]
      rw [Bool.and_eq_false_iff]
      refine .inr (@decide_eq_false _ (Classical.propDecidable _) fun h => hn (h i ?_ g hg))
      exact (List.getElem?_eq_some_iff.1 hg).1
    split
    case isFalse =>
      have hi : i = gs.length := by omega
      subst hi
      simp only [storeOk]
      rw [decide_eq_true (by omega), @decide_eq_true _ (Classical.propDecidable _) hu]
      rfl
    rename_i h
    refine ⟨by omega, fun g hg => ?_⟩
    rw [Int.toNat_natCast] at hg
    split
    · rename_i h1
      rw [hno g hg fun h => absurd h.lo (by omega)]
    split
    · rename_i h2
      rw [hno g hg fun h => absurd h.hi (by omega)]
    refine Callx.closed (l4Changes g.sets) rfl rfl (.inl rfl) ?_
    simp -implicitDefEqProofs (maxSteps := 2000000) only [push_cast, Nat.reduceEqDiff, Nat.reduceLT, Nat.reduceLeDiff, Nat.reduceAdd, Nat.reduceMul, Nat.reduceSub, Nat.reduceBEq, ↓reduceIte, reduceCtorEq]
    split
    · rename_i h3
      rw [hno g hg fun h => ?_]
      have h4 := h.len
      rw [h.ord, decide_eq_true (by omega)] at h3
      simp at h3
    rename_i h1 h2 h3
    have hc : g.sets.length ≤ 600 ∧ inOrd g.sets = true := by
      simp only [Bool.not_eq_true', Bool.not_eq_false, Bool.and_eq_true, decide_eq_true_eq] at h3
      exact ⟨by omega, h3.2⟩
    have hall : ∀ j ≤ i, ∀ x, gs[j]? = some x → x.parent < j ∧ inOrd x.sets = true ∧ x.sets.length ≤ 600 := by
      intro j hj x hx
      rcases Nat.lt_or_ge j i with hj' | hj'
      · exact ⟨(hu j hj' x hx).hi, (hu j hj' x hx).ord, (hu j hj' x hx).len⟩
      · have hji : j = i := by omega
        subst hji
        rw [hg] at hx; cases hx
        exact ⟨by omega, hc.2, hc.1⟩
    have hpar : ∀ j ≤ i, ∀ x, gs[j]? = some x → x.parent < j := fun j hj x hx => (hall j hj x hx).1
    have hful : ∀ j < i, (expandOf gs j).length ≤ 300 := by
      intro j hj
      obtain ⟨x, hx⟩ : ∃ x, gs[j]? = some x := ⟨_, List.getElem?_eq_getElem (by omega)⟩
      exact (hu j hj x hx).full
    split
    · rename_i h5
      refine Callx.closed (specStateOk g.sets) rfl rfl (.inl rfl) ?_
      simp -implicitDefEqProofs (maxSteps := 2000000) only [push_cast, Nat.reduceEqDiff, Nat.reduceLT, Nat.reduceLeDiff, Nat.reduceAdd, Nat.reduceMul, Nat.reduceSub, Nat.reduceBEq, ↓reduceIte, reduceCtorEq]
      split
      · rename_i h6
        rw [hno g hg fun h => ?_]
        rw [h.base h5] at h6
        simp at h6
      rename_i h8
      have hlk := linksOf_le (gs := gs) i
      refine Callx.closed (l4Links gs i (by omega) hpar (by omega)) rfl rfl (.inl rfl) ?_
      simp -implicitDefEqProofs (maxSteps := 2000000) only [push_cast, Nat.reduceEqDiff, Nat.reduceLT, Nat.reduceLeDiff, Nat.reduceAdd, Nat.reduceMul, Nat.reduceSub, Nat.reduceBEq, ↓reduceIte, reduceCtorEq]
      split
      · rename_i h6
        rw [hno g hg fun h => absurd h.links (by omega)]
      refine Callx.closed (l4Expand gs hB i (by omega) hall (fun j hj => hful j hj) (by omega)) rfl rfl (.inl rfl) ?_
      simp -implicitDefEqProofs (maxSteps := 2000000) only [push_cast, Nat.reduceEqDiff, Nat.reduceLT, Nat.reduceLeDiff, Nat.reduceAdd, Nat.reduceMul, Nat.reduceSub, Nat.reduceBEq, ↓reduceIte, reduceCtorEq]
      split
      · rename_i h7
        rw [hno g hg fun h => absurd h.full (by omega)]
        exact fun _ => rfl
      rename_i h6 h7
      intro _
      refine ⟨by unfold inI64; omega, i + 1, ⟨by omega, fun j hj x hx => ?_⟩, by omega, Keep.wk (ids := [some 0]) ?_⟩
      · rcases Nat.lt_or_ge j i with hj' | hj'
        · exact hu j hj' x hx
        · have hji : j = i := by omega
          subst hji
          rw [hg] at hx; cases hx
          exact ⟨by omega, by omega, by omega, hc.2, fun _ => by simpa using h8, by omega, by omega⟩
      · simp only [push_cast, Nat.reduceEqDiff, Nat.reduceLT, Nat.reduceLeDiff, Nat.reduceAdd, Nat.reduceMul, Nat.reduceSub, Nat.reduceBEq, ↓reduceIte, reduceCtorEq, eStore] <;> rfl
    · rename_i h5
      have hlk := linksOf_le (gs := gs) i
      refine Callx.closed (l4Links gs i (by omega) hpar (by omega)) rfl rfl (.inl rfl) ?_
      simp -implicitDefEqProofs (maxSteps := 2000000) only [push_cast, Nat.reduceEqDiff, Nat.reduceLT, Nat.reduceLeDiff, Nat.reduceAdd, Nat.reduceMul, Nat.reduceSub, Nat.reduceBEq, ↓reduceIte, reduceCtorEq]
      split
      · rename_i h6
        rw [hno g hg fun h => absurd h.links (by omega)]
      refine Callx.closed (l4Expand gs hB i (by omega) hall (fun j hj => hful j hj) (by omega)) rfl rfl (.inl rfl) ?_
      simp -implicitDefEqProofs (maxSteps := 2000000) only [push_cast, Nat.reduceEqDiff, Nat.reduceLT, Nat.reduceLeDiff, Nat.reduceAdd, Nat.reduceMul, Nat.reduceSub, Nat.reduceBEq, ↓reduceIte, reduceCtorEq]
      split
      · rename_i h7
        rw [hno g hg fun h => absurd h.full (by omega)]
        exact fun _ => rfl
      rename_i h6 h7
      intro _
      refine ⟨by unfold inI64; omega, i + 1, ⟨by omega, fun j hj x hx => ?_⟩, by omega, Keep.wk (ids := [some 0]) ?_⟩
      · rcases Nat.lt_or_ge j i with hj' | hj'
        · exact hu j hj' x hx
        · have hji : j = i := by omega
          subst hji
          rw [hg] at hx; cases hx
          exact ⟨by omega, by omega, by omega, hc.2, fun hh => absurd hh h5, by omega, by omega⟩
      · simp only [push_cast, Nat.reduceEqDiff, Nat.reduceLT, Nat.reduceLeDiff, Nat.reduceAdd, Nat.reduceMul, Nat.reduceSub, Nat.reduceBEq, ↓reduceIte, reduceCtorEq, eStore] <;> rfl
end Go.Proofs.Ytmgdkkhnjkepiaa.BX
namespace Go.Proofs.Ytmgdkkhnjkepiaa.BX
set_option linter.unusedSectionVars false
set_option linter.unusedSimpArgs false
set_option linter.unusedVariables false
open Go Go.RowKit
set_option maxRecDepth 20000
section
variable {P : Program} (w : World)
theorem eqlIn_map_nil (d : Nat) (t k e : TypeId) (p : Option Nat) (h : P.underlying t = some (.map k e)) :
    (Op.equalIn (d + 1) t (.map p) (.map none)).run P w = .ok p.isNone w := by
  cases p <;> simp [Op.equalIn, run_underlying h]
theorem eql_map_nil (t k e : TypeId) (p : Option Nat) (h : P.underlying t = some (.map k e)) :
    (binOp .eql t (.map p) (.map none)).run P w = .ok (.bool p.isNone) w := by
  simp only [binOp]
  simp [show Op.equal t (.map p) (.map none) = Op.equalIn (9999 + 1) t (.map p) (.map none) from rfl, eqlIn_map_nil w 9999 t k e p h]
theorem assert_map (t xT k e : TypeId) (v : Value) (h : P.underlying t = some (.map k e)) : (Instr.typeAssert (.iface t v) xT t false).run P w = .ok v w := by
  simp [Instr.typeAssert, run_underlying h, go_sem, Result.andThen]
theorem extern_clone {r : Nat} {es : Array MapEntry} {clock : Nat} (t : TypeId) (hb : w.heap[r]? = some (.map es clock)) :
    (Extern.MapsClone.clone #[.iface t (.map (some r))]).run P w = .ok (.iface t (.map (some w.heap.size))) (w.alloc (.map es clock)) := by
  have e : Extern.MapsClone.clone #[.iface t (.map (some r))] = (getObj r >>= fun o => match o with
      | .map entries clock => (newObj (.map entries clock) >>= fun n => pure (.iface t (.map (some n))))
      | _ => stuck "maps.clone: a map expected") := rfl
  rw [e]
  simp [MapKept.run_getObj_map hb, Result.andThen, go_sem]
end
theorem clone_calls (b : Nat) (es : Array MapEntry) (clock : Nat) (w : World) (hb : w.heap[b]? = some (.map es clock)) :
    Calls P0 68 #[.map (some b)] w fun e w' => e = .returned (.map (some w.heap.size)) ∧ w' = w.alloc (.map es clock) := by
  have hu : Try.prog.underlying 72 = some (.map 77 9) := by kernel_rfl
  have hq := fun w => eql_map_nil (P := Try.prog) w 72 _ _ (some b) hu
  go_enter Try.func68, Try.ntmps68
  go_wp2
  rw [run_callFunc_extern Try.func84 (by kernel_rfl) (by kernel_rfl) (by kernel_rfl) (e := Extern.MapsClone.clone) (by kernel_rfl), extern_clone w 72 hb]
  simp only [Result.andThen]
  rw [Oper.upon_value]
  go_wp2
  rw [assert_map _ 72 20 _ _ _ hu]
  simp only [Result.andThen]
  rw [Oper.upon_value]
  go_wp2
  go_ret
  exact ⟨rfl, rfl⟩
theorem mapsClone [Bd] {ks vs : List T} (hfk : flats ks = true) (hfv : flats vs = true) (ho : ∀ x ∈ vs, x.one = true) : Con P0 68 [.mp ks vs] (.mr 0) [.map 77 9 (.own .leaf) ks vs none] := by
  refine ⟨⟨_, Try.func68, rfl, rfl⟩, ?_⟩
  intro w L M vals hv S F hr
  have hsz : vals.length = 1 := by simpa using hr.size
  obtain ⟨v, rfl⟩ : ∃ v, vals = [v] := List.length_eq_one_iff.1 hsz
  obtain ⟨Lt, ht, hLt⟩ := hr.tm 0
  have ht : footT w (.mp ks vs) v Lt := by simpa [numA, getL, footA] using ht
  simp only [footT] at ht
  obtain ⟨r, es, clock, l, L1, L2, rfl, hheap, ⟨p1, p2, p3, p4, p5⟩, f1, f2, rfl⟩ := ht
  have f1 := (flats_foot ks hfk f1).2
  have f2 := (flats_foot vs hfv f2).2
  refine (clone_calls r es clock w hheap).mono fun e w' ⟨he, hw⟩ => ?_
  subst hw
  have hones : ∀ en ∈ l, en.val.oneCell' = true := by
    intro en hen
    obtain ⟨i, hi⟩ := List.getElem?_of_mem hen
    have hlv := footTs_length (f2 w)
    rw [List.length_map] at hlv
    have hil := (List.getElem?_eq_some_iff.1 hi).1
    obtain ⟨u, L', q1, q2, _⟩ := footTs_get (f2 w) (List.getElem?_eq_getElem (by omega : i < vs.length))
    rw [List.getElem?_map, hi] at q1
    simp only [Option.map_some, Option.some.injEq] at q1
    rw [q1]
    exact T.one_value (ho _ (List.getElem_mem _)) q2
  have hlen : ks.length = vs.length := by
    have a := footTs_length (f1 w); have b := footTs_length (f2 w)
    rw [List.length_map] at a b
    omega
  obtain ⟨hv', _, h1, h2, h3⟩ := hr.new (Grew.alloc w (.map es clock)) (o := .map 77 9 (.own .leaf) ks vs none) (v := .map (some w.heap.size)) (Fi := [])
    (by intro b hb; simp [blkOf] at hb; subst hb; exact ⟨Nat.le_refl _, by simp⟩) rfl rfl (by simp) (by simp) (by
      intro hv' hB he hn'
      exact ⟨w.heap.size, es, clock, l, ⟨rfl, heap_alloc_new w _, p1, p2, p3, f1 _, hfk, p4, p5, hones⟩, els_leaf hfv (f2 _), hlen, by simp⟩)
  exact ⟨.map (some w.heap.size), hv', _, _, [], he, h3.no_tmp, by simp only [footA]; exact ⟨h2.symm, trivial⟩, by simp, by simp [AV.under]⟩
end Go.Proofs.Ytmgdkkhnjkepiaa.BX
namespace Go.Proofs.Ytmgdkkhnjkepiaa.BX
set_option linter.unusedSectionVars false
set_option linter.unusedSimpArgs false
set_option linter.unusedVariables false
open Go Go.RowKit
variable [Bd]
theorem Wk.clo0 {N : Nat} {σ : St} {id : Nat} {e : TypeId} {m : Nat} {s : Sh} (hid : σ.ob[id]? = some (.arr e m (.own s) [])) :
    Wk N σ { σ with ob := σ.ob.set id (.arr e m .clo []) } := by
  intro w0 hv S F a w _ hr
  have hlt : id < σ.ob.length := (List.getElem?_eq_some_iff.1 hid).1
  have get : ∀ {i : Nat} {o : Ob}, (σ.ob.set id (.arr e m .clo []))[i]? = some o → (i = id ∧ o = .arr e m .clo []) ∨ (i ≠ id ∧ σ.ob[i]? = some o) := by
    intro i o h
    by_cases hi : i = id
    · subst hi
      rw [List.getElem?_set_self hlt] at h
      cases h
      exact .inl ⟨rfl, rfl⟩
    · rw [List.getElem?_set_ne (fun h => hi h.symm)] at h
      exact .inr ⟨hi, h⟩
  refine ⟨hv, S, F, ?_⟩
  refine { hr with utm := fun t => ?_, ob := fun i o h => ?_, uob := fun i o h => ?_, root := fun i o h hd => ?_, sep := fun i j oi oj hij hi hj hdi hdj => ?_, fown := fun i o h ho => ?_, fsep := fun i j oi oj hij hi hj hoi hoj => ?_, an := ?_ }
  · rw [List.length_set]; exact hr.utm t
  · rcases get h with ⟨rfl, rfl⟩ | ⟨_, h⟩
    · obtain ⟨vs, h1, ⟨L, h2, _⟩, h3, h4⟩ := hr.ob _ _ hid
      simp only [ownEs] at h2
      obtain ⟨rfl, _⟩ := h2
      exact ⟨[], h1, ⟨[], by simp only [footTs]; exact ⟨trivial, trivial⟩, by simp⟩, h3, h4⟩
    · exact hr.ob i o h
  · rw [List.length_set]
    rcases get h with ⟨rfl, rfl⟩ | ⟨_, h⟩
    · rfl
    · exact hr.uob i o h
  · rcases get h with ⟨rfl, rfl⟩ | ⟨_, h⟩
    · exact hr.root _ _ hid (by simp)
    · exact hr.root i o h hd
  · have hi' : ∃ oi', σ.ob[i]? = some oi' ∧ oi' ≠ .dead := by
      rcases get hi with ⟨rfl, rfl⟩ | ⟨_, h⟩
      · exact ⟨_, hid, by simp⟩
      · exact ⟨_, h, hdi⟩
    have hj' : ∃ oj', σ.ob[j]? = some oj' ∧ oj' ≠ .dead := by
      rcases get hj with ⟨rfl, rfl⟩ | ⟨_, h⟩
      · exact ⟨_, hid, by simp⟩
      · exact ⟨_, h, hdj⟩
    obtain ⟨oi', a1, a2⟩ := hi'
    obtain ⟨oj', b1, b2⟩ := hj'
    exact hr.sep i j oi' oj' hij a1 b1 a2 b2
  · rcases get h with ⟨rfl, rfl⟩ | ⟨_, h⟩
    · cases ho
    · exact hr.fown i o h ho
  · rcases get hi with ⟨rfl, rfl⟩ | ⟨_, h1⟩
    · cases hoi
    · rcases get hj with ⟨rfl, rfl⟩ | ⟨_, h2⟩
      · cases hoj
      · exact hr.fsep i j oi oj hij h1 h2 hoi hoj
  · rw [List.length_set]; exact hr.an
end Go.Proofs.Ytmgdkkhnjkepiaa.BX
namespace Go.Proofs.Ytmgdkkhnjkepiaa.BX
set_option linter.unusedSectionVars false
set_option linter.unusedSimpArgs false
set_option linter.unusedVariables false
open Go Go.RowKit
set_option maxRecDepth 20000
set_option maxHeartbeats 400000
theorem chM_len {m : List (SlotK × List UInt8)} {e : Entry} : (chM m e).length ≤ m.length + 1 := by
  unfold chM
  split
  · have := (adel_sub (k := e.slot) (l := m)).length_le; omega
  · exact aset_len.2
theorem patchM_snoc {m : List (SlotK × List UInt8)} {ch : List Entry} {i : Nat} {e : Entry} (h : ch[i]? = some e) : patchM m (ch.take (i + 1)) = chM (patchM m (ch.take i)) e := by
  unfold patchM
  rw [List.take_add_one, h, List.foldl_append]
  rfl
theorem patchM_len {ch : List Entry} : ∀ {m : List (SlotK × List UInt8)}, (patchM m ch).length ≤ m.length + ch.length := by
  induction ch with
  | nil => intro m; simp [patchM]
  | cons e ch ih =>
    intro m
    have h1 := chM_len (m := m) (e := e)
    have h2 := ih (m := chM m e)
    simp only [List.length_cons]
    show (patchM (chM m e) ch).length ≤ _
    omega
theorem flats_map {α : Type} {f : α → T} (h : ∀ x, (f x).flat = true) : ∀ {l : List α}, flats (l.map f) = true
  | [] => rfl
  | x :: r => by
    simp only [List.map_cons, flats, Bool.and_eq_true]
    exact ⟨h x, flats_map h⟩
def fullM (gs : List Group) (i : Nat) : List (SlotK × List UInt8) := match gs[i]? with
  | none => []
  | some g => if _h : 0 ≤ g.parent ∧ g.parent.toNat < i then patchM (fullM gs g.parent.toNat) g.sets else patchM [] g.sets
termination_by i
decreasing_by exact _h.2
theorem fullM_eq {gs : List Group} {i : Nat} {g : Group} (h : gs[i]? = some g) : fullM gs i = if 0 ≤ g.parent ∧ g.parent.toNat < i then patchM (fullM gs g.parent.toNat) g.sets else patchM [] g.sets := by
  rw [fullM, h]
  simp only [dite_eq_ite]
def lvT (m : List (SlotK × List UInt8)) : T := .mp (m.map fun p => eK p.1) (m.map fun p => T.s p.2)
def nodeOf (gs : List Group) (i : Nat) : T := match gs[i]? with
  | none => .np
  | some g => .po (.ag [if _h : 0 ≤ g.parent ∧ g.parent.toNat < i then nodeOf gs g.parent.toNat else .np, eEntryS g.sets, .i .i64 (linksOf gs i), lvT (fullM gs i)]) 0
termination_by i
decreasing_by exact _h.2
theorem nodeOf_eq {gs : List Group} {i : Nat} {g : Group} (h : gs[i]? = some g) : nodeOf gs i = .po (.ag [if 0 ≤ g.parent ∧ g.parent.toNat < i then nodeOf gs g.parent.toNat else .np, eEntryS g.sets, .i .i64 (linksOf gs i), lvT (fullM gs i)]) 0 := by
  rw [nodeOf, h]
  simp only [dite_eq_ite]
theorem fullM_is {gs : List Group} : ∀ (i : Nat), Ups gs i → ∀ g, gs[i]? = some g → g.parent < i → inOrd g.sets = true → (g.parent < 0 → stateOk g.sets = true) → Is (fullM gs i) (expandOf gs i) := by
  intro i
  induction i using Nat.strongRecOn with
  | ind i ih =>
  intro hu g hg hp ho hb
  rw [fullM_eq hg, expandOf_eq hg]
  split
  · rename_i hc
    obtain ⟨p, hgp⟩ : ∃ p, gs[g.parent.toNat]? = some p := ⟨_, List.getElem?_eq_getElem (by have := (List.getElem?_eq_some_iff.1 hg).1; omega)⟩
    have hk := hu _ hc.2 p hgp
    exact (ih _ hc.2 (fun j hj => hu j (by omega)) p hgp hk.hi hk.ord fun hn => hk.base (by have := hk.lo; omega)).patch
  · exact Is.base (hb (by omega))
variable [Bd]
abbrev lvO (m : List (SlotK × List UInt8)) : Ob := .map 77 9 (.own .leaf) (m.map fun p => eK p.1) (m.map fun p => T.s p.2) none
theorem livePatch (m : List (SlotK × List UInt8)) (ch : List Entry) (hl : m.length + ch.length < Bd.B) : ConM P0 69 [.mr 0, .t (eEntryS ch)] [lvO m] (.tp []) [lvO (patchM m ch)] := by
  refine ConM.intro (fn := Try.f69) [] (fun _ => (0, [])) mixed (by kernel_rfl) rfl (by decide) rfl (by rfl) (by kernel_rfl) ?_
  simp -implicitDefEqProofs (maxSteps := 2000000) only [push_cast, Nat.reduceEqDiff, Nat.reduceLT, Nat.reduceLeDiff, Nat.reduceAdd, Nat.reduceMul, Nat.reduceSub, Nat.reduceBEq, ↓reduceIte, reduceCtorEq]
  intro hlc
  refine WL.loop (ι := Nat) (D := (fun _ => (0, []))) (fun i => i ≤ ch.length) (fun i => ⟨28, [(9, .t (.i .i64 i)), (8, .t (.i .i64 ch.length)), (7, .t (eEntryS ch)), (0, .mr 0)], [lvO (patchM m (ch.take i))]⟩) (fun i => ch.length - i) mixed (by kernel_rfl) 0 (by omega) (Keep.wk (ids := [some 0]) ?_) ?_
  · simp only [push_cast, Nat.reduceEqDiff, Nat.reduceLT, Nat.reduceLeDiff, Nat.reduceAdd, Nat.reduceMul, Nat.reduceSub, Nat.reduceBEq, ↓reduceIte, reduceCtorEq, patchM, List.take_zero, List.foldl_nil] <;> rfl
  · intro i hi
    simp -implicitDefEqProofs (maxSteps := 2000000) only [push_cast, Nat.reduceEqDiff, Nat.reduceLT, Nat.reduceLeDiff, Nat.reduceAdd, Nat.reduceMul, Nat.reduceSub, Nat.reduceBEq, ↓reduceIte, reduceCtorEq, eEntry]
    split
    · rename_i h
      refine ⟨by omega, fun a ha => ?_⟩
      rw [Int.toNat_natCast] at ha
      have hlen := patchM_len (m := m) (ch := ch.take i)
      rw [List.length_take] at hlen
      have hs := patchM_snoc (m := m) ha
      have hb := Bd.hi
      obtain ⟨hu1, hu2⟩ := upd_assoc (ek := eK) (ev := T.s) eK_inj (k := a.slot) (v := a.id) (l := patchM m (ch.take i))
      obtain ⟨hd1, hd2⟩ := del_assoc (ek := eK) (ev := T.s) eK_inj (k := a.slot) (l := patchM m (ch.take i))
      have hk : T.ag [T.s a.typ, T.s a.key] = eK a.slot := rfl
      rw [hk, hu1, hu2, hd1, hd2]
      split
      · rename_i hid
        have hc : chM (patchM m (ch.take i)) a = adel a.slot (patchM m (ch.take i)) := by unfold chM; rw [if_pos hid]
        rw [← hc, ← hs]
        refine ⟨by unfold inI64; omega, i + 1, by omega, by omega, Keep.wk (ids := [some 0]) ?_⟩
        simp only [push_cast, Nat.reduceEqDiff, Nat.reduceLT, Nat.reduceLeDiff, Nat.reduceAdd, Nat.reduceMul, Nat.reduceSub, Nat.reduceBEq, ↓reduceIte, reduceCtorEq] <;> rfl
      · rename_i hid
        have hc : chM (patchM m (ch.take i)) a = aset a.slot a.id (patchM m (ch.take i)) := by unfold chM; rw [if_neg hid]
        rw [← hc, ← hs]
        refine ⟨fun _ => by omega, by unfold inI64; omega, i + 1, by omega, by omega, Keep.wk (ids := [some 0]) ?_⟩
        simp only [push_cast, Nat.reduceEqDiff, Nat.reduceLT, Nat.reduceLeDiff, Nat.reduceAdd, Nat.reduceMul, Nat.reduceSub, Nat.reduceBEq, ↓reduceIte, reduceCtorEq] <;> rfl
    · have hi : i = ch.length := by omega
      subst hi
      rw [List.take_length]
      exact Close.of [some 0] rfl rfl rfl rfl (by simp only [push_cast, Nat.reduceEqDiff, Nat.reduceLT, Nat.reduceLeDiff, Nat.reduceAdd, Nat.reduceMul, Nat.reduceSub, Nat.reduceBEq, ↓reduceIte, reduceCtorEq] <;> rfl)
def nodesT (gs : List Group) (n : Nat) : List T := (List.range n).map (nodeOf gs)
theorem nodesOf (gs : List Group) (hB : Bd.B ≤ 2147483648) : Con P0 39 [eStore ⟨gs⟩] (.t (.tp [.sl (if storeOk gs = true then nodesT gs gs.length else []), .b (storeOk gs)])) [] := by
  refine Con.intro (fn := Try.f39) [.tmp 2, .tmp 3] (fun i => if i = 16 then (6, []) else (0, [])) mixed (by kernel_rfl) rfl (by decide) rfl (by rfl) (by kernel_rfl) ?_
  simp -implicitDefEqProofs (maxSteps := 2000000) only [push_cast, Nat.reduceEqDiff, Nat.reduceLT, Nat.reduceLeDiff, Nat.reduceAdd, Nat.reduceMul, Nat.reduceSub, Nat.reduceBEq, ↓reduceIte, reduceCtorEq, eStore]
  have := Bd.lo
  intro hlen
  split
  · rename_i h
    have hf : storeOk gs = false := by
      simp only [storeOk]
      rw [decide_eq_false (by omega)]
      rfl
    rw [hf]; rfl
  rename_i hm
  refine ⟨rfl, by omega, fun _ => ?_⟩
  refine WL.loop (ι := Nat) (D := (fun i => if i = 16 then (6, []) else (0, []))) (fun i => i ≤ gs.length ∧ Ups gs i) (fun i => ⟨104, [(1, .rf 0 0), (4, .sr 1), (14, .t (eGroupS gs)), (15, .t (.i .i64 gs.length)), (16, .t (.i .i64 i))], [.box (.t (eStore ⟨gs⟩)), .arr 74 1 .clo (nodesT gs i)]⟩) (fun i => gs.length - i) mixed (by kernel_rfl) 0 ⟨by omega, fun j hj => absurd hj (by omega)⟩ (Wk.trans (Wk.clo0 (id := 1) rfl) (Keep.wk (ids := [some 0, some 1]) ?_)) ?_
  · simp only [push_cast, Nat.reduceEqDiff, Nat.reduceLT, Nat.reduceLeDiff, Nat.reduceAdd, Nat.reduceMul, Nat.reduceSub, Nat.reduceBEq, ↓reduceIte, reduceCtorEq, eStore, nodesT, List.range_zero, List.map_nil, List.set_cons_succ, List.set_cons_zero] <;> rfl
  · rintro i ⟨hi, hu⟩
    simp -implicitDefEqProofs (maxSteps := 2000000) only [push_cast, Nat.reduceEqDiff, Nat.reduceLT, Nat.reduceLeDiff, Nat.reduceAdd, Nat.reduceMul, Nat.reduceSub, Nat.reduceBEq, ↓reduceIte, reduceCtorEq, eStore, eGroup]
    have hno : ∀ g, gs[i]? = some g → ¬ OkAt gs i g → storeOk gs = false := by
      intro g hg hn
      simp only [storeOk]
      rw [Bool.and_eq_false_iff]
      refine .inr (@decide_eq_false _ (Classical.propDecidable _) fun h => hn (h i ?_ g hg))
      exact (List.getElem?_eq_some_iff.1 hg).1
    split
    case isFalse =>
      have hi : i = gs.length := by omega
      subst hi
      have ht : storeOk gs = true := by
        simp only [storeOk]
        rw [decide_eq_true (by omega), @decide_eq_true _ (Classical.propDecidable _) hu]
        rfl
      rw [ht]; rfl
    rename_i h
    refine ⟨by omega, fun g hg => ?_⟩
    rw [Int.toNat_natCast] at hg
    split
    · rename_i h1
      split
      · rename_i h2
        rw [hno g hg fun h => absurd h.lo (by omega)]; rfl
      split
      · rename_i h2
        rw [hno g hg fun h => absurd h.hi (by omega)]; rfl
      refine Callx.closed (implChangesOk g.sets) rfl rfl (.inl rfl) ?_
      simp -implicitDefEqProofs (maxSteps := 2000000) only [push_cast, Nat.reduceEqDiff, Nat.reduceLT, Nat.reduceLeDiff, Nat.reduceAdd, Nat.reduceMul, Nat.reduceSub, Nat.reduceBEq, ↓reduceIte, reduceCtorEq]
      split
      · rename_i h3
        rw [hno g hg fun h => ?_]
        · rfl
        have h4 := h.len
        rw [h.ord, decide_eq_true (by omega)] at h3
        simp at h3
      rename_i h2 h2' h3
      have hc : g.sets.length ≤ 600 ∧ inOrd g.sets = true := by
        simp only [Bool.not_eq_true', Bool.not_eq_false, Bool.and_eq_true, decide_eq_true_eq] at h3
        exact ⟨by omega, h3.2⟩
      obtain ⟨p, hgp⟩ : ∃ p, gs[g.parent.toNat]? = some p := ⟨_, List.getElem?_eq_getElem (by omega)⟩
      have hk := hu _ (by omega) p hgp
      obtain ⟨up, hup⟩ : ∃ up, nodeOf gs g.parent.toNat = .po (.ag [up, eEntryS p.sets, .i .i64 (linksOf gs g.parent.toNat), lvT (fullM gs g.parent.toNat)]) 0 := ⟨_, nodeOf_eq hgp⟩
      have hnl : (nodesT gs i).length = i := by simp [nodesT]
      have hpl := linksOf_le (gs := gs) g.parent.toNat
      refine ⟨by omega, by omega, fun y hy => ?_⟩
      have hy' : y = .po (.ag [up, eEntryS p.sets, .i .i64 (linksOf gs g.parent.toNat), lvT (fullM gs g.parent.toNat)]) 0 := by
        rw [← hup]
        unfold nodesT at hy
        rw [List.getElem?_map, List.getElem?_range (by omega)] at hy
        simpa using hy.symm
      subst hy'
      simp -implicitDefEqProofs (maxSteps := 2000000) only [push_cast, Nat.reduceEqDiff, Nat.reduceLT, Nat.reduceLeDiff, Nat.reduceAdd, Nat.reduceMul, Nat.reduceSub, Nat.reduceBEq, ↓reduceIte, reduceCtorEq]
      refine ⟨by unfold inI64; omega, ?_⟩
      refine Callx.closed (mapsClone (ks := (fullM gs g.parent.toNat).map fun p => eK p.1) (vs := (fullM gs g.parent.toNat).map fun p => T.s p.2) ?_ ?_ ?_) rfl rfl (.inl rfl) ?_
      · exact flats_map fun _ => rfl
      · exact flats_map fun _ => rfl
      · rintro x hx
        obtain ⟨q, _, rfl⟩ := List.mem_map.1 hx
        rfl
      simp -implicitDefEqProofs (maxSteps := 2000000) only [push_cast, Nat.reduceEqDiff, Nat.reduceLT, Nat.reduceLeDiff, Nat.reduceAdd, Nat.reduceMul, Nat.reduceSub, Nat.reduceBEq, ↓reduceIte, reduceCtorEq]
      have hip := fullM_is g.parent.toNat (fun j hj => hu j (by omega)) p hgp hk.hi hk.ord fun hn => hk.base (by have := hk.lo; omega)
      have hfl := hk.full
      rw [← hip.len] at hfl
      refine Callx.hand [5] (livePatch (fullM gs g.parent.toNat) g.sets (by omega)) (by decide) (by simp only [push_cast, Nat.reduceEqDiff, Nat.reduceLT, Nat.reduceLeDiff, Nat.reduceAdd, Nat.reduceMul, Nat.reduceSub, Nat.reduceBEq, ↓reduceIte, reduceCtorEq]) rfl rfl (by simp only [push_cast, Nat.reduceEqDiff, Nat.reduceLT, Nat.reduceLeDiff, Nat.reduceAdd, Nat.reduceMul, Nat.reduceSub, Nat.reduceBEq, ↓reduceIte, reduceCtorEq] <;> rfl) rfl (.inr ⟨rfl, by simp only [push_cast, Nat.reduceEqDiff, Nat.reduceLT, Nat.reduceLeDiff, Nat.reduceAdd, Nat.reduceMul, Nat.reduceSub, Nat.reduceBEq, ↓reduceIte, reduceCtorEq]⟩) ?_
      have hle := linksOf_eq hg
      rw [if_pos (by omega)] at hle
      have hfe := fullM_eq hg
      rw [if_pos (by omega)] at hfe
      have hoi := hc.2
      have hli := hc.1
      have hbi : g.parent < 0 → stateOk g.sets = true := fun hh => absurd hh (by omega)
      simp -implicitDefEqProofs (maxSteps := 2000000) only [push_cast, Nat.reduceEqDiff, Nat.reduceLT, Nat.reduceLeDiff, Nat.reduceAdd, Nat.reduceMul, Nat.reduceSub, Nat.reduceBEq, ↓reduceIte, reduceCtorEq]
      split
      · rename_i h6
        rw [hno g hg fun h => absurd h.links (by omega)]; rfl
      rename_i h6
      intro _
      split
      · rename_i h7
        rw [hno g hg fun h => ?_]
        · rfl
        have hq := (fullM_is i hu g hg (by omega) hoi hbi).len
        have := h.full
        rw [hfe] at hq
        omega
      rename_i h7
      have hei := (fullM_is i hu g hg (by omega) hoi hbi).len
      rw [hfe] at hei
      have hne := nodeOf_eq hg
      have hle' : ((linksOf gs i : Nat) : Int) = (linksOf gs g.parent.toNat : Int) + 1 := by omega
      rw [if_pos (by omega), hup, hfe, hle'] at hne
      refine ⟨rfl, by omega, rfl, by omega, by omega, by unfold inI64; omega, i + 1, ⟨by omega, fun j hj x hx => ?_⟩, by omega, Keep.wk (ids := [some 0, some 7]) ?_⟩
      · rcases Nat.lt_or_ge j i with hj' | hj'
        · exact hu j hj' x hx
        · have hji : j = i := by omega
          subst hji
          rw [hg] at hx; cases hx
          exact ⟨by omega, by omega, hli, hoi, fun hh => hbi (by omega), by omega, by omega⟩
      · have hsn : nodesT gs (i + 1) = nodesT gs i ++ [nodeOf gs i] := by simp [nodesT, List.range_succ]
        rw [hsn, hne]
        simp only [push_cast, Nat.reduceEqDiff, Nat.reduceLT, Nat.reduceLeDiff, Nat.reduceAdd, Nat.reduceMul, Nat.reduceSub, Nat.reduceBEq, ↓reduceIte, reduceCtorEq, eStore, lvT, List.map_nil] <;> rfl
    · rename_i h1
      have hpe : g.parent = -1 := by omega
      refine Callx.closed (implStateOk g.sets) rfl rfl (.inl rfl) ?_
      simp -implicitDefEqProofs (maxSteps := 2000000) only [push_cast, Nat.reduceEqDiff, Nat.reduceLT, Nat.reduceLeDiff, Nat.reduceAdd, Nat.reduceMul, Nat.reduceSub, Nat.reduceBEq, ↓reduceIte, reduceCtorEq]
      split
      · rename_i h3
        rw [hno g hg fun h => ?_]
        · rfl
        rw [h.base hpe] at h3
        simp at h3
      rename_i h3
      have hst : stateOk g.sets = true := by simpa using h3
      obtain ⟨hoi, hl3, _⟩ := stateOk_ord hst
      have hli : g.sets.length ≤ 600 := by omega
      have hbi : g.parent < 0 → stateOk g.sets = true := fun _ => hst
      have hle := linksOf_eq hg
      rw [if_neg (by omega)] at hle
      have hfe := fullM_eq hg
      rw [if_neg (by omega)] at hfe
      have hnl : (nodesT gs i).length = i := by simp [nodesT]
      refine Callx.hand [3] (livePatch [] g.sets (by simp only [List.length_nil]; omega)) (by decide) (by simp only [push_cast, Nat.reduceEqDiff, Nat.reduceLT, Nat.reduceLeDiff, Nat.reduceAdd, Nat.reduceMul, Nat.reduceSub, Nat.reduceBEq, ↓reduceIte, reduceCtorEq]) rfl rfl (by simp only [push_cast, Nat.reduceEqDiff, Nat.reduceLT, Nat.reduceLeDiff, Nat.reduceAdd, Nat.reduceMul, Nat.reduceSub, Nat.reduceBEq, ↓reduceIte, reduceCtorEq] <;> rfl) rfl (.inr ⟨rfl, by simp only [push_cast, Nat.reduceEqDiff, Nat.reduceLT, Nat.reduceLeDiff, Nat.reduceAdd, Nat.reduceMul, Nat.reduceSub, Nat.reduceBEq, ↓reduceIte, reduceCtorEq]⟩) ?_
      simp -implicitDefEqProofs (maxSteps := 2000000) only [push_cast, Nat.reduceEqDiff, Nat.reduceLT, Nat.reduceLeDiff, Nat.reduceAdd, Nat.reduceMul, Nat.reduceSub, Nat.reduceBEq, ↓reduceIte, reduceCtorEq]
      split
      · rename_i h6
        rw [hno g hg fun h => absurd h.links (by omega)]; rfl
      rename_i h6
      intro _
      split
      · rename_i h7
        rw [hno g hg fun h => ?_]
        · rfl
        have hq := (fullM_is i hu g hg (by omega) hoi hbi).len
        have := h.full
        rw [hfe] at hq
        omega
      rename_i h7
      have hei := (fullM_is i hu g hg (by omega) hoi hbi).len
      rw [hfe] at hei
      have hne := nodeOf_eq hg
      rw [if_neg (by omega), hfe, hle] at hne
      refine ⟨rfl, by omega, rfl, by omega, by omega, by unfold inI64; omega, i + 1, ⟨by omega, fun j hj x hx => ?_⟩, by omega, Keep.wk (ids := [some 0, some 6]) ?_⟩
      · rcases Nat.lt_or_ge j i with hj' | hj'
        · exact hu j hj' x hx
        · have hji : j = i := by omega
          subst hji
          rw [hg] at hx; cases hx
          exact ⟨by omega, by omega, hli, hoi, fun hh => hbi (by omega), by omega, by omega⟩
      · have hsn : nodesT gs (i + 1) = nodesT gs i ++ [nodeOf gs i] := by simp [nodesT, List.range_succ]
        rw [hsn, hne]
        simp only [push_cast, Nat.reduceEqDiff, Nat.reduceLT, Nat.reduceLeDiff, Nat.reduceAdd, Nat.reduceMul, Nat.reduceSub, Nat.reduceBEq, ↓reduceIte, reduceCtorEq, eStore, lvT, List.map_nil] <;> rfl
theorem implStoreOk (gs : List Group) (hB : Bd.B ≤ 2147483648) : Con P0 9 [eStore ⟨gs⟩] (.t (.b (storeOk gs))) [] := by
  refine Con.intro (fn := Try.f9) [.tmp 2] (fun _ => (0, [])) mixed (by kernel_rfl) rfl (by decide) rfl (by rfl) (by kernel_rfl) ?_
  simp -implicitDefEqProofs (maxSteps := 2000000) only [push_cast, Nat.reduceEqDiff, Nat.reduceLT, Nat.reduceLeDiff, Nat.reduceAdd, Nat.reduceMul, Nat.reduceSub, Nat.reduceBEq, ↓reduceIte, reduceCtorEq, eStore]
  refine Callx.closed (nodesOf gs hB) rfl rfl (.inl rfl) ?_
  simp -implicitDefEqProofs (maxSteps := 2000000) only [push_cast, Nat.reduceEqDiff, Nat.reduceLT, Nat.reduceLeDiff, Nat.reduceAdd, Nat.reduceMul, Nat.reduceSub, Nat.reduceBEq, ↓reduceIte, reduceCtorEq]
end Go.Proofs.Ytmgdkkhnjkepiaa.BX
namespace Go.Proofs.Ytmgdkkhnjkepiaa.BX
set_option linter.unusedSectionVars false
set_option linter.unusedSimpArgs false
set_option linter.unusedVariables false
open Go Go.RowKit
set_option maxRecDepth 20000
set_option maxHeartbeats 400000
def ofPair (p : SlotK × List UInt8) : Entry := ⟨p.1.1, p.1.2, p.2⟩
theorem permE_pairs {l s : List Entry} (h : List.Perm (l.map Entry.pair) (s.map Entry.pair)) : List.Perm l s := by
  have := h.map ofPair
  rw [List.map_map, List.map_map] at this
  have e : (ofPair ∘ Entry.pair) = id := rfl
  rwa [e, List.map_id, List.map_id] at this
def lvP (p : SlotK × List UInt8) : T × T := (eK p.1, T.s p.2)
theorem lv_zip {m : List (SlotK × List UInt8)} : (m.map fun p => eK p.1).zip (m.map fun p => T.s p.2) = m.map lvP := by
  induction m with
  | nil => rfl
  | cons p m ih => simp only [List.map_cons, List.zip_cons_cons, ih]; rfl
theorem eraseE_map {α β : Type} {f : α → β} : ∀ {l : List α} {i : Nat}, (l.map f).eraseIdx i = (l.eraseIdx i).map f
  | [], _ => rfl
  | _ :: _, 0 => rfl
  | x :: l, i + 1 => by simp only [List.map_cons, List.eraseIdx_cons_succ, eraseE_map]
theorem erase_pick {α : Type} : ∀ {l : List α} {i : Nat} {x : α}, l[i]? = some x → List.Perm l (x :: l.eraseIdx i)
  | [], _, _, h => by simp at h
  | y :: l, 0, x, h => by simp at h; subst h; simp
  | y :: l, i + 1, x, h => by
    simp only [List.getElem?_cons_succ] at h
    simp only [List.eraseIdx_cons_succ]
    exact ((erase_pick h).cons y).trans (List.Perm.swap ..)
variable [Bd]
theorem liveList (m : List (SlotK × List UInt8)) (s : List Entry) (hB : Bd.B ≤ 2147483648) (hm : m.length < 1048576) (hi : Is m s) : Con P0 45 [lvT m] (.sr 0) [.arr 38 3 (.own (.ag [.leaf, .leaf, .leaf])) (s.map eEntry)] := by
  refine Con.intro (fn := Try.f45) [.tmp 2] (fun _ => (0, [])) mixed (by kernel_rfl) rfl (by decide) rfl (by rfl) (by kernel_rfl) ?_
  simp -implicitDefEqProofs (maxSteps := 2000000) only [push_cast, Nat.reduceEqDiff, Nat.reduceLT, Nat.reduceLeDiff, Nat.reduceAdd, Nat.reduceMul, Nat.reduceSub, Nat.reduceBEq, ↓reduceIte, reduceCtorEq, lvT]
  have := Bd.lo
  refine ⟨rfl, by omega, ?_⟩
  rw [lv_zip]
  refine WL.loop (ι := List Entry × List (SlotK × List UInt8)) (D := (fun _ => (0, []))) (fun x => List.Perm (x.1.map Entry.pair ++ x.2) m) (fun x => ⟨26, [(3, .sr 0), (8, .it 1)], [.arr 38 3 (.own (.ag [.leaf, .leaf, .leaf])) (x.1.map eEntry), .iter none (x.2.map lvP)]⟩) (fun x => x.2.length) mixed (by kernel_rfl) ([], m) (by simp) (Keep.wk (ids := [some 0, some 1]) ?_) ?_
  · simp only [push_cast, Nat.reduceEqDiff, Nat.reduceLT, Nat.reduceLeDiff, Nat.reduceAdd, Nat.reduceMul, Nat.reduceSub, Nat.reduceBEq, ↓reduceIte, reduceCtorEq, List.map_nil] <;> trivial
  · rintro ⟨l, r⟩ hp
    dsimp only at hp ⊢
    simp -implicitDefEqProofs (maxSteps := 2000000) only [push_cast, Nat.reduceEqDiff, Nat.reduceLT, Nat.reduceLeDiff, Nat.reduceAdd, Nat.reduceMul, Nat.reduceSub, Nat.reduceBEq, ↓reduceIte, reduceCtorEq]
    have hlen := hp.length_eq
    rw [List.length_append, List.length_map] at hlen
    refine ⟨fun h0 => ?_, fun i p hip => ?_⟩
    · have hr : r = [] := by simpa using h0
      subst hr
      rw [List.append_nil] at hp
      refine Callx.hand [0] (sortE l s hB (permE_pairs (hp.trans hi.1)) hi.2) (by decide) (by simp only [push_cast, Nat.reduceEqDiff, Nat.reduceLT, Nat.reduceLeDiff, Nat.reduceAdd, Nat.reduceMul, Nat.reduceSub, Nat.reduceBEq, ↓reduceIte, reduceCtorEq]) rfl rfl (by simp only [push_cast, Nat.reduceEqDiff, Nat.reduceLT, Nat.reduceLeDiff, Nat.reduceAdd, Nat.reduceMul, Nat.reduceSub, Nat.reduceBEq, ↓reduceIte, reduceCtorEq] <;> rfl) rfl (.inr ⟨rfl, by simp only [push_cast, Nat.reduceEqDiff, Nat.reduceLT, Nat.reduceLeDiff, Nat.reduceAdd, Nat.reduceMul, Nat.reduceSub, Nat.reduceBEq, ↓reduceIte, reduceCtorEq]⟩) ?_
      simp -implicitDefEqProofs (maxSteps := 2000000) only [push_cast, Nat.reduceEqDiff, Nat.reduceLT, Nat.reduceLeDiff, Nat.reduceAdd, Nat.reduceMul, Nat.reduceSub, Nat.reduceBEq, ↓reduceIte, reduceCtorEq]
      exact Close.of [some 0] rfl rfl rfl rfl (by simp only [push_cast, Nat.reduceEqDiff, Nat.reduceLT, Nat.reduceLeDiff, Nat.reduceAdd, Nat.reduceMul, Nat.reduceSub, Nat.reduceBEq, ↓reduceIte, reduceCtorEq] <;> rfl)
    · rw [List.getElem?_map, Option.map_eq_some_iff] at hip
      obtain ⟨q, hq, rfl⟩ := hip
      simp -implicitDefEqProofs (maxSteps := 2000000) only [push_cast, Nat.reduceEqDiff, Nat.reduceLT, Nat.reduceLeDiff, Nat.reduceAdd, Nat.reduceMul, Nat.reduceSub, Nat.reduceBEq, ↓reduceIte, reduceCtorEq, lvP, eK]
      have hil := (List.getElem?_eq_some_iff.1 hq).1
      have hpl := erase_pick hq
      refine ⟨rfl, by omega, rfl, by omega, by omega, (l ++ [ofPair q], r.eraseIdx i), ?_, by dsimp only; rw [List.length_eraseIdx, if_pos hil]; omega, Keep.wk (ids := [some 4, some 1]) ?_⟩
      · dsimp only
        rw [List.map_append, List.append_assoc]
        exact ((hpl.symm).append_left _).trans hp
      · simp only [push_cast, Nat.reduceEqDiff, Nat.reduceLT, Nat.reduceLeDiff, Nat.reduceAdd, Nat.reduceMul, Nat.reduceSub, Nat.reduceBEq, ↓reduceIte, reduceCtorEq, List.map_append, eraseE_map] <;> exact ⟨rfl, rfl⟩
end Go.Proofs.Ytmgdkkhnjkepiaa.BX
namespace Go.Proofs.Ytmgdkkhnjkepiaa.BX
set_option linter.unusedSectionVars false
set_option linter.unusedSimpArgs false
set_option linter.unusedVariables false
open Go Go.RowKit
set_option maxRecDepth 20000
set_option maxHeartbeats 400000
theorem live_patch {s : List Entry} (h : stateOk s = true) : live s = patchM [] s := (patchM_live (stateOk_ord h).2.2).symm
variable [Bd]
end Go.Proofs.Ytmgdkkhnjkepiaa.BX
namespace Go.Proofs.Ytmgdkkhnjkepiaa.BX
set_option linter.unusedSectionVars false
set_option linter.unusedSimpArgs false
set_option linter.unusedVariables false
open Go Go.RowKit
set_option maxRecDepth 20000
set_option maxHeartbeats 400000
def d1 (b a : List Entry) : List Entry := a.filterMap fun e => if findId e.slot b ≠ e.id then some ⟨e.typ, e.key, findId e.slot b⟩ else none
def d2 (a b : List Entry) : List Entry := b.filter fun e => decide (e.slot ∉ a.map Entry.slot)
def putsL (s ch : List Entry) : List Entry := ch.foldl (fun o e => setL o e true) s
def deltaL (a b : List Entry) : List Entry := putsL [] (d1 b a ++ d2 a b)
theorem putsL_snoc {s ch : List Entry} {e : Entry} : putsL s (ch ++ [e]) = setL (putsL s ch) e true := by simp [putsL, List.foldl_append]
theorem putsL_ord {ch : List Entry} : ∀ {s : List Entry}, Ordered s → Ordered (putsL s ch) ∧ (putsL s ch).length ≤ s.length + ch.length := by
  induction ch with
  | nil => intro s h; exact ⟨h, by simp [putsL]⟩
  | cons e ch ih =>
    intro s h
    have h1 := (setL_spec (e := e) (keep := true) h).1
    have h2 := setL_len_ord (e := e) (keep := true) h
    have h3 := ih h1
    refine ⟨h3.1, ?_⟩
    have h4 := h3.2
    simp only [List.length_cons]
    show (putsL (setL s e true) ch).length ≤ _
    omega
theorem putsL_pairs {ch : List Entry} : ∀ {s : List Entry}, Ordered s → (ch.map Entry.slot).Nodup → (∀ e ∈ ch, e.slot ∉ s.map Entry.slot) → List.Perm ((putsL s ch).map Entry.pair) (s.map Entry.pair ++ ch.map Entry.pair) := by
  induction ch with
  | nil => intro s _ _ _; simp [putsL]
  | cons e ch ih =>
    intro s h hn hd
    simp only [List.map_cons, List.nodup_cons] at hn
    have h1 := setL_spec (e := e) (keep := true) h
    have hm : ((s.map Entry.pair).map (·.1)) = s.map Entry.slot := by rw [List.map_map]; rfl
    have h2 := h1.2.1 (by simp)
    rw [aset_new (by rw [hm]; exact hd e (by simp))] at h2
    have hslots : ∀ k, k ∈ (setL s e true).map Entry.slot → k ∈ s.map Entry.slot ∨ k = e.slot := by
      intro k hk
      obtain ⟨x, hx, rfl⟩ := List.mem_map.1 hk
      rcases setL_mem hx with hx | hx
      · exact .inl (List.mem_map_of_mem hx)
      · rw [hx]; exact .inr rfl
    have h3 := ih h1.1 hn.2 (fun x hx hk => by
      rcases hslots _ hk with hk | hk
      · exact hd x (by simp [hx]) hk
      · exact hn.1 (hk ▸ List.mem_map_of_mem hx))
    refine h3.trans ?_
    refine (h2.append_right _).trans ?_
    rw [List.append_assoc]
    exact List.Perm.refl _
theorem d1_len {b a : List Entry} : (d1 b a).length ≤ a.length := List.length_filterMap_le ..
theorem d2_len {a b : List Entry} : (d2 a b).length ≤ b.length := List.length_filter_le ..
theorem d1_slots {b : List Entry} : ∀ {a : List Entry}, List.Sublist ((d1 b a).map Entry.slot) (a.map Entry.slot)
  | [] => by simp [d1]
  | e :: a => by
    have ih := d1_slots (b := b) (a := a)
    unfold d1 at ih ⊢
    rw [List.filterMap_cons]
    by_cases h : findId e.slot b ≠ e.id
    · rw [if_pos h]
      simp only [List.map_cons]
      exact ih.cons_cons _
    · rw [if_neg h]
      simp only [List.map_cons]
      exact ih.cons _
theorem d12_nodup {a b : List Entry} (ha : (a.map Entry.slot).Nodup) (hb : (b.map Entry.slot).Nodup) : ((d1 b a ++ d2 a b).map Entry.slot).Nodup := by
  rw [List.map_append, List.nodup_append]
  refine ⟨List.Nodup.sublist d1_slots ha, List.Nodup.sublist (List.filter_sublist.map _) hb, fun x hx y hy hxy => ?_⟩
  subst hxy
  obtain ⟨e, he, rfl⟩ := List.mem_map.1 hy
  have := (List.mem_filter.1 he).2
  exact (of_decide_eq_true this) (d1_slots.subset hx)
theorem aget_append {k : SlotK} : ∀ {l1 l2 : List (SlotK × List UInt8)}, aget k (l1 ++ l2) = match aget k l1 with
    | some v => some v
    | none => aget k l2
  | [], l2 => rfl
  | p :: l1, l2 => by
    simp only [List.cons_append, aget]
    by_cases h : p.1 = k
    · rw [if_pos h, if_pos h]
    · rw [if_neg h, if_neg h, aget_append]
def dvOf (a b : List Entry) (k : SlotK) : Option (List UInt8) := match aget k (a.map Entry.pair) with
  | some x => if findId k b ≠ x then some (findId k b) else none
  | none => aget k (b.map Entry.pair)
theorem slots_pairs {s : List Entry} : (s.map Entry.pair).map (·.1) = s.map Entry.slot := by rw [List.map_map]; rfl
theorem aget_d1 {k : SlotK} {b : List Entry} : ∀ {a : List Entry}, (a.map Entry.slot).Nodup → aget k ((d1 b a).map Entry.pair) = match aget k (a.map Entry.pair) with
    | some x => if findId k b ≠ x then some (findId k b) else none
    | none => none
  | [], _ => rfl
  | e :: a, hn => by
    simp only [List.map_cons, List.nodup_cons] at hn
    have ih := aget_d1 (k := k) (b := b) hn.2
    unfold d1 at ih ⊢
    rw [List.filterMap_cons]
    simp only [List.map_cons, aget]
    by_cases hk : e.slot = k
    · rw [if_pos (show e.pair.1 = k from hk)]
      subst hk
      by_cases h : findId e.slot b ≠ e.id
      · rw [if_pos h]
        simp only [List.map_cons, aget]
        rw [if_pos (show (Entry.pair ⟨e.typ, e.key, findId e.slot b⟩).1 = e.slot from rfl)]
        show _ = if findId e.slot b ≠ e.id then _ else _
        rw [if_pos h]
        rfl
      · rw [if_neg h]
        show _ = if findId e.slot b ≠ e.id then _ else _
        rw [if_neg h]
        dsimp only
        rw [ih, aget_none.2 (by rw [slots_pairs]; exact hn.1)]
    · rw [if_neg (show ¬ e.pair.1 = k from hk)]
      by_cases h : findId e.slot b ≠ e.id
      · rw [if_pos h]
        simp only [List.map_cons, aget]
        rw [if_neg (show ¬ (Entry.pair ⟨e.typ, e.key, findId e.slot b⟩).1 = k from hk), ih]
      · rw [if_neg h]
        exact ih
theorem aget_d2 {k : SlotK} {a : List Entry} : ∀ {b : List Entry}, aget k ((d2 a b).map Entry.pair) = if k ∈ a.map Entry.slot then none else aget k (b.map Entry.pair)
  | [] => by simp [d2, aget]
  | e :: b => by
    have ih := aget_d2 (k := k) (a := a) (b := b)
    unfold d2 at ih ⊢
    by_cases h : e.slot ∈ a.map Entry.slot
    · rw [List.filter_cons_of_neg (by simpa using h), ih]
      simp only [List.map_cons, aget]
      by_cases hk : e.slot = k
      · subst hk; rw [if_pos h, if_pos h]
      · rw [if_neg (show ¬ e.pair.1 = k from hk)]
    · rw [List.filter_cons_of_pos (by simpa using h)]
      simp only [List.map_cons, aget]
      by_cases hk : e.slot = k
      · subst hk; rw [if_pos (show e.pair.1 = e.slot from rfl), if_neg h, if_pos (show e.pair.1 = e.slot from rfl)]
      · rw [if_neg (show ¬ e.pair.1 = k from hk), if_neg (show ¬ e.pair.1 = k from hk), ih]
theorem aget_d12 {k : SlotK} {a b : List Entry} (ha : (a.map Entry.slot).Nodup) : aget k ((d1 b a ++ d2 a b).map Entry.pair) = dvOf a b k := by
  rw [List.map_append, aget_append, aget_d1 ha, aget_d2]
  unfold dvOf
  cases h : aget k (a.map Entry.pair) with
  | none =>
    have := aget_none.1 h
    rw [slots_pairs] at this
    simp only
    rw [if_neg this]
  | some x =>
    have : k ∈ a.map Entry.slot := by
      rw [← slots_pairs]
      exact Classical.byContradiction fun hn => by rw [aget_none.2 hn] at h; cases h
    dsimp only
    by_cases h3 : findId k b ≠ x
    · rw [if_pos h3]
    · rw [if_neg h3]
      dsimp only
      rw [if_pos this]
theorem delta_is {a b : List Entry} {m : List (SlotK × List UInt8)} (ha : stateOk a = true) (hb : stateOk b = true) (hn : (m.map (·.1)).Nodup) (h : ∀ k, aget k m = dvOf a b k) : Is m (deltaL a b) := by
  have na := inOrd_nodup (stateOk_ord ha).1
  have nb := inOrd_nodup (stateOk_ord hb).1
  have nd := d12_nodup na nb
  refine ⟨?_, (putsL_ord .nil).1⟩
  have h1 := putsL_pairs (s := []) .nil nd (by simp)
  rw [List.map_nil, List.nil_append] at h1
  refine (perm_aget hn (by rw [slots_pairs]; exact nd) fun k => ?_).trans h1.symm
  rw [h, aget_d12 na]
theorem delta_len {a b : List Entry} : (deltaL a b).length ≤ a.length + b.length := by
  have h1 := (putsL_ord (s := []) (ch := d1 b a ++ d2 a b) .nil).2
  have h2 := d1_len (b := b) (a := a)
  have h3 := d2_len (a := a) (b := b)
  rw [List.length_append, List.length_nil] at h1
  unfold deltaL
  omega
end Go.Proofs.Ytmgdkkhnjkepiaa.BX
namespace Go.Proofs.Ytmgdkkhnjkepiaa.BX
set_option linter.unusedSectionVars false
set_option linter.unusedSimpArgs false
set_option linter.unusedVariables false
open Go Go.RowKit
set_option maxRecDepth 20000
set_option maxHeartbeats 400000
theorem d1_take {b a : List Entry} {i : Nat} {e : Entry} (h : a[i]? = some e) : d1 b (a.take (i + 1)) = d1 b (a.take i) ++ (if findId e.slot b ≠ e.id then [⟨e.typ, e.key, findId e.slot b⟩] else []) := by
  unfold d1
  rw [List.take_add_one, h, List.filterMap_append]
  congr 1
  simp only [Option.toList_some, List.filterMap_cons, List.filterMap_nil]
  split <;> rename_i h1 <;> split at h1 <;> simp_all
theorem d2_take {a b : List Entry} {i : Nat} {e : Entry} (h : b[i]? = some e) : d2 a (b.take (i + 1)) = d2 a (b.take i) ++ (if e.slot ∉ a.map Entry.slot then [e] else []) := by
  unfold d2
  rw [List.take_add_one, h, List.filter_append]
  congr 1
  simp only [Option.toList_some, List.filter_cons, List.filter_nil, decide_eq_true_eq]
theorem eK_len {k : SlotK} : (eK k).cells.length = 2 := rfl
theorem eK_isAg {k : SlotK} : (eK k).isAg = true := rfl
def Walked (f g : SlotK → Option (List UInt8)) (c : Nat) (B out rest : List (SlotK × List UInt8)) : Prop :=
  ∃ done, List.Perm (done ++ rest) B ∧ (out.map (·.1)).Nodup ∧ out.length ≤ c + done.length ∧ ∀ k, aget k out = if k ∈ done.map (·.1) then f k else g k
section
variable {f g : SlotK → Option (List UInt8)} {c : Nat} {B out rest : List (SlotK × List UInt8)}
theorem Walked.start (hn : (out.map (·.1)).Nodup) (hc : out.length ≤ c) (h : ∀ k, aget k out = g k) : Walked f g c B out B :=
  ⟨[], List.Perm.refl _, hn, by simpa using hc, fun k => by rw [h]; simp⟩
theorem Walked.len (h : Walked f g c B out rest) : out.length + rest.length ≤ c + B.length := by
  obtain ⟨done, h1, _, h3, _⟩ := h
  have := h1.length_eq
  rw [List.length_append] at this
  omega
theorem Walked.fresh (h : Walked f g c B out rest) (hB : (B.map (·.1)).Nodup) {i : Nat} {q : SlotK × List UInt8} (hq : rest[i]? = some q) : q ∈ B ∧ aget q.1 out = g q.1 := by
  obtain ⟨done, h1, _, _, h4⟩ := h
  have hm : q ∈ rest := List.mem_of_getElem? hq
  refine ⟨h1.subset (List.mem_append_right _ hm), ?_⟩
  rw [h4, if_neg]
  have hn := (h1.map (·.1)).nodup_iff.2 hB
  rw [List.map_append, List.nodup_append] at hn
  exact fun hd => hn.2.2 _ hd _ (List.mem_map_of_mem hm) rfl
theorem Walked.skip (h : Walked f g c B out rest) (hB : (B.map (·.1)).Nodup) {i : Nat} {q : SlotK × List UInt8} (hq : rest[i]? = some q) (hf : f q.1 = g q.1) : Walked f g c B out (rest.eraseIdx i) := by
  have hfr := (h.fresh hB hq).2
  obtain ⟨done, h1, h2, h3, h4⟩ := h
  refine ⟨done ++ [q], ?_, h2, by rw [List.length_append]; omega, fun k => ?_⟩
  · rw [List.append_assoc]
    exact ((erase_pick hq).symm.append_left _).trans h1
  · have hmem : (k ∈ (done ++ [q]).map (·.1)) ↔ (k ∈ done.map (·.1) ∨ k = q.1) := by simp
    by_cases hk : k = q.1
    · subst hk
      rw [if_pos (hmem.2 (.inr rfl)), hfr, hf]
    · rw [h4]
      simp only [hmem, hk, or_false]
theorem Walked.put (h : Walked f g c B out rest) (hB : (B.map (·.1)).Nodup) {i : Nat} {q : SlotK × List UInt8} (hq : rest[i]? = some q) {v : List UInt8} (hf : f q.1 = some v) : Walked f g c B (aset q.1 v out) (rest.eraseIdx i) := by
  obtain ⟨done, h1, h2, h3, h4⟩ := h
  have hl := (aset_len (k := q.1) (v := v) (l := out)).2
  refine ⟨done ++ [q], ?_, aset_nodup h2, by rw [List.length_append, List.length_singleton]; omega, fun k => ?_⟩
  · rw [List.append_assoc]
    exact ((erase_pick hq).symm.append_left _).trans h1
  · rw [aget_set]
    by_cases hk : q.1 = k
    · subst hk
      rw [if_pos rfl, if_pos (by simp), hf]
    · rw [if_neg hk, h4]
      have hk' : ¬ k = q.1 := fun e => hk e.symm
      have hmem : (k ∈ (done ++ [q]).map (·.1)) ↔ (k ∈ done.map (·.1) ∨ k = q.1) := by simp
      simp only [hmem, hk', or_false]
theorem Walked.done (h : Walked f g c B out []) : (out.map (·.1)).Nodup ∧ out.length ≤ c + B.length ∧ ∀ k, aget k out = if k ∈ B.map (·.1) then f k else g k := by
  have hl := h.len
  obtain ⟨done, h1, h2, h3, h4⟩ := h
  rw [List.append_nil] at h1
  refine ⟨h2, by simpa using hl, fun k => ?_⟩
  rw [h4]
  have : (k ∈ done.map (·.1)) ↔ k ∈ B.map (·.1) := (h1.map (·.1)).mem_iff
  simp only [this]
end
theorem dv_b {a b : List Entry} (hb : stateOk b = true) {q : SlotK × List UInt8} (hq : aget q.1 (b.map Entry.pair) = some q.2) : findId q.1 b = q.2 := by
  rcases findId_get (k := q.1) (stateOk_ord hb).2.2 with ⟨h1, _⟩ | ⟨h1, _⟩
  · have h1' : aget q.1 (b.map Entry.pair) = none := h1
    rw [h1'] at hq; cases hq
  · have h1' : aget q.1 (b.map Entry.pair) = some (findId q.1 b) := h1
    rw [h1'] at hq; exact Option.some.inj hq
theorem dv_gone {a b : List Entry} (ha : stateOk a = true) (hb : stateOk b = true) {q : SlotK × List UInt8} (hq : aget q.1 (a.map Entry.pair) = some q.2) (hn : aget q.1 (b.map Entry.pair) = none) : dvOf a b q.1 = some [] := by
  unfold dvOf
  rw [hq]
  have hf : findId q.1 b = [] := by
    rcases findId_get (k := q.1) (stateOk_ord hb).2.2 with ⟨_, h2⟩ | ⟨h1, _⟩
    · exact h2
    · have h1' : aget q.1 (b.map Entry.pair) = some (findId q.1 b) := h1
      rw [h1'] at hn; cases hn
  have hne : q.2 ≠ [] := by
    rcases findId_get (k := q.1) (stateOk_ord ha).2.2 with ⟨h1, _⟩ | ⟨h1, h2⟩
    · have h1' : aget q.1 (a.map Entry.pair) = none := h1
      rw [h1'] at hq; cases hq
    · have h1' : aget q.1 (a.map Entry.pair) = some (findId q.1 a) := h1
      rw [h1'] at hq
      rw [← Option.some.inj hq]; exact h2
  dsimp only
  rw [hf, if_pos (fun h => hne h.symm)]
variable [Bd]
theorem at_slot {a : List Entry} {e : Entry} : firstAt (fun x => same x e) a 0 < 0 ↔ e.slot ∉ a.map Entry.slot := by
  have h := firstAt_nn (p := fun x => same x e) (xs := a) (k := 0) (by omega)
  constructor
  · intro h1 h2
    obtain ⟨x, hx, hs⟩ := List.mem_map.1 h2
    have := h.2 ⟨x, hx, by rw [show e = ⟨e.typ, e.key, e.id⟩ from rfl, same_slot]; exact decide_eq_true hs⟩
    omega
  · intro h1
    by_cases h2 : 0 ≤ firstAt (fun x => same x e) a 0
    · obtain ⟨x, hx, hs⟩ := h.1 h2
      rw [show e = ⟨e.typ, e.key, e.id⟩ from rfl, same_slot] at hs
      exact absurd (List.mem_map.2 ⟨x, hx, of_decide_eq_true hs⟩) h1
    · omega
theorem l4Delta (a b : List Entry) (hB : Bd.B ≤ 2147483648) (hla : a.length ≤ 300) (hlb : b.length ≤ 300) : Con P0 38 [eEntryS a, eEntryS b] (.sr 0) [enO (deltaL a b)] := by
  refine Con.intro (fn := Try.f38) [.tmp 4] (fun i => if i = 7 then (13, []) else if i = 5 then (13, []) else (0, [])) mixed (by kernel_rfl) rfl (by decide) rfl (by rfl) (by kernel_rfl) ?_
  simp -implicitDefEqProofs (maxSteps := 2000000) only [push_cast, Nat.reduceEqDiff, Nat.reduceLT, Nat.reduceLeDiff, Nat.reduceAdd, Nat.reduceMul, Nat.reduceSub, Nat.reduceBEq, ↓reduceIte, reduceCtorEq]
  have := Bd.lo
  refine ⟨rfl, by omega, ?_⟩
  refine WL.loop (ι := Nat) (D := (fun i => if i = 7 then (13, []) else if i = 5 then (13, []) else (0, []))) (fun i => i ≤ a.length) (fun i => ⟨69, [(0, .t (eEntryS a)), (1, .t (eEntryS b)), (5, .sr 0), (6, .t (.i .i64 i))], [enO (putsL [] (d1 b (a.take i)))]⟩) (fun i => a.length - i) mixed (by kernel_rfl) 0 (by omega) (Keep.wk (ids := [some 0]) ?_) ?_
  · simp only [push_cast, Nat.reduceEqDiff, Nat.reduceLT, Nat.reduceLeDiff, Nat.reduceAdd, Nat.reduceMul, Nat.reduceSub, Nat.reduceBEq, ↓reduceIte, reduceCtorEq, List.take_zero, d1, putsL, List.filterMap_nil, List.foldl_nil] <;> rfl
  · intro i hi
    have hol := putsL_ord (s := []) (ch := d1 b (a.take i)) .nil
    have hl1 := d1_len (b := b) (a := a.take i)
    rw [List.length_take] at hl1
    have hol2 := hol.2
    rw [List.length_nil] at hol2
    simp -implicitDefEqProofs (maxSteps := 2000000) only [push_cast, Nat.reduceEqDiff, Nat.reduceLT, Nat.reduceLeDiff, Nat.reduceAdd, Nat.reduceMul, Nat.reduceSub, Nat.reduceBEq, ↓reduceIte, reduceCtorEq, eEntry]
    intro _
    split
    · rename_i h
      refine ⟨by omega, fun e he => ⟨by omega, fun e' he' => ?_⟩⟩
      rw [Int.toNat_natCast] at he he'
      rw [he] at he'
      cases he'
      have hd := d1_take (b := b) he
      refine CallV.t (l4Find b e.typ e.key) (.inl rfl) ?_
      simp -implicitDefEqProofs (maxSteps := 2000000) only [push_cast, Nat.reduceEqDiff, Nat.reduceLT, Nat.reduceLeDiff, Nat.reduceAdd, Nat.reduceMul, Nat.reduceSub, Nat.reduceBEq, ↓reduceIte, reduceCtorEq, eEntry]
      refine ⟨by omega, fun e' he' => ?_⟩
      rw [Int.toNat_natCast, he] at he'
      cases he'
      split
      · rename_i hne
        rw [if_pos (show findId e.slot b ≠ e.id from hne)] at hd
        refine ⟨by omega, fun e' he' => ⟨by omega, fun e2 he2 => ?_⟩⟩
        rw [Int.toNat_natCast, he] at he' he2
        cases he'
        cases he2
        refine Callx.closed (l4Set (putsL [] (d1 b (a.take i))) ⟨e.typ, e.key, findId (e.typ, e.key) b⟩ true hB (by omega)) rfl rfl (.inr ⟨rfl, rfl⟩) ?_
        simp -implicitDefEqProofs (maxSteps := 2000000) only [push_cast, Nat.reduceEqDiff, Nat.reduceLT, Nat.reduceLeDiff, Nat.reduceAdd, Nat.reduceMul, Nat.reduceSub, Nat.reduceBEq, ↓reduceIte, reduceCtorEq]
        refine ⟨by unfold inI64; omega, i + 1, by omega, by omega, Keep.wk (ids := [some 1]) ?_⟩
        simp only [push_cast, Nat.reduceEqDiff, Nat.reduceLT, Nat.reduceLeDiff, Nat.reduceAdd, Nat.reduceMul, Nat.reduceSub, Nat.reduceBEq, ↓reduceIte, reduceCtorEq, hd, putsL_snoc] <;> rfl
      · rename_i heq
        rw [if_neg (show ¬ findId e.slot b ≠ e.id from heq), List.append_nil] at hd
        refine ⟨by unfold inI64; omega, i + 1, by omega, by omega, Keep.wk (ids := [some 0]) ?_⟩
        simp only [push_cast, Nat.reduceEqDiff, Nat.reduceLT, Nat.reduceLeDiff, Nat.reduceAdd, Nat.reduceMul, Nat.reduceSub, Nat.reduceBEq, ↓reduceIte, reduceCtorEq, hd] <;> rfl
    · have hi : i = a.length := by omega
      subst hi
      rw [List.take_length]
      refine WL.loop (ι := Nat) (D := (fun i => if i = 7 then (13, []) else if i = 5 then (13, []) else (0, []))) (fun j => j ≤ b.length) (fun j => ⟨69, [(0, .t (eEntryS a)), (1, .t (eEntryS b)), (5, .sr 0), (8, .t (.i .i64 j))], [enO (putsL [] (d1 b a ++ d2 a (b.take j)))]⟩) (fun j => b.length - j) mixed (by kernel_rfl) 0 (by omega) (Keep.wk (ids := [some 0]) ?_) ?_
      · simp only [push_cast, Nat.reduceEqDiff, Nat.reduceLT, Nat.reduceLeDiff, Nat.reduceAdd, Nat.reduceMul, Nat.reduceSub, Nat.reduceBEq, ↓reduceIte, reduceCtorEq, List.take_zero, d2, List.filter_nil, List.append_nil] <;> rfl
      intro j hj
      have hoj := putsL_ord (s := []) (ch := d1 b a ++ d2 a (b.take j)) .nil
      have hj1 := d1_len (b := b) (a := a)
      have hj2 := d2_len (a := a) (b := b.take j)
      rw [List.length_take] at hj2
      have hoj2 := hoj.2
      rw [List.length_nil, List.length_append] at hoj2
      simp -implicitDefEqProofs (maxSteps := 2000000) only [push_cast, Nat.reduceEqDiff, Nat.reduceLT, Nat.reduceLeDiff, Nat.reduceAdd, Nat.reduceMul, Nat.reduceSub, Nat.reduceBEq, ↓reduceIte, reduceCtorEq, eEntry]
      intro _
      split
      · rename_i h2
        refine ⟨by omega, fun e he => ?_⟩
        rw [Int.toNat_natCast] at he
        have hd := d2_take (a := a) he
        have hat := at_slot (a := a) (e := e)
        refine Callx.closed (l4At a e) rfl rfl (.inl rfl) ?_
        simp -implicitDefEqProofs (maxSteps := 2000000) only [push_cast, Nat.reduceEqDiff, Nat.reduceLT, Nat.reduceLeDiff, Nat.reduceAdd, Nat.reduceMul, Nat.reduceSub, Nat.reduceBEq, ↓reduceIte, reduceCtorEq, eEntry]
        split
        · rename_i h3
          rw [if_pos (hat.1 h3)] at hd
          refine ⟨by omega, fun e' he' => ?_⟩
          rw [Int.toNat_natCast, he] at he'
          cases he'
          refine Callx.closed (l4Set (putsL [] (d1 b a ++ d2 a (b.take j))) e true hB (by omega)) rfl rfl (.inr ⟨rfl, rfl⟩) ?_
          simp -implicitDefEqProofs (maxSteps := 2000000) only [push_cast, Nat.reduceEqDiff, Nat.reduceLT, Nat.reduceLeDiff, Nat.reduceAdd, Nat.reduceMul, Nat.reduceSub, Nat.reduceBEq, ↓reduceIte, reduceCtorEq]
          refine ⟨by unfold inI64; omega, j + 1, by omega, by omega, Keep.wk (ids := [some 1]) ?_⟩
          simp only [push_cast, Nat.reduceEqDiff, Nat.reduceLT, Nat.reduceLeDiff, Nat.reduceAdd, Nat.reduceMul, Nat.reduceSub, Nat.reduceBEq, ↓reduceIte, reduceCtorEq, hd, ← List.append_assoc, putsL_snoc] <;> rfl
        · rename_i h3
          rw [if_neg (fun hh => h3 (hat.2 hh)), List.append_nil] at hd
          refine ⟨by unfold inI64; omega, j + 1, by omega, by omega, Keep.wk (ids := [some 0]) ?_⟩
          simp only [push_cast, Nat.reduceEqDiff, Nat.reduceLT, Nat.reduceLeDiff, Nat.reduceAdd, Nat.reduceMul, Nat.reduceSub, Nat.reduceBEq, ↓reduceIte, reduceCtorEq, hd] <;> rfl
      · have hj : j = b.length := by omega
        subst hj
        rw [List.take_length]
        exact Close.of [some 0] rfl rfl rfl rfl (by simp only [push_cast, Nat.reduceEqDiff, Nat.reduceLT, Nat.reduceLeDiff, Nat.reduceAdd, Nat.reduceMul, Nat.reduceSub, Nat.reduceBEq, ↓reduceIte, reduceCtorEq] <;> rfl)
theorem liveOfC (s : List Entry) : Con P0 42 [eEntryS s] (.t (lvT (live s))) [] := by
  refine Con.intro (fn := Try.f42) [.tmp 2] (fun _ => (0, [])) mixed (by kernel_rfl) rfl (by decide) rfl (by rfl) (by kernel_rfl) ?_
  simp -implicitDefEqProofs (maxSteps := 2000000) only [push_cast, Nat.reduceEqDiff, Nat.reduceLT, Nat.reduceLeDiff, Nat.reduceAdd, Nat.reduceMul, Nat.reduceSub, Nat.reduceBEq, ↓reduceIte, reduceCtorEq, lvT]
  intro hl
  have := Bd.hi
  refine WL.loop (ι := Nat) (D := (fun _ => (0, []))) (fun i => i ≤ s.length) (fun i => ⟨23, [(9, .t (.i .i64 i)), (8, .t (.i .i64 s.length)), (7, .t (eEntryS s)), (3, .mr 0)], [lvO (live (s.take i))]⟩) (fun i => s.length - i) mixed (by kernel_rfl) 0 (by omega) (Keep.wk (ids := [some 0]) ?_) ?_
  · simp only [push_cast, Nat.reduceEqDiff, Nat.reduceLT, Nat.reduceLeDiff, Nat.reduceAdd, Nat.reduceMul, Nat.reduceSub, Nat.reduceBEq, ↓reduceIte, reduceCtorEq, live, List.foldl_nil] <;> trivial
  · intro i hi
    simp -implicitDefEqProofs (maxSteps := 2000000) only [push_cast, Nat.reduceEqDiff, Nat.reduceLT, Nat.reduceLeDiff, Nat.reduceAdd, Nat.reduceMul, Nat.reduceSub, Nat.reduceBEq, ↓reduceIte, reduceCtorEq, eEntry]
    split
    · rename_i h
      refine ⟨by omega, fun a ha => ?_⟩
      rw [Int.toNat_natCast] at ha
      have hlen := live_len (s.take i)
      rw [List.length_take] at hlen
      have hs : live (s.take (i + 1)) = aset a.slot a.id (live (s.take i)) := by rw [List.take_add_one, ha]; exact live_snoc
      obtain ⟨hu1, hu2⟩ := upd_assoc (ek := eK) (ev := T.s) eK_inj (k := a.slot) (v := a.id) (l := live (s.take i))
      have hk : T.ag [T.s a.typ, T.s a.key] = eK a.slot := rfl
      rw [hk, hu1, hu2, ← hs]
      refine ⟨fun _ => by omega, by unfold inI64; omega, i + 1, by omega, by omega, Keep.wk (ids := [some 0]) ?_⟩
      simp only [push_cast, Nat.reduceEqDiff, Nat.reduceLT, Nat.reduceLeDiff, Nat.reduceAdd, Nat.reduceMul, Nat.reduceSub, Nat.reduceBEq, ↓reduceIte, reduceCtorEq] <;> rfl
    · have hi : i = s.length := by omega
      subst hi
      rw [List.take_length]
      trivial
theorem deltaOf (a b : List Entry) (hB : Bd.B ≤ 2147483648) (ha : stateOk a = true) (hb : stateOk b = true) : Con P0 44 [eEntryS a, eEntryS b] (.sr 0) [enO (deltaL a b)] := by
  obtain ⟨oa1, oa2, oa3⟩ := stateOk_ord ha
  obtain ⟨ob1, ob2, ob3⟩ := stateOk_ord hb
  have na := inOrd_nodup oa1
  have nb := inOrd_nodup ob1
  have la := live_map na
  have lb := live_map nb
  refine Con.intro (fn := Try.f44) [.tmp 4] (fun _ => (0, [])) mixed (by kernel_rfl) rfl (by decide) rfl (by rfl) (by kernel_rfl) ?_
  simp -implicitDefEqProofs (maxSteps := 2000000) only [push_cast, Nat.reduceEqDiff, Nat.reduceLT, Nat.reduceLeDiff, Nat.reduceAdd, Nat.reduceMul, Nat.reduceSub, Nat.reduceBEq, ↓reduceIte, reduceCtorEq]
  have := Bd.lo
  refine Callx.closed (liveOfC a) rfl rfl (.inl rfl) ?_
  simp -implicitDefEqProofs (maxSteps := 2000000) only [push_cast, Nat.reduceEqDiff, Nat.reduceLT, Nat.reduceLeDiff, Nat.reduceAdd, Nat.reduceMul, Nat.reduceSub, Nat.reduceBEq, ↓reduceIte, reduceCtorEq]
  refine Callx.closed (liveOfC b) rfl rfl (.inl rfl) ?_
  simp -implicitDefEqProofs (maxSteps := 2000000) only [push_cast, Nat.reduceEqDiff, Nat.reduceLT, Nat.reduceLeDiff, Nat.reduceAdd, Nat.reduceMul, Nat.reduceSub, Nat.reduceBEq, ↓reduceIte, reduceCtorEq, lvT]
  rw [lv_zip]
  have pa : live a = a.map Entry.pair := la
  have pb : live b = b.map Entry.pair := lb
  have nka := live_nodup a
  have nkb := live_nodup b
  have hlA := live_len a
  have hlB := live_len b
  refine WL.loop (ι := List (SlotK × List UInt8) × List (SlotK × List UInt8)) (D := (fun _ => (0, []))) (fun x => Walked (dvOf a b) (fun _ => none) 0 (live b) x.1 x.2) (fun x => ⟨61, [(5, .t (lvT (live a))), (6, .t (lvT (live b))), (7, .mr 0), (21, .it 1)], [lvO x.1, .iter none (x.2.map lvP)]⟩) (fun x => x.2.length) mixed (by kernel_rfl) ([], live b) (Walked.start (by simp) (by simp) (fun _ => rfl)) (Keep.wk (ids := [some 0, some 1]) ?_) ?_
  · simp only [push_cast, Nat.reduceEqDiff, Nat.reduceLT, Nat.reduceLeDiff, Nat.reduceAdd, Nat.reduceMul, Nat.reduceSub, Nat.reduceBEq, ↓reduceIte, reduceCtorEq, List.map_nil, lvT] <;> trivial
  · rintro ⟨out, rest⟩ hw
    dsimp only at hw ⊢
    have hwl := hw.len
    simp -implicitDefEqProofs (maxSteps := 2000000) only [push_cast, Nat.reduceEqDiff, Nat.reduceLT, Nat.reduceLeDiff, Nat.reduceAdd, Nat.reduceMul, Nat.reduceSub, Nat.reduceBEq, ↓reduceIte, reduceCtorEq]
    refine ⟨fun h0 => ?_, fun i p hip => ?_⟩
    · have hr : rest = [] := by simpa using h0
      subst hr
      obtain ⟨hd1, hd2, hd3⟩ := hw.done
      simp -implicitDefEqProofs (maxSteps := 2000000) only [push_cast, Nat.reduceEqDiff, Nat.reduceLT, Nat.reduceLeDiff, Nat.reduceAdd, Nat.reduceMul, Nat.reduceSub, Nat.reduceBEq, ↓reduceIte, reduceCtorEq]
      refine WL.loop (ι := List (SlotK × List UInt8) × List (SlotK × List UInt8)) (D := (fun _ => (0, []))) (fun x => Walked (dvOf a b) (fun k => aget k out) out.length (live a) x.1 x.2) (fun x => ⟨61, [(6, .t (lvT (live b))), (7, .mr 0), (44, .it 1)], [lvO x.1, .iter none (x.2.map lvP)]⟩) (fun x => x.2.length) mixed (by kernel_rfl) (out, live a) (Walked.start hd1 (Nat.le_refl _) (fun _ => rfl)) (Keep.wk (ids := [some 0, some 2]) ?_) ?_
      · simp only [push_cast, Nat.reduceEqDiff, Nat.reduceLT, Nat.reduceLeDiff, Nat.reduceAdd, Nat.reduceMul, Nat.reduceSub, Nat.reduceBEq, ↓reduceIte, reduceCtorEq, List.map_nil, lv_zip] <;> trivial
      · rintro ⟨out2, rest2⟩ hw2
        dsimp only at hw2 ⊢
        have hwl2 := hw2.len
        simp -implicitDefEqProofs (maxSteps := 2000000) only [push_cast, Nat.reduceEqDiff, Nat.reduceLT, Nat.reduceLeDiff, Nat.reduceAdd, Nat.reduceMul, Nat.reduceSub, Nat.reduceBEq, ↓reduceIte, reduceCtorEq]
        refine ⟨fun h0 => ?_, fun i p hip => ?_⟩
        · have hr : rest2 = [] := by simpa using h0
          subst hr
          obtain ⟨he1, he2, he3⟩ := hw2.done
          have his : Is out2 (deltaL a b) := delta_is ha hb he1 fun k => by
            rw [he3, hd3]
            by_cases k1 : k ∈ (live a).map (·.1)
            · rw [if_pos k1]
            · rw [if_neg k1]
              by_cases k2 : k ∈ (live b).map (·.1)
              · rw [if_pos k2]
              · rw [if_neg k2]
                unfold dvOf
                rw [← pa, ← pb, aget_none.2 k1, aget_none.2 k2]
          refine Callx.closed (liveList out2 (deltaL a b) hB (by omega) his) rfl rfl (.inr ⟨rfl, rfl⟩) ?_
          simp -implicitDefEqProofs (maxSteps := 2000000) only [push_cast, Nat.reduceEqDiff, Nat.reduceLT, Nat.reduceLeDiff, Nat.reduceAdd, Nat.reduceMul, Nat.reduceSub, Nat.reduceBEq, ↓reduceIte, reduceCtorEq]
          exact Close.of [some 2] rfl rfl rfl rfl (by simp only [push_cast, Nat.reduceEqDiff, Nat.reduceLT, Nat.reduceLeDiff, Nat.reduceAdd, Nat.reduceMul, Nat.reduceSub, Nat.reduceBEq, ↓reduceIte, reduceCtorEq] <;> rfl)
        · rw [List.getElem?_map, Option.map_eq_some_iff] at hip
          obtain ⟨q, hq, rfl⟩ := hip
          obtain ⟨hqA, hfr⟩ := hw2.fresh nka hq
          have hqa : aget q.1 (a.map Entry.pair) = some q.2 := by rw [← pa]; exact (mem_aget nka).1 hqA
          simp -implicitDefEqProofs (maxSteps := 2000000) only [push_cast, Nat.reduceEqDiff, Nat.reduceLT, Nat.reduceLeDiff, Nat.reduceAdd, Nat.reduceMul, Nat.reduceSub, Nat.reduceBEq, ↓reduceIte, reduceCtorEq, lvP, eK, lvT]
          have hk : T.ag [T.s q.1.1, T.s q.1.2] = eK q.1 := rfl
          rw [hk]
          refine look_assoc (ev := T.s) eK_inj nkb (fun p _ => of_eq_true eK_key) (fun v hv => ?_) (fun hv => ?_)
          · simp -implicitDefEqProofs (maxSteps := 2000000) only [push_cast, Nat.reduceEqDiff, Nat.reduceLT, Nat.reduceLeDiff, Nat.reduceAdd, Nat.reduceMul, Nat.reduceSub, Nat.reduceBEq, ↓reduceIte, reduceCtorEq, eK_len, eK_isAg]
            have hg : dvOf a b q.1 = aget q.1 out := by
              rw [hd3, if_pos]
              exact Classical.byContradiction fun hn => by rw [aget_none.2 hn] at hv; cases hv
            have hel := List.length_eraseIdx (l := rest2) (i := i)
            rw [if_pos (List.getElem?_eq_some_iff.1 hq).1] at hel
            have hil := (List.getElem?_eq_some_iff.1 hq).1
            refine ⟨(out2, rest2.eraseIdx i), hw2.skip nka hq hg, by dsimp only; omega, Keep.wk (ids := [some 0, some 1]) ?_⟩
            simp only [push_cast, Nat.reduceEqDiff, Nat.reduceLT, Nat.reduceLeDiff, Nat.reduceAdd, Nat.reduceMul, Nat.reduceSub, Nat.reduceBEq, ↓reduceIte, reduceCtorEq, eraseE_map, lvT] <;> trivial
          · simp -implicitDefEqProofs (maxSteps := 2000000) only [push_cast, Nat.reduceEqDiff, Nat.reduceLT, Nat.reduceLeDiff, Nat.reduceAdd, Nat.reduceMul, Nat.reduceSub, Nat.reduceBEq, ↓reduceIte, reduceCtorEq, eK_len, eK_isAg]
            have hg : dvOf a b q.1 = some [] := dv_gone ha hb hqa (by rw [← pb]; exact hv)
            obtain ⟨hu1, hu2⟩ := upd_assoc (ek := eK) (ev := T.s) eK_inj (k := q.1) (v := []) (l := out2)
            rw [hu1, hu2]
            have hel := List.length_eraseIdx (l := rest2) (i := i)
            rw [if_pos (List.getElem?_eq_some_iff.1 hq).1] at hel
            have hil := (List.getElem?_eq_some_iff.1 hq).1
            refine ⟨fun _ => by omega, (aset q.1 [] out2, rest2.eraseIdx i), hw2.put nka hq hg, by dsimp only; omega, Keep.wk (ids := [some 0, some 1]) ?_⟩
            simp only [push_cast, Nat.reduceEqDiff, Nat.reduceLT, Nat.reduceLeDiff, Nat.reduceAdd, Nat.reduceMul, Nat.reduceSub, Nat.reduceBEq, ↓reduceIte, reduceCtorEq, eraseE_map, lvT] <;> trivial
    · rw [List.getElem?_map, Option.map_eq_some_iff] at hip
      obtain ⟨q, hq, rfl⟩ := hip
      obtain ⟨hqB, hfr⟩ := hw.fresh nkb hq
      have hqb : aget q.1 (b.map Entry.pair) = some q.2 := by rw [← pb]; exact (mem_aget nkb).1 hqB
      have hfi := dv_b (a := a) hb hqb
      simp -implicitDefEqProofs (maxSteps := 2000000) only [push_cast, Nat.reduceEqDiff, Nat.reduceLT, Nat.reduceLeDiff, Nat.reduceAdd, Nat.reduceMul, Nat.reduceSub, Nat.reduceBEq, ↓reduceIte, reduceCtorEq, lvP, eK, lvT]
      have hk : T.ag [T.s q.1.1, T.s q.1.2] = eK q.1 := rfl
      rw [hk]
      refine look_assoc (ev := T.s) eK_inj nka (fun p _ => of_eq_true eK_key) (fun v hv => ?_) (fun hv => ?_)
      · simp -implicitDefEqProofs (maxSteps := 2000000) only [push_cast, Nat.reduceEqDiff, Nat.reduceLT, Nat.reduceLeDiff, Nat.reduceAdd, Nat.reduceMul, Nat.reduceSub, Nat.reduceBEq, ↓reduceIte, reduceCtorEq, eK_len, eK_isAg]
        obtain ⟨hu1, hu2⟩ := upd_assoc (ek := eK) (ev := T.s) eK_inj (k := q.1) (v := q.2) (l := out)
        have hel := List.length_eraseIdx (l := rest) (i := i)
        rw [if_pos (List.getElem?_eq_some_iff.1 hq).1] at hel
        have hil := (List.getElem?_eq_some_iff.1 hq).1
        rw [pa] at hv
        split
        · rename_i hne
          have hg : dvOf a b q.1 = some q.2 := by
            unfold dvOf
            rw [hv]
            dsimp only
            rw [hfi, if_pos (fun h => hne h.symm)]
          rw [hu1, hu2]
          refine ⟨fun _ => by omega, (aset q.1 q.2 out, rest.eraseIdx i), hw.put nkb hq hg, by dsimp only; omega, Keep.wk (ids := [some 0, some 1]) ?_⟩
          simp only [push_cast, Nat.reduceEqDiff, Nat.reduceLT, Nat.reduceLeDiff, Nat.reduceAdd, Nat.reduceMul, Nat.reduceSub, Nat.reduceBEq, ↓reduceIte, reduceCtorEq, eraseE_map, lvT] <;> trivial
        · rename_i heq
          have heq : v = q.2 := by simpa using heq
          have hg : dvOf a b q.1 = none := by
            unfold dvOf
            rw [hv]
            dsimp only
            rw [hfi, heq, if_neg (by simp)]
          refine ⟨(out, rest.eraseIdx i), hw.skip nkb hq hg, by dsimp only; omega, Keep.wk (ids := [some 0, some 1]) ?_⟩
          simp only [push_cast, Nat.reduceEqDiff, Nat.reduceLT, Nat.reduceLeDiff, Nat.reduceAdd, Nat.reduceMul, Nat.reduceSub, Nat.reduceBEq, ↓reduceIte, reduceCtorEq, eraseE_map, lvT] <;> trivial
      · simp -implicitDefEqProofs (maxSteps := 2000000) only [push_cast, Nat.reduceEqDiff, Nat.reduceLT, Nat.reduceLeDiff, Nat.reduceAdd, Nat.reduceMul, Nat.reduceSub, Nat.reduceBEq, ↓reduceIte, reduceCtorEq, eK_len, eK_isAg]
        obtain ⟨hu1, hu2⟩ := upd_assoc (ek := eK) (ev := T.s) eK_inj (k := q.1) (v := q.2) (l := out)
        have hel := List.length_eraseIdx (l := rest) (i := i)
        rw [if_pos (List.getElem?_eq_some_iff.1 hq).1] at hel
        have hil := (List.getElem?_eq_some_iff.1 hq).1
        rw [pa] at hv
        have hg : dvOf a b q.1 = some q.2 := by
          unfold dvOf
          rw [hv]
          exact hqb
        rw [hu1, hu2]
        refine ⟨fun _ => by omega, (aset q.1 q.2 out, rest.eraseIdx i), hw.put nkb hq hg, by dsimp only; omega, Keep.wk (ids := [some 0, some 1]) ?_⟩
        simp only [push_cast, Nat.reduceEqDiff, Nat.reduceLT, Nat.reduceLeDiff, Nat.reduceAdd, Nat.reduceMul, Nat.reduceSub, Nat.reduceBEq, ↓reduceIte, reduceCtorEq, eraseE_map, lvT] <;> trivial
end Go.Proofs.Ytmgdkkhnjkepiaa.BX
namespace Go.Proofs.Ytmgdkkhnjkepiaa.BX
set_option linter.unusedSectionVars false
set_option linter.unusedSimpArgs false
set_option linter.unusedVariables false
open Go Go.RowKit
set_option maxRecDepth 20000
set_option maxHeartbeats 400000
theorem storeUps {gs : List Group} (h : storeOk gs = true) : gs.length ≤ 1000 ∧ Ups gs gs.length := by
  simp only [storeOk, Bool.and_eq_true, decide_eq_true_eq] at h
  exact h
noncomputable def exOk (gs : List Group) (c : Int) : Bool := storeOk gs && decide (0 ≤ c ∧ c < gs.length)
noncomputable def exRes (gs : List Group) (c : Int) : List Entry := if exOk gs c = true then expandOf gs c.toNat else []
variable [Bd]
theorem specExpand (gs : List Group) (c : Int) (hB : Bd.B ≤ 2147483648) : Con P0 11 [eStore ⟨gs⟩, .i .i64 c] (.tp [.sr 0, .t (.b (exOk gs c))]) [enO (exRes gs c)] := by
  refine Con.intro (fn := Try.f11) [.tmp 4, .tmp 5] (fun _ => (0, [])) mixed (by kernel_rfl) rfl (by decide) rfl (by rfl) (by kernel_rfl) ?_
  simp -implicitDefEqProofs (maxSteps := 2000000) only [push_cast, Nat.reduceEqDiff, Nat.reduceLT, Nat.reduceLeDiff, Nat.reduceAdd, Nat.reduceMul, Nat.reduceSub, Nat.reduceBEq, ↓reduceIte, reduceCtorEq, eStore]
  have := Bd.lo
  refine Callx.closed (specStoreOk gs hB) rfl rfl (.inl rfl) ?_
  simp -implicitDefEqProofs (maxSteps := 2000000) only [push_cast, Nat.reduceEqDiff, Nat.reduceLT, Nat.reduceLeDiff, Nat.reduceAdd, Nat.reduceMul, Nat.reduceSub, Nat.reduceBEq, ↓reduceIte, reduceCtorEq]
  have bad : exOk gs c = false → exRes gs c = [] := fun h => by simp [exRes, h]
  cases hok : storeOk gs with
  | false =>
    have hp : exOk gs c = false := by simp [exOk, hok]
    rw [hp, bad hp]
    simp only [Bool.not_false, if_true]
    exact ⟨rfl, by omega, Close.of [some 1] rfl rfl rfl (by simp only [push_cast, Nat.reduceEqDiff, Nat.reduceLT, Nat.reduceLeDiff, Nat.reduceAdd, Nat.reduceMul, Nat.reduceSub, Nat.reduceBEq, ↓reduceIte, reduceCtorEq] <;> rfl) (by simp only [push_cast, Nat.reduceEqDiff, Nat.reduceLT, Nat.reduceLeDiff, Nat.reduceAdd, Nat.reduceMul, Nat.reduceSub, Nat.reduceBEq, ↓reduceIte, reduceCtorEq, List.map_nil] <;> rfl)⟩
  | true =>
  obtain ⟨hlen, hu⟩ := storeUps hok
  simp only [Bool.not_true, Bool.false_eq_true, if_false]
  split
  · rename_i h1
    have hp : exOk gs c = false := by unfold exOk; rw [decide_eq_false (by omega), Bool.and_false]
    rw [hp, bad hp]
    exact ⟨rfl, by omega, Close.of [some 1] rfl rfl rfl (by simp only [push_cast, Nat.reduceEqDiff, Nat.reduceLT, Nat.reduceLeDiff, Nat.reduceAdd, Nat.reduceMul, Nat.reduceSub, Nat.reduceBEq, ↓reduceIte, reduceCtorEq] <;> rfl) (by simp only [push_cast, Nat.reduceEqDiff, Nat.reduceLT, Nat.reduceLeDiff, Nat.reduceAdd, Nat.reduceMul, Nat.reduceSub, Nat.reduceBEq, ↓reduceIte, reduceCtorEq, List.map_nil] <;> rfl)⟩
  rename_i h1
  intro _
  split
  · rename_i h2
    have hp : exOk gs c = false := by unfold exOk; rw [decide_eq_false (by omega), Bool.and_false]
    rw [hp, bad hp]
    exact ⟨rfl, by omega, Close.of [some 1] rfl rfl rfl (by simp only [push_cast, Nat.reduceEqDiff, Nat.reduceLT, Nat.reduceLeDiff, Nat.reduceAdd, Nat.reduceMul, Nat.reduceSub, Nat.reduceBEq, ↓reduceIte, reduceCtorEq] <;> rfl) (by simp only [push_cast, Nat.reduceEqDiff, Nat.reduceLT, Nat.reduceLeDiff, Nat.reduceAdd, Nat.reduceMul, Nat.reduceSub, Nat.reduceBEq, ↓reduceIte, reduceCtorEq, List.map_nil] <;> rfl)⟩
  rename_i h2
  have hp : exOk gs c = true := by unfold exOk; rw [hok, decide_eq_true (by omega)]; rfl
  have hr : exRes gs c = expandOf gs c.toNat := by simp [exRes, hp]
  rw [hp, hr]
  have h := l4Expand gs hB c.toNat (by omega) (fun j hj g hg => ⟨(hu j (by omega) g hg).hi, (hu j (by omega) g hg).ord, (hu j (by omega) g hg).len⟩) (fun j hj => by
    obtain ⟨g, hg⟩ : ∃ g, gs[j]? = some g := ⟨_, List.getElem?_eq_getElem (by omega)⟩
    exact (hu j (by omega) g hg).full) (by omega)
  rw [Int.toNat_of_nonneg (by omega)] at h
  refine Callx.closed h rfl rfl (.inl rfl) ?_
  simp -implicitDefEqProofs (maxSteps := 2000000) only [push_cast, Nat.reduceEqDiff, Nat.reduceLT, Nat.reduceLeDiff, Nat.reduceAdd, Nat.reduceMul, Nat.reduceSub, Nat.reduceBEq, ↓reduceIte, reduceCtorEq]
  exact Close.of [some 1] rfl rfl rfl (by simp only [push_cast, Nat.reduceEqDiff, Nat.reduceLT, Nat.reduceLeDiff, Nat.reduceAdd, Nat.reduceMul, Nat.reduceSub, Nat.reduceBEq, ↓reduceIte, reduceCtorEq] <;> rfl) (by simp only [push_cast, Nat.reduceEqDiff, Nat.reduceLT, Nat.reduceLeDiff, Nat.reduceAdd, Nat.reduceMul, Nat.reduceSub, Nat.reduceBEq, ↓reduceIte, reduceCtorEq, List.map_nil] <;> rfl)
theorem implExpand (gs : List Group) (c : Int) (hB : Bd.B ≤ 2147483648) : Con P0 8 [eStore ⟨gs⟩, .i .i64 c] (.tp [.sr 0, .t (.b (exOk gs c))]) [enO (exRes gs c)] := by
  refine Con.intro (fn := Try.f8) [.tmp 4, .tmp 5] (fun _ => (0, [])) mixed (by kernel_rfl) rfl (by decide) rfl (by rfl) (by kernel_rfl) ?_
  simp -implicitDefEqProofs (maxSteps := 2000000) only [push_cast, Nat.reduceEqDiff, Nat.reduceLT, Nat.reduceLeDiff, Nat.reduceAdd, Nat.reduceMul, Nat.reduceSub, Nat.reduceBEq, ↓reduceIte, reduceCtorEq, eStore]
  have := Bd.lo
  refine Callx.closed (nodesOf gs hB) rfl rfl (.inl rfl) ?_
  simp -implicitDefEqProofs (maxSteps := 2000000) only [push_cast, Nat.reduceEqDiff, Nat.reduceLT, Nat.reduceLeDiff, Nat.reduceAdd, Nat.reduceMul, Nat.reduceSub, Nat.reduceBEq, ↓reduceIte, reduceCtorEq]
  have bad : exOk gs c = false → exRes gs c = [] := fun h => by simp [exRes, h]
  cases hok : storeOk gs with
  | false =>
    have hp : exOk gs c = false := by simp [exOk, hok]
    rw [hp, bad hp]
    simp only [Bool.not_false, if_true]
    exact Close.of [none] rfl rfl rfl (by simp only [push_cast, Nat.reduceEqDiff, Nat.reduceLT, Nat.reduceLeDiff, Nat.reduceAdd, Nat.reduceMul, Nat.reduceSub, Nat.reduceBEq, ↓reduceIte, reduceCtorEq] <;> rfl) (by simp only [push_cast, Nat.reduceEqDiff, Nat.reduceLT, Nat.reduceLeDiff, Nat.reduceAdd, Nat.reduceMul, Nat.reduceSub, Nat.reduceBEq, ↓reduceIte, reduceCtorEq, List.map_nil] <;> rfl)
  | true =>
  obtain ⟨hlen, hu⟩ := storeUps hok
  simp only [Bool.not_true, Bool.false_eq_true, if_false, if_true]
  have hnl : (nodesT gs gs.length).length = gs.length := by simp [nodesT]
  split
  · rename_i h1
    have hp : exOk gs c = false := by unfold exOk; rw [decide_eq_false (by omega), Bool.and_false]
    rw [hp, bad hp]
    exact Close.of [none] rfl rfl rfl (by simp only [push_cast, Nat.reduceEqDiff, Nat.reduceLT, Nat.reduceLeDiff, Nat.reduceAdd, Nat.reduceMul, Nat.reduceSub, Nat.reduceBEq, ↓reduceIte, reduceCtorEq] <;> rfl) (by simp only [push_cast, Nat.reduceEqDiff, Nat.reduceLT, Nat.reduceLeDiff, Nat.reduceAdd, Nat.reduceMul, Nat.reduceSub, Nat.reduceBEq, ↓reduceIte, reduceCtorEq, List.map_nil] <;> rfl)
  rename_i h1
  intro _
  split
  · rename_i h2
    have hp : exOk gs c = false := by unfold exOk; rw [decide_eq_false (by omega), Bool.and_false]
    rw [hp, bad hp]
    exact Close.of [none] rfl rfl rfl (by simp only [push_cast, Nat.reduceEqDiff, Nat.reduceLT, Nat.reduceLeDiff, Nat.reduceAdd, Nat.reduceMul, Nat.reduceSub, Nat.reduceBEq, ↓reduceIte, reduceCtorEq] <;> rfl) (by simp only [push_cast, Nat.reduceEqDiff, Nat.reduceLT, Nat.reduceLeDiff, Nat.reduceAdd, Nat.reduceMul, Nat.reduceSub, Nat.reduceBEq, ↓reduceIte, reduceCtorEq, List.map_nil] <;> rfl)
  rename_i h2
  have hp : exOk gs c = true := by unfold exOk; rw [hok, decide_eq_true (by omega)]; rfl
  have hr : exRes gs c = expandOf gs c.toNat := by simp [exRes, hp]
  rw [hp, hr]
  refine ⟨by omega, fun y hy => ?_⟩
  obtain ⟨g, hg⟩ : ∃ g, gs[c.toNat]? = some g := ⟨_, List.getElem?_eq_getElem (by omega)⟩
  have hk := hu c.toNat (by omega) g hg
  have hy' : y = nodeOf gs c.toNat := by
    have hy2 : (nodesT gs gs.length)[c.toNat]? = some y := hy
    unfold nodesT at hy2
    rw [List.getElem?_map, List.getElem?_range (by omega)] at hy2
    simpa using hy2.symm
  rw [nodeOf_eq hg] at hy'
  generalize (if 0 ≤ g.parent ∧ g.parent.toNat < c.toNat then nodeOf gs g.parent.toNat else T.np) = up at hy'
  subst hy'
  have his := fullM_is c.toNat (fun j hj => hu j (by omega)) g hg hk.hi hk.ord fun hn => hk.base (by have := hk.lo; omega)
  have hfl := hk.full
  rw [← his.len] at hfl
  simp -implicitDefEqProofs (maxSteps := 2000000) only [push_cast, Nat.reduceEqDiff, Nat.reduceLT, Nat.reduceLeDiff, Nat.reduceAdd, Nat.reduceMul, Nat.reduceSub, Nat.reduceBEq, ↓reduceIte, reduceCtorEq]
  refine Callx.closed (liveList (fullM gs c.toNat) (expandOf gs c.toNat) hB (by omega) his) rfl rfl (.inl rfl) ?_
  simp -implicitDefEqProofs (maxSteps := 2000000) only [push_cast, Nat.reduceEqDiff, Nat.reduceLT, Nat.reduceLeDiff, Nat.reduceAdd, Nat.reduceMul, Nat.reduceSub, Nat.reduceBEq, ↓reduceIte, reduceCtorEq]
  exact Close.of [some 1] rfl rfl rfl (by simp only [push_cast, Nat.reduceEqDiff, Nat.reduceLT, Nat.reduceLeDiff, Nat.reduceAdd, Nat.reduceMul, Nat.reduceSub, Nat.reduceBEq, ↓reduceIte, reduceCtorEq] <;> rfl) (by simp only [push_cast, Nat.reduceEqDiff, Nat.reduceLT, Nat.reduceLeDiff, Nat.reduceAdd, Nat.reduceMul, Nat.reduceSub, Nat.reduceBEq, ↓reduceIte, reduceCtorEq, List.map_nil] <;> rfl)
end Go.Proofs.Ytmgdkkhnjkepiaa.BX
namespace Go.Proofs.Ytmgdkkhnjkepiaa.BX
set_option linter.unusedSectionVars false
set_option linter.unusedSimpArgs false
set_option linter.unusedVariables false
open Go Go.RowKit
set_option maxRecDepth 20000
set_option maxHeartbeats 400000
noncomputable def fdTo (gs : List Group) (s : List Entry) : Nat → Int
  | 0 => -1
  | i + 1 => if 0 ≤ fdTo gs s i then fdTo gs s i else @ite _ (expandOf gs i = s) (Classical.propDecidable _) (i : Int) (-1)
theorem fdTo_none {gs : List Group} {s : List Entry} : ∀ {i : Nat}, (∀ j < i, expandOf gs j ≠ s) → fdTo gs s i = -1
  | 0, _ => rfl
  | i + 1, h => by
    rw [fdTo, fdTo_none (i := i) (fun j hj => h j (by omega)), if_neg (by omega), if_neg (h i (by omega))]
theorem fdTo_at {gs : List Group} {s : List Entry} {i : Nat} (h : ∀ j < i, expandOf gs j ≠ s) (he : expandOf gs i = s) : ∀ {n : Nat}, i < n → fdTo gs s n = i
  | 0, hn => by omega
  | n + 1, hn => by
    rw [fdTo]
    rcases Nat.lt_or_ge i n with h1 | h1
    · rw [fdTo_at h he h1, if_pos (by omega)]
    · have : n = i := by omega
      subst this
      rw [fdTo_none h, if_neg (by omega), if_pos he]
theorem fdTo_range {gs : List Group} {s : List Entry} : ∀ {i : Nat}, -1 ≤ fdTo gs s i ∧ fdTo gs s i < i
  | 0 => by simp [fdTo]
  | i + 1 => by
    have := fdTo_range (gs := gs) (s := s) (i := i)
    rw [fdTo]
    split
    · omega
    · split <;> omega
theorem fdTo_is {gs : List Group} {s : List Entry} : ∀ {n : Nat}, 0 ≤ fdTo gs s n → expandOf gs (fdTo gs s n).toNat = s
  | 0, h => by simp [fdTo] at h
  | n + 1, h => by
    rw [fdTo] at h ⊢
    split
    · rename_i h1; exact fdTo_is h1
    · rename_i h1
      rw [if_neg h1] at h
      split
      · rename_i h2; rw [Int.toNat_natCast]; exact h2
      · rename_i h2; rw [if_neg h2] at h; omega
noncomputable def newG (gs : List Group) (s : List Entry) (near : Int) : Group := if 0 ≤ near ∧ near < gs.length ∧ linksOf gs near.toNat < 4 then ⟨near, deltaL (expandOf gs near.toNat) s⟩ else ⟨-1, s⟩
noncomputable def svOk (gs : List Group) (s : List Entry) : Bool := storeOk gs && stateOk s
noncomputable def saveG (gs : List Group) (s : List Entry) (near : Int) : List Group := if svOk gs s = true then (if 0 ≤ fdTo gs s gs.length then gs else if 1000 ≤ gs.length then [] else gs ++ [newG gs s near]) else []
noncomputable def saveN (gs : List Group) (s : List Entry) : Int := if svOk gs s = true then (if 0 ≤ fdTo gs s gs.length then fdTo gs s gs.length else if 1000 ≤ gs.length then -1 else gs.length) else -1
theorem setL_ids {s : List Entry} {e : Entry} (h : ∀ x ∈ s, x.id ≠ []) : ∀ x ∈ setL s e false, x.id ≠ [] := by
  intro x hx
  unfold setL at hx
  rcases List.mem_append.1 hx with hx | hx
  · exact h x ((List.takeWhile_prefix _).subset hx)
  · rcases List.mem_append.1 hx with hx | hx
    · split at hx
      · rename_i hc
        simp at hx
        subst hx
        simpa using hc
      · cases hx
    · exact h x (List.mem_filter.1 hx).1
theorem patchL_ids {ch : List Entry} : ∀ {s : List Entry}, (∀ x ∈ s, x.id ≠ []) → ∀ x ∈ patchL s ch, x.id ≠ [] := by
  induction ch with
  | nil => intro s h; exact h
  | cons e ch ih => intro s h; exact ih (setL_ids h)
theorem stateOk_of {s : List Entry} (h1 : inOrd s = true) (h2 : s.length ≤ 300) (h3 : ∀ e ∈ s, e.id ≠ []) : stateOk s = true := by
  unfold stateOk
  simp only [Bool.and_eq_true, decide_eq_true_eq]
  exact ⟨h3, by omega, h1⟩
theorem expandOf_ids {gs : List Group} (i : Nat) (h : ∀ j ≤ i, ∀ g, gs[j]? = some g → OkAt gs j g) : ∀ x ∈ expandOf gs i, x.id ≠ [] := by
  induction i using Nat.strongRecOn with
  | ind i ih =>
    intro x hx
    rw [expandOf] at hx
    split at hx
    · cases hx
    · rename_i g hg
      split at hx
      · rename_i hc
        exact patchL_ids (ih _ hc.2 fun j hj => h j (by omega)) x hx
      · rename_i hc
        have hk := h i (by omega) g hg
        exact (stateOk_ord (hk.base (by have := hk.lo; have := hk.hi; omega))).2.2 x hx
theorem expand_ok {gs : List Group} (h : storeOk gs = true) {i : Nat} (hi : i < gs.length) : stateOk (expandOf gs i) = true := by
  obtain ⟨hl, hu⟩ := storeUps h
  have ho := expandOf_ord (gs := gs) i fun j hj g hg => (hu j (by omega) g hg).ord
  refine stateOk_of (inOrd_of ho) ?_ (expandOf_ids i fun j hj g hg => hu j (by omega) g hg)
  exact (hu i hi _ (List.getElem?_eq_getElem hi)).full
theorem ord_perm {s t : List Entry} (hs : Ordered s) (ht : Ordered t) (hp : List.Perm s t) : s = t :=
  order_one hp ht (hs.imp fun h => before_asymm h)
theorem nodup_sub {α : Type} [DecidableEq α] : ∀ {l m : List α}, l.Nodup → (∀ x ∈ l, x ∈ m) → m.length ≤ l.length → ∀ x ∈ m, x ∈ l
  | [], m, _, _, hl, x, hx => by
    have : m = [] := List.eq_nil_of_length_eq_zero (by simpa using hl)
    subst this; cases hx
  | a :: l, m, hn, hs, hl, x, hx => by
    rw [List.nodup_cons] at hn
    have ha := hs a (by simp)
    by_cases hxa : x = a
    · simp [hxa]
    · have := nodup_sub (l := l) (m := m.erase a) hn.2 (fun y hy => (List.mem_erase_of_ne (by rintro rfl; exact hn.1 hy)).2 (hs y (by simp [hy]))) (by rw [List.length_erase_of_mem ha]; simp at hl ⊢; omega) x ((List.mem_erase_of_ne hxa).2 hx)
      simp [this]
noncomputable def eqM (m n : List (SlotK × List UInt8)) : Bool := decide (m.length = n.length) && @decide (∀ p ∈ m, aget p.1 n = some p.2) (Classical.propDecidable _)
theorem eqM_is {m n : List (SlotK × List UInt8)} {s t : List Entry} (hm : Is m s) (hn : Is n t) : eqM m n = true ↔ s = t := by
  have nm := hm.keys
  have nn := hn.keys
  unfold eqM
  simp only [Bool.and_eq_true, decide_eq_true_eq]
  constructor
  · rintro ⟨hl, ha⟩
    have hsub : ∀ p ∈ m, p ∈ n := fun p hp => (mem_aget nn).2 (ha p hp)
    have hsup := nodup_sub (nodup_keys nm) hsub (by omega)
    have hp : List.Perm m n := (List.perm_ext_iff_of_nodup (nodup_keys nm) (nodup_keys nn)).2 fun p => ⟨hsub p, hsup p⟩
    exact ord_perm hm.2 hn.2 (permE_pairs ((hm.1.symm.trans hp).trans hn.1))
  · rintro rfl
    have hp := hm.1.trans hn.1.symm
    exact ⟨hp.length_eq, fun p hp' => (mem_aget nn).1 (hp.subset hp')⟩
theorem eEntry_inj {a b : Entry} (h : eEntry a = eEntry b) : a = b := by
  cases a; cases b
  simpa [eEntry] using h
variable [Bd]
theorem l4Equal (a b : List Entry) : Con P0 36 [eEntryS a, eEntryS b] (.t (.b (decide (a = b)))) [] := by
  refine Con.intro (fn := Try.f36) [.tmp 4] (fun i => if i = 6 then (9, []) else (0, [])) mixed (by kernel_rfl) rfl (by decide) rfl (by rfl) (by kernel_rfl) ?_
  simp -implicitDefEqProofs (maxSteps := 2000000) only [push_cast, Nat.reduceEqDiff, Nat.reduceLT, Nat.reduceLeDiff, Nat.reduceAdd, Nat.reduceMul, Nat.reduceSub, Nat.reduceBEq, ↓reduceIte, reduceCtorEq]
  intro ha hb
  refine iteI (fun h => ?_) (fun h => ?_)
  · rw [decide_eq_false (fun e => h (by rw [e]))]
  have hl : a.length = b.length := by omega
  have hhi := Bd.hi
  refine WL.loop (ι := Nat) (D := (fun i => if i = 6 then (9, []) else (0, []))) (fun i => i ≤ a.length ∧ a.take i = b.take i) (fun i => ⟨26, [(0, .t (eEntryS a)), (1, .t (eEntryS b)), (5, .t (.i .i64 i))], []⟩) (fun i => a.length - i) mixed (by kernel_rfl) 0 ⟨by omega, by simp⟩ (Keep.wk (ids := []) ?_) ?_
  · simp only [push_cast, Nat.reduceEqDiff, Nat.reduceLT, Nat.reduceLeDiff, Nat.reduceAdd, Nat.reduceMul, Nat.reduceSub, Nat.reduceBEq, ↓reduceIte, reduceCtorEq] <;> rfl
  rintro i ⟨hi, hc⟩
  simp -implicitDefEqProofs (maxSteps := 2000000) only [push_cast, Nat.reduceEqDiff, Nat.reduceLT, Nat.reduceLeDiff, Nat.reduceAdd, Nat.reduceMul, Nat.reduceSub, Nat.reduceBEq, ↓reduceIte, reduceCtorEq, eEntry]
  intro _
  refine iteI (fun h2 => ⟨by omega, fun x hx => ⟨by omega, fun y hy => ?_⟩⟩) (fun h2 => ?_)
  · rw [Int.toNat_natCast] at hx hy
    by_cases hxy : x = y
    · subst hxy
      rw [if_neg (by simp)]
      refine ⟨by unfold inI64; omega, i + 1, ⟨by omega, by rw [List.take_add_one, List.take_add_one, hc, hx, hy]⟩, by omega, Keep.wk (ids := []) ?_⟩
      simp only [push_cast, Nat.reduceEqDiff, Nat.reduceLT, Nat.reduceLeDiff, Nat.reduceAdd, Nat.reduceMul, Nat.reduceSub, Nat.reduceBEq, ↓reduceIte, reduceCtorEq] <;> rfl
    · have hne : ¬ T.ag [T.s x.typ, T.s x.key, T.s x.id] = T.ag [T.s y.typ, T.s y.key, T.s y.id] := fun h => hxy (eEntry_inj h)
      rw [if_pos (@decide_eq_true _ (Classical.propDecidable _) hne), decide_eq_false (fun e => hxy (by rw [e, hy] at hx; exact (Option.some.inj hx).symm))]
  · rw [List.take_of_length_le (by omega), List.take_of_length_le (by omega)] at hc
    rw [decide_eq_true hc]
theorem mapsEqual (m n : List (SlotK × List UInt8)) (hm : (m.map (·.1)).Nodup) (hn : (n.map (·.1)).Nodup) : Con P0 43 [lvT m, lvT n] (.t (.b (eqM m n))) [] := by
  refine Con.intro (fn := Try.f43) [.tmp 4] (fun _ => (0, [])) mixed (by kernel_rfl) rfl (by decide) rfl (by rfl) (by kernel_rfl) ?_
  simp -implicitDefEqProofs (maxSteps := 2000000) only [push_cast, Nat.reduceEqDiff, Nat.reduceLT, Nat.reduceLeDiff, Nat.reduceAdd, Nat.reduceMul, Nat.reduceSub, Nat.reduceBEq, ↓reduceIte, reduceCtorEq, lvT]
  intro hml hnl
  refine iteI (fun h => ?_) (fun h => ?_)
  · have : eqM m n = false := by unfold eqM; rw [decide_eq_false (by omega), Bool.false_and]
    rw [this]
  have hl : m.length = n.length := by omega
  rw [lv_zip]
  have hset : ∀ b, eqM m n = b ↔ (@decide (∀ p ∈ m, aget p.1 n = some p.2) (Classical.propDecidable _)) = b := fun b => by unfold eqM; rw [decide_eq_true hl, Bool.true_and]
  refine WL.loop (ι := List (SlotK × List UInt8)) (D := (fun _ => (0, []))) (fun r => ∃ done, List.Perm (done ++ r) m ∧ ∀ p ∈ done, aget p.1 n = some p.2) (fun r => ⟨34, [(1, .t (lvT n)), (15, .it 0)], [.iter none (r.map lvP)]⟩) (fun r => r.length) mixed (by kernel_rfl) m ⟨[], by simp, by simp⟩ (Keep.wk (ids := [some 0]) ?_) ?_
  · simp only [push_cast, Nat.reduceEqDiff, Nat.reduceLT, Nat.reduceLeDiff, Nat.reduceAdd, Nat.reduceMul, Nat.reduceSub, Nat.reduceBEq, ↓reduceIte, reduceCtorEq, lvT] <;> first | rfl | trivial | exact ⟨rfl, rfl⟩
  rintro r ⟨done, hp, hd⟩
  simp -implicitDefEqProofs (maxSteps := 2000000) only [push_cast, Nat.reduceEqDiff, Nat.reduceLT, Nat.reduceLeDiff, Nat.reduceAdd, Nat.reduceMul, Nat.reduceSub, Nat.reduceBEq, ↓reduceIte, reduceCtorEq, lvT]
  refine ⟨fun h0 => ?_, fun i p hip => ?_⟩
  · have hr : r = [] := by simpa using h0
    subst hr
    rw [List.append_nil] at hp
    rw [(hset true).2 (@decide_eq_true _ (Classical.propDecidable _) fun p hpm => hd p (hp.symm.subset hpm))]
  · rw [List.getElem?_map, Option.map_eq_some_iff] at hip
    obtain ⟨q, hq, rfl⟩ := hip
    have hqm : q ∈ m := hp.subset (List.mem_append_right _ (List.mem_of_getElem? hq))
    simp -implicitDefEqProofs (maxSteps := 2000000) only [push_cast, Nat.reduceEqDiff, Nat.reduceLT, Nat.reduceLeDiff, Nat.reduceAdd, Nat.reduceMul, Nat.reduceSub, Nat.reduceBEq, ↓reduceIte, reduceCtorEq, lvP, eK, lvT]
    have hk : T.ag [T.s q.1.1, T.s q.1.2] = eK q.1 := rfl
    rw [hk]
    have hel := List.length_eraseIdx (l := r) (i := i)
    rw [if_pos (List.getElem?_eq_some_iff.1 hq).1] at hel
    have hil := (List.getElem?_eq_some_iff.1 hq).1
    have bad : aget q.1 n ≠ some q.2 → eqM m n = false := fun h => (hset false).2 (@decide_eq_false _ (Classical.propDecidable _) fun ha => h (ha q hqm))
    refine look_assoc (ev := T.s) eK_inj hn (fun p _ => of_eq_true eK_key) (fun v hv => ?_) (fun hv => ?_)
    · simp -implicitDefEqProofs (maxSteps := 2000000) only [push_cast, Nat.reduceEqDiff, Nat.reduceLT, Nat.reduceLeDiff, Nat.reduceAdd, Nat.reduceMul, Nat.reduceSub, Nat.reduceBEq, ↓reduceIte, reduceCtorEq, lvP, lvT]
      refine iteI (fun h2 => ?_) (fun h2 => ?_)
      · rw [bad (by rw [hv]; intro e; exact h2 (Option.some.inj e).symm)]
      · refine ⟨r.eraseIdx i, ⟨done ++ [q], ?_, fun p hp' => ?_⟩, by omega, Keep.wk (ids := [some 0]) ?_⟩
        · rw [List.append_assoc]
          exact ((erase_pick hq).symm.append_left _).trans hp
        · rcases List.mem_append.1 hp' with h3 | h3
          · exact hd p h3
          · simp at h3; subst h3; rw [hv]; congr 1; exact (Classical.not_not.1 h2).symm
        · simp only [push_cast, Nat.reduceEqDiff, Nat.reduceLT, Nat.reduceLeDiff, Nat.reduceAdd, Nat.reduceMul, Nat.reduceSub, Nat.reduceBEq, ↓reduceIte, reduceCtorEq, eraseE_map, lvT] <;> first | rfl | trivial | exact ⟨rfl, rfl⟩
    · simp -implicitDefEqProofs (maxSteps := 2000000) only [push_cast, Nat.reduceEqDiff, Nat.reduceLT, Nat.reduceLeDiff, Nat.reduceAdd, Nat.reduceMul, Nat.reduceSub, Nat.reduceBEq, ↓reduceIte, reduceCtorEq, lvP, lvT]
      rw [bad (by rw [hv]; simp)]
end Go.Proofs.Ytmgdkkhnjkepiaa.BX
namespace Go.Proofs.Ytmgdkkhnjkepiaa.BX
set_option linter.unusedSectionVars false
set_option linter.unusedSimpArgs false
set_option linter.unusedVariables false
open Go Go.RowKit
set_option maxRecDepth 20000
set_option maxHeartbeats 400000
def nx (b : List UInt8) (p : Nat) : Nat := ((b[p]?).map UInt8.toNat).getD 0
def np (b : List UInt8) (p : Nat) : Nat := if p < b.length then p + 1 else p
theorem nx_lt {b : List UInt8} {p : Nat} : nx b p < 256 := by
  unfold nx
  cases b[p]? with
  | none => simp
  | some c => exact c.toNat_lt
theorem np_le {b : List UInt8} {p : Nat} (h : p ≤ b.length) : np b p ≤ b.length := by unfold np; split <;> omega
def decT (n : Nat) : List UInt8 := if h : n < 10 then [UInt8.ofNat (48 + n)] else decT (n / 10) ++ [UInt8.ofNat (48 + n % 10)]
termination_by n
decreasing_by omega
theorem decT_len : ∀ (n k : Nat), n < 10 ^ (k + 1) → (decT n).length ≤ k + 1
  | n, 0, h => by
    rw [decT, dif_pos (by simpa using h)]
    simp
  | n, k + 1, h => by
    rw [decT]
    split
    · simp
    · rw [List.length_append, List.length_singleton]
      have := decT_len (n / 10) k (by rw [Nat.pow_succ] at h; omega)
      omega
variable [Bd]
abbrev rdO (b : List UInt8) (p : Nat) : Ob := .box (.ag [.t (.sl (b.map eU8)), .t (.i .i64 p)])
theorem rdNext (b : List UInt8) (p : Nat) (hb : b.length ≤ 1000) (hp : p ≤ b.length) : ConM P0 26 [.rf 0 0] [rdO b p] (.t (.i .i64 (nx b p))) [rdO b (np b p)] := by
  refine ConM.intro (fn := Try.f26) [.tmp 2] (fun i => if i = 2 then (12, []) else if i = 1 then (10, []) else (0, [])) mixed (by kernel_rfl) rfl (by decide) rfl (by rfl) (by kernel_rfl) ?_
  simp -implicitDefEqProofs (maxSteps := 2000000) only [push_cast, Nat.reduceEqDiff, Nat.reduceLT, Nat.reduceLeDiff, Nat.reduceAdd, Nat.reduceMul, Nat.reduceSub, Nat.reduceBEq, ↓reduceIte, reduceCtorEq, eU8]
  intro _
  refine iteI (fun h => ⟨by omega, fun c hc => ?_⟩) (fun h => ?_)
  · have hn : nx b p = c.toNat := by unfold nx; rw [show ((p : Int)).toNat = p from Int.toNat_natCast _] at hc; rw [hc]; rfl
    have hp1 : np b p = p + 1 := if_pos (by omega)
    have hc := c.toNat_lt
    rw [hn, hp1, IntWalk.i64_in _ (by omega)]
    exact ⟨by unfold inI64; omega, rfl, Rest.of [some 0] rfl rfl (by simp only [push_cast, Nat.reduceEqDiff, Nat.reduceLT, Nat.reduceLeDiff, Nat.reduceAdd, Nat.reduceMul, Nat.reduceSub, Nat.reduceBEq, ↓reduceIte, reduceCtorEq] <;> first | rfl | exact ⟨rfl, rfl⟩)⟩
  · have hn : nx b p = 0 := by unfold nx; rw [List.getElem?_eq_none (by omega)]; rfl
    have hp1 : np b p = p := if_neg (by omega)
    rw [hn, hp1]
    exact ⟨rfl, Rest.of [some 0] rfl rfl (by simp only [push_cast, Nat.reduceEqDiff, Nat.reduceLT, Nat.reduceLeDiff, Nat.reduceAdd, Nat.reduceMul, Nat.reduceSub, Nat.reduceBEq, ↓reduceIte, reduceCtorEq] <;> first | rfl | exact ⟨rfl, rfl⟩)⟩
theorem l1Open (c : List UInt8) : Con P0 25 [.sl (c.map eU8)] (.rf 0 0) [rdO (c.take 1000) 0] := by
  refine Con.intro (fn := Try.f25) [.tmp 2] (fun _ => (0, [])) mixed (by kernel_rfl) rfl (by decide) rfl (by rfl) (by kernel_rfl) ?_
  simp -implicitDefEqProofs (maxSteps := 2000000) only [push_cast, Nat.reduceEqDiff, Nat.reduceLT, Nat.reduceLeDiff, Nat.reduceAdd, Nat.reduceMul, Nat.reduceSub, Nat.reduceBEq, ↓reduceIte, reduceCtorEq, eU8]
  intro _
  refine iteI (fun h => ⟨by omega, ?_⟩) (fun h => ?_)
  · exact Close.of [some 0] rfl rfl rfl (by simp only [push_cast, Nat.reduceEqDiff, Nat.reduceLT, Nat.reduceLeDiff, Nat.reduceAdd, Nat.reduceMul, Nat.reduceSub, Nat.reduceBEq, ↓reduceIte, reduceCtorEq]) (by simp only [push_cast, Nat.reduceEqDiff, Nat.reduceLT, Nat.reduceLeDiff, Nat.reduceAdd, Nat.reduceMul, Nat.reduceSub, Nat.reduceBEq, ↓reduceIte, reduceCtorEq, List.map_take] <;> first | rfl | exact ⟨rfl, rfl⟩)
  · rw [List.take_of_length_le (by omega)]
    exact Close.of [some 0] rfl rfl rfl (by simp only [push_cast, Nat.reduceEqDiff, Nat.reduceLT, Nat.reduceLeDiff, Nat.reduceAdd, Nat.reduceMul, Nat.reduceSub, Nat.reduceBEq, ↓reduceIte, reduceCtorEq]) (by simp only [push_cast, Nat.reduceEqDiff, Nat.reduceLT, Nat.reduceLeDiff, Nat.reduceAdd, Nat.reduceMul, Nat.reduceSub, Nat.reduceBEq, ↓reduceIte, reduceCtorEq] <;> first | rfl | exact ⟨rfl, rfl⟩)
theorem l1User (k : Nat) (hk : k < 1000) : Con P0 63 [.i .i64 k] (.t (.s [64, UInt8.ofNat (97 + k % 4)])) [] := by
  refine Con.intro (fn := Try.f63) [.tmp 2] (fun _ => (0, [])) mixed (by kernel_rfl) rfl (by decide) rfl (by rfl) (by kernel_rfl) ?_
  simp -implicitDefEqProofs (maxSteps := 2000000) only [push_cast, Nat.reduceEqDiff, Nat.reduceLT, Nat.reduceLeDiff, Nat.reduceAdd, Nat.reduceMul, Nat.reduceSub, Nat.reduceBEq, ↓reduceIte, reduceCtorEq]
  have := Bd.lo
  have e1 : ((k : Int) % 4).toNat = k % 4 := by omega
  have e2 : ((k : Int) % 4 + 1).toNat = k % 4 + 1 := by omega
  rw [e1, e2]
  have h4 : k % 4 = 0 ∨ k % 4 = 1 ∨ k % 4 = 2 ∨ k % 4 = 3 := by omega
  refine ⟨by omega, by omega, by omega, by omega, by unfold inI64; omega, by omega, ?_, ?_⟩
  · simp only [List.length_drop, List.length_take, List.length_cons, List.length_nil]
    omega
  · rcases h4 with h | h | h | h <;> rw [h] <;> rfl
theorem l1Dec : ∀ (n : Nat), n < 10000000000000000 → Con P0 29 [.i .i64 n] (.t (.s (decT n))) [] := by
  intro n
  induction n using Nat.strongRecOn with
  | ind n ih =>
  intro hn
  refine Con.intro (fn := Try.f29) [.tmp 2] (fun i => if i = 5 then (11, [(false, 0), (false, 1), (false, 2), (false, 3), (false, 4), (false, 5), (false, 6), (true, 7), (false, 8), (false, 9), (false, 10)]) else (0, [])) mixed (by kernel_rfl) rfl (by decide) rfl (by rfl) (by kernel_rfl) ?_
  simp -implicitDefEqProofs (maxSteps := 2000000) only [push_cast, Nat.reduceEqDiff, Nat.reduceLT, Nat.reduceLeDiff, Nat.reduceAdd, Nat.reduceMul, Nat.reduceSub, Nat.reduceBEq, ↓reduceIte, reduceCtorEq]
  have := Bd.lo
  refine iteI (fun h => by omega) (fun _ => iteI (fun h => ?_) (fun h => ?_))
  · rw [IntWalk.u8_in _ (by omega), decT, dif_pos (by omega), show ((48 : Int) + n).toNat = 48 + n by omega]
    exact ⟨by unfold inI64; omega, rfl, by omega, rfl⟩
  · refine ⟨by omega, by omega, by unfold inI64; omega, ?_⟩
    refine CallV.t (by have := ih (n / 10) (by omega) (by omega); rw [show (n : Int) / 10 = ((n / 10 : Nat) : Int) by omega]; exact this) (.inl rfl) ?_
    simp -implicitDefEqProofs (maxSteps := 2000000) only [push_cast, Nat.reduceEqDiff, Nat.reduceLT, Nat.reduceLeDiff, Nat.reduceAdd, Nat.reduceMul, Nat.reduceSub, Nat.reduceBEq, ↓reduceIte, reduceCtorEq]
    have hl := decT_len (n / 10) 15 (by omega)
    rw [IntWalk.u8_in _ (by omega), show ((48 : Int) + n % 10).toNat = 48 + n % 10 by omega]
    refine ⟨by omega, by omega, by unfold inI64; omega, rfl, by omega, by omega, ?_⟩
    conv => rhs; rw [decT, dif_neg (by omega)]
def userT (k : Nat) : List UInt8 := [64, UInt8.ofNat (97 + k % 4)]
def typeAt (k : Nat) : List UInt8 := if k % 4 = 0 then [99, 114, 101, 97, 116, 101] else if k % 4 = 1 then [109, 101, 109, 98, 101, 114] else if k % 4 = 2 then [112, 111, 119, 101, 114] else [116, 111, 112, 105, 99]
def slotAt (k : Nat) : Entry := ⟨typeAt k, if k % 4 = 1 ∨ k % 8 = 7 then userT (k / 8) else [], 36 :: decT (k / 16)⟩
theorem l4Slot (b : List UInt8) (p : Nat) (hb : b.length ≤ 1000) (hp : p ≤ b.length) : ConM P0 33 [.rf 0 0] [rdO b p] (.t (eEntry (slotAt (nx b p)))) [rdO b (np b p)] := by
  refine ConM.intro (fn := Try.f33) [.cell 2 38] (fun i => if i = 2 then (2000002, [(true, 3), (false, 1), (true, 2), (true, 3), (false, 0), (true, 2), (true, 3), (false, 0), (true, 3), (false, 0), (true, 3), (false, 0), (true, 2), (true, 3), (false, 0), (true, 2), (true, 3), (false, 0), (true, 2), (true, 3), (false, 0), (true, 2), (true, 3), (false, 0), (true, 3), (false, 0), (true, 2), (false, 1)]) else (0, [])) mixed (by kernel_rfl) rfl (by decide) rfl (by rfl) (by kernel_rfl) ?_
  simp -implicitDefEqProofs (maxSteps := 2000000) only [push_cast, Nat.reduceEqDiff, Nat.reduceLT, Nat.reduceLeDiff, Nat.reduceAdd, Nat.reduceMul, Nat.reduceSub, Nat.reduceBEq, ↓reduceIte, reduceCtorEq]
  refine Callx.hand [0] (rdNext b p hb hp) (by decide) (by simp only [push_cast, Nat.reduceEqDiff, Nat.reduceLT, Nat.reduceLeDiff, Nat.reduceAdd, Nat.reduceMul, Nat.reduceSub, Nat.reduceBEq, ↓reduceIte, reduceCtorEq]) rfl rfl (by simp only [push_cast, Nat.reduceEqDiff, Nat.reduceLT, Nat.reduceLeDiff, Nat.reduceAdd, Nat.reduceMul, Nat.reduceSub, Nat.reduceBEq, ↓reduceIte, reduceCtorEq] <;> rfl) rfl (.inr ⟨rfl, by simp only [push_cast, Nat.reduceEqDiff, Nat.reduceLT, Nat.reduceLeDiff, Nat.reduceAdd, Nat.reduceMul, Nat.reduceSub, Nat.reduceBEq, ↓reduceIte, reduceCtorEq]⟩) ?_
  simp -implicitDefEqProofs (maxSteps := 2000000) only [push_cast, Nat.reduceEqDiff, Nat.reduceLT, Nat.reduceLeDiff, Nat.reduceAdd, Nat.reduceMul, Nat.reduceSub, Nat.reduceBEq, ↓reduceIte, reduceCtorEq]
  have := Bd.lo
  have hk := nx_lt (b := b) (p := p)
  generalize nx b p = k at *
  have e1 : ((k : Int) % 4).toNat = k % 4 := by omega
  rw [e1]
  refine ⟨rfl, by omega, by omega, by omega, by omega, by omega, fun y hy => ?_⟩
  have hy : y = .s (typeAt k) := by
    have h4 : k % 4 = 0 ∨ k % 4 = 1 ∨ k % 4 = 2 ∨ k % 4 = 3 := by omega
    unfold typeAt
    rcases h4 with h | h | h | h <;> rw [h] at hy ⊢ <;> (cases hy; rfl)
  subst hy
  simp -implicitDefEqProofs (maxSteps := 2000000) only [push_cast, Nat.reduceEqDiff, Nat.reduceLT, Nat.reduceLeDiff, Nat.reduceAdd, Nat.reduceMul, Nat.reduceSub, Nat.reduceBEq, ↓reduceIte, reduceCtorEq]
  have e16 : (k : Int) / 16 = ((k / 16 : Nat) : Int) := by omega
  rw [e16]
  refine ⟨by omega, by omega, by unfold inI64; omega, ?_⟩
  refine CallV.t (l1Dec (k / 16) (by omega)) (.inl rfl) ?_
  simp -implicitDefEqProofs (maxSteps := 2000000) only [push_cast, Nat.reduceEqDiff, Nat.reduceLT, Nat.reduceLeDiff, Nat.reduceAdd, Nat.reduceMul, Nat.reduceSub, Nat.reduceBEq, ↓reduceIte, reduceCtorEq]
  have e8 : (k : Int) / 8 = ((k / 8 : Nat) : Int) := by omega
  rw [e8]
  have hl := decT_len (k / 16) 15 (by omega)
  have hh : inI64 (k : Int) := by unfold inI64; omega
  refine ⟨by omega, by omega, by omega, iteI (fun h1 => ⟨by omega, by omega, hh, ?_⟩) (fun h1 => ⟨by omega, by omega, iteI (fun h2 => ⟨by omega, by omega, hh, ?_⟩) (fun h2 => ?_)⟩)⟩
  · refine Callx.closed (l1User (k / 8) (by omega)) rfl rfl (.inl rfl) ?_
    simp -implicitDefEqProofs (maxSteps := 2000000) only [push_cast, Nat.reduceEqDiff, Nat.reduceLT, Nat.reduceLeDiff, Nat.reduceAdd, Nat.reduceMul, Nat.reduceSub, Nat.reduceBEq, ↓reduceIte, reduceCtorEq]
    refine ⟨by rw [slotAt, if_pos (.inl (by omega))]; rfl, Rest.of [some 0] rfl rfl (by simp only [push_cast, Nat.reduceEqDiff, Nat.reduceLT, Nat.reduceLeDiff, Nat.reduceAdd, Nat.reduceMul, Nat.reduceSub, Nat.reduceBEq, ↓reduceIte, reduceCtorEq] <;> rfl)⟩
  · refine Callx.closed (l1User (k / 8) (by omega)) rfl rfl (.inl rfl) ?_
    simp -implicitDefEqProofs (maxSteps := 2000000) only [push_cast, Nat.reduceEqDiff, Nat.reduceLT, Nat.reduceLeDiff, Nat.reduceAdd, Nat.reduceMul, Nat.reduceSub, Nat.reduceBEq, ↓reduceIte, reduceCtorEq]
    refine ⟨by rw [slotAt, if_pos (.inr (by omega))]; rfl, Rest.of [some 0] rfl rfl (by simp only [push_cast, Nat.reduceEqDiff, Nat.reduceLT, Nat.reduceLeDiff, Nat.reduceAdd, Nat.reduceMul, Nat.reduceSub, Nat.reduceBEq, ↓reduceIte, reduceCtorEq] <;> rfl)⟩
  · refine ⟨by rw [slotAt, if_neg (by omega)]; rfl, Rest.of [some 0] rfl rfl (by simp only [push_cast, Nat.reduceEqDiff, Nat.reduceLT, Nat.reduceLeDiff, Nat.reduceAdd, Nat.reduceMul, Nat.reduceSub, Nat.reduceBEq, ↓reduceIte, reduceCtorEq] <;> rfl)⟩
def drawTo (b : List UInt8) (p : Nat) : Nat → List Entry × Nat
  | 0 => ([], p)
  | i + 1 => (setL (drawTo b p i).1 (slotAt (nx b (drawTo b p i).2)) false, np b (drawTo b p i).2)
def drawL (b : List UInt8) (p : Nat) : List Entry × Nat := drawTo b (np b p) (nx b p % 7)
theorem drawTo_p {b : List UInt8} {p : Nat} (hp : p ≤ b.length) : ∀ {i : Nat}, (drawTo b p i).2 ≤ b.length
  | 0 => hp
  | i + 1 => np_le (drawTo_p hp)
theorem drawTo_ord {b : List UInt8} {p : Nat} : ∀ {i : Nat}, Ordered (drawTo b p i).1 ∧ (drawTo b p i).1.length ≤ i
  | 0 => ⟨.nil, Nat.zero_le _⟩
  | i + 1 => ⟨(setL_spec (drawTo_ord (i := i)).1).1, by
      have h1 := setL_len_ord (e := slotAt (nx b (drawTo b p i).2)) (keep := false) (drawTo_ord (b := b) (p := p) (i := i)).1
      have h2 := (drawTo_ord (b := b) (p := p) (i := i)).2
      show (setL _ _ _).length ≤ _
      omega⟩
theorem l4Draw (b : List UInt8) (p : Nat) (hB : Bd.B ≤ 2147483648) (hb : b.length ≤ 1000) (hp : p ≤ b.length) : ConM P0 58 [.rf 0 0] [rdO b p] (.sr 1) [rdO b (drawL b p).2, enO (drawL b p).1] := by
  refine ConM.intro (fn := Try.f58) [.tmp 2] (fun _ => (0, [])) mixed (by kernel_rfl) rfl (by decide) rfl (by rfl) (by kernel_rfl) ?_
  simp -implicitDefEqProofs (maxSteps := 2000000) only [push_cast, Nat.reduceEqDiff, Nat.reduceLT, Nat.reduceLeDiff, Nat.reduceAdd, Nat.reduceMul, Nat.reduceSub, Nat.reduceBEq, ↓reduceIte, reduceCtorEq]
  have := Bd.lo
  refine ⟨rfl, by omega, ?_⟩
  refine Callx.hand [0] (rdNext b p hb hp) (by decide) (by simp only [push_cast, Nat.reduceEqDiff, Nat.reduceLT, Nat.reduceLeDiff, Nat.reduceAdd, Nat.reduceMul, Nat.reduceSub, Nat.reduceBEq, ↓reduceIte, reduceCtorEq]) rfl rfl (by simp only [push_cast, Nat.reduceEqDiff, Nat.reduceLT, Nat.reduceLeDiff, Nat.reduceAdd, Nat.reduceMul, Nat.reduceSub, Nat.reduceBEq, ↓reduceIte, reduceCtorEq] <;> rfl) rfl (.inr ⟨rfl, by simp only [push_cast, Nat.reduceEqDiff, Nat.reduceLT, Nat.reduceLeDiff, Nat.reduceAdd, Nat.reduceMul, Nat.reduceSub, Nat.reduceBEq, ↓reduceIte, reduceCtorEq]⟩) ?_
  simp -implicitDefEqProofs (maxSteps := 2000000) only [push_cast, Nat.reduceEqDiff, Nat.reduceLT, Nat.reduceLeDiff, Nat.reduceAdd, Nat.reduceMul, Nat.reduceSub, Nat.reduceBEq, ↓reduceIte, reduceCtorEq]
  have hnp := np_le hp
  generalize hn : nx b p % 7 = n at *
  have hL : drawL b p = drawTo b (np b p) n := by rw [drawL, hn]
  have e7 : ((nx b p : Nat) : Int) % 7 = ((n : Nat) : Int) := by omega
  rw [e7, hL]
  refine ⟨by omega, by omega, ?_⟩
  refine WL.loop (ι := Nat) (D := (fun _ => (0, []))) (fun i => i ≤ n) (fun i => ⟨20, [(0, .rf 0 0), (3, .sr 1), (4, .t (.i .i64 n)), (5, .t (.i .i64 i))], [rdO b (drawTo b (np b p) i).2, enO (drawTo b (np b p) i).1]⟩) (fun i => n - i) mixed (by kernel_rfl) 0 (by omega) (Keep.wk (ids := [some 0, some 1]) ?_) ?_
  · simp only [push_cast, Nat.reduceEqDiff, Nat.reduceLT, Nat.reduceLeDiff, Nat.reduceAdd, Nat.reduceMul, Nat.reduceSub, Nat.reduceBEq, ↓reduceIte, reduceCtorEq, drawTo] <;> trivial
  intro i hi
  have hol := drawTo_ord (b := b) (p := np b p) (i := i)
  have hpi := drawTo_p hnp (i := i)
  simp -implicitDefEqProofs (maxSteps := 2000000) only [push_cast, Nat.reduceEqDiff, Nat.reduceLT, Nat.reduceLeDiff, Nat.reduceAdd, Nat.reduceMul, Nat.reduceSub, Nat.reduceBEq, ↓reduceIte, reduceCtorEq]
  split
  · rename_i h
    refine Callx.hand [0] (l4Slot b (drawTo b (np b p) i).2 hb hpi) (by decide) (by simp only [push_cast, Nat.reduceEqDiff, Nat.reduceLT, Nat.reduceLeDiff, Nat.reduceAdd, Nat.reduceMul, Nat.reduceSub, Nat.reduceBEq, ↓reduceIte, reduceCtorEq]) rfl rfl (by simp only [push_cast, Nat.reduceEqDiff, Nat.reduceLT, Nat.reduceLeDiff, Nat.reduceAdd, Nat.reduceMul, Nat.reduceSub, Nat.reduceBEq, ↓reduceIte, reduceCtorEq] <;> rfl) rfl (.inr ⟨rfl, by simp only [push_cast, Nat.reduceEqDiff, Nat.reduceLT, Nat.reduceLeDiff, Nat.reduceAdd, Nat.reduceMul, Nat.reduceSub, Nat.reduceBEq, ↓reduceIte, reduceCtorEq]⟩) ?_
    simp -implicitDefEqProofs (maxSteps := 2000000) only [push_cast, Nat.reduceEqDiff, Nat.reduceLT, Nat.reduceLeDiff, Nat.reduceAdd, Nat.reduceMul, Nat.reduceSub, Nat.reduceBEq, ↓reduceIte, reduceCtorEq]
    refine Callx.closed (l4Set (drawTo b (np b p) i).1 (slotAt (nx b (drawTo b (np b p) i).2)) false hB (by omega)) rfl rfl (.inr ⟨rfl, rfl⟩) ?_
    simp -implicitDefEqProofs (maxSteps := 2000000) only [push_cast, Nat.reduceEqDiff, Nat.reduceLT, Nat.reduceLeDiff, Nat.reduceAdd, Nat.reduceMul, Nat.reduceSub, Nat.reduceBEq, ↓reduceIte, reduceCtorEq]
    refine ⟨by unfold inI64; omega, i + 1, by omega, by omega, Keep.wk (ids := [some 0, some 2]) ?_⟩
    simp only [push_cast, Nat.reduceEqDiff, Nat.reduceLT, Nat.reduceLeDiff, Nat.reduceAdd, Nat.reduceMul, Nat.reduceSub, Nat.reduceBEq, ↓reduceIte, reduceCtorEq, drawTo] <;> rfl
  · have hi : i = n := by omega
    subst hi
    refine Close.of [some 0, some 1] rfl rfl rfl (by simp only [push_cast, Nat.reduceEqDiff, Nat.reduceLT, Nat.reduceLeDiff, Nat.reduceAdd, Nat.reduceMul, Nat.reduceSub, Nat.reduceBEq, ↓reduceIte, reduceCtorEq] <;> rfl) (by simp only [push_cast, Nat.reduceEqDiff, Nat.reduceLT, Nat.reduceLeDiff, Nat.reduceAdd, Nat.reduceMul, Nat.reduceSub, Nat.reduceBEq, ↓reduceIte, reduceCtorEq] <;> rfl)
def spoilIn (k : Nat) (s : List Entry) : List Entry := match s[k / 3 % s.length]? with
  | some e => s.set (k / 3 % s.length) (if k % 3 = 0 then ⟨e.typ, e.key, []⟩ else ⟨[122, 122], e.key, e.id⟩)
  | none => s
def spoilOut (k : Nat) (s : List Entry) : List Entry := match s[k / 3 % s.length]? with
  | some e => s ++ [e]
  | none => [⟨[120], [], []⟩]
theorem spoil_at {k n : Nat} (h : 0 < n) : (((k : Int) / 3 % (n : Int)).toNat = k / 3 % n ∧ k / 3 % n < n) ∧ (0 ≤ (k : Int) / 3 % (n : Int) ∧ (k : Int) / 3 % (n : Int) < n) := by
  have h1 : (k : Int) / 3 % (n : Int) = ((k / 3 % n : Nat) : Int) := by rw [show (k : Int) / 3 = ((k / 3 : Nat) : Int) by omega]; exact (Int.natCast_emod _ _).symm
  have := Nat.mod_lt (k / 3) h
  rw [h1]
  refine ⟨⟨by omega, this⟩, by omega, by omega⟩
theorem l4SpoilIn (b : List UInt8) (p : Nat) (s : List Entry) (hb : b.length ≤ 1000) (hp : p ≤ b.length) (hs : ¬ s = [] ∧ nx b p % 3 ≠ 1) : ConM P0 59 [.rf 0 0, .sr 1] [rdO b p, enO s] (.sr 1) [rdO b (np b p), enO (spoilIn (nx b p) s)] := by
  refine ConM.intro (fn := Try.f59) [.tmp 4] (fun _ => (0, [])) mixed (by kernel_rfl) rfl (by decide) rfl (by rfl) (by kernel_rfl) ?_
  simp -implicitDefEqProofs (maxSteps := 2000000) only [push_cast, Nat.reduceEqDiff, Nat.reduceLT, Nat.reduceLeDiff, Nat.reduceAdd, Nat.reduceMul, Nat.reduceSub, Nat.reduceBEq, ↓reduceIte, reduceCtorEq]
  have := Bd.lo
  refine Callx.hand [0] (rdNext b p hb hp) (by decide) (by simp only [push_cast, Nat.reduceEqDiff, Nat.reduceLT, Nat.reduceLeDiff, Nat.reduceAdd, Nat.reduceMul, Nat.reduceSub, Nat.reduceBEq, ↓reduceIte, reduceCtorEq]) rfl rfl (by simp only [push_cast, Nat.reduceEqDiff, Nat.reduceLT, Nat.reduceLeDiff, Nat.reduceAdd, Nat.reduceMul, Nat.reduceSub, Nat.reduceBEq, ↓reduceIte, reduceCtorEq] <;> rfl) rfl (.inr ⟨rfl, by simp only [push_cast, Nat.reduceEqDiff, Nat.reduceLT, Nat.reduceLeDiff, Nat.reduceAdd, Nat.reduceMul, Nat.reduceSub, Nat.reduceBEq, ↓reduceIte, reduceCtorEq]⟩) ?_
  simp -implicitDefEqProofs (maxSteps := 2000000) only [push_cast, Nat.reduceEqDiff, Nat.reduceLT, Nat.reduceLeDiff, Nat.reduceAdd, Nat.reduceMul, Nat.reduceSub, Nat.reduceBEq, ↓reduceIte, reduceCtorEq, eEntry]
  have h0 : 0 < s.length := List.length_pos_iff.2 hs.1
  have hk := nx_lt (b := b) (p := p)
  generalize nx b p = k at *
  obtain ⟨⟨e1, e2⟩, e3⟩ := spoil_at (k := k) h0
  obtain ⟨x, hx⟩ : ∃ x, s[k / 3 % s.length]? = some x := ⟨_, List.getElem?_eq_getElem e2⟩
  have h64 : inI64 (k : Int) := by unfold inI64; omega
  have hst : ∀ (l : List Entry) (i : Nat) (z : Entry), (l.map eEntry).set i (eEntry z) = (l.set i z).map eEntry := fun l i z => by rw [List.map_set]
  rw [e1]
  intro _
  refine iteI (fun h => by omega) (fun _ => ⟨by omega, by omega, h64, fun _ => ⟨by omega, by omega, by omega, by omega, iteI (fun h => ⟨e3, e2, fun a ha => ?_⟩) (fun h => ⟨by omega, by omega, iteI (fun h => by omega) (fun h2 => ⟨e3, e2, fun a ha => ?_⟩)⟩)⟩⟩)
  · rw [hx] at ha
    cases ha
    rw [show T.ag [T.s x.typ, T.s x.key, T.s []] = eEntry ⟨x.typ, x.key, []⟩ from rfl, hst]
    refine Close.of [some 0, some 1] rfl rfl rfl (by simp only [push_cast, Nat.reduceEqDiff, Nat.reduceLT, Nat.reduceLeDiff, Nat.reduceAdd, Nat.reduceMul, Nat.reduceSub, Nat.reduceBEq, ↓reduceIte, reduceCtorEq] <;> rfl) ?_
    simp only [push_cast, Nat.reduceEqDiff, Nat.reduceLT, Nat.reduceLeDiff, Nat.reduceAdd, Nat.reduceMul, Nat.reduceSub, Nat.reduceBEq, ↓reduceIte, reduceCtorEq, spoilIn, hx, if_pos (show k % 3 = 0 by omega)] <;> rfl
  · rw [hx] at ha
    cases ha
    rw [show T.ag [T.s [122, 122], T.s x.key, T.s x.id] = eEntry ⟨[122, 122], x.key, x.id⟩ from rfl, hst]
    refine Close.of [some 0, some 1] rfl rfl rfl (by simp only [push_cast, Nat.reduceEqDiff, Nat.reduceLT, Nat.reduceLeDiff, Nat.reduceAdd, Nat.reduceMul, Nat.reduceSub, Nat.reduceBEq, ↓reduceIte, reduceCtorEq] <;> rfl) ?_
    simp only [push_cast, Nat.reduceEqDiff, Nat.reduceLT, Nat.reduceLeDiff, Nat.reduceAdd, Nat.reduceMul, Nat.reduceSub, Nat.reduceBEq, ↓reduceIte, reduceCtorEq, spoilIn, hx, if_neg (show ¬ k % 3 = 0 by omega)] <;> rfl
theorem l4SpoilOut (b : List UInt8) (p : Nat) (s : List Entry) (hB : Bd.B ≤ 2147483648) (hl : s.length + 1 < Bd.B) (hb : b.length ≤ 1000) (hp : p ≤ b.length) (hs : s = [] ∨ nx b p % 3 = 1) : ConM P0 59 [.rf 0 0, .sr 1] [rdO b p, enO s] (.sr 2) [rdO b (np b p), .dead, enO (spoilOut (nx b p) s)] := by
  refine ConM.intro (fn := Try.f59) [.tmp 4] (fun _ => (0, [])) mixed (by kernel_rfl) rfl (by decide) rfl (by rfl) (by kernel_rfl) ?_
  simp -implicitDefEqProofs (maxSteps := 2000000) only [push_cast, Nat.reduceEqDiff, Nat.reduceLT, Nat.reduceLeDiff, Nat.reduceAdd, Nat.reduceMul, Nat.reduceSub, Nat.reduceBEq, ↓reduceIte, reduceCtorEq]
  have := Bd.lo
  refine Callx.hand [0] (rdNext b p hb hp) (by decide) (by simp only [push_cast, Nat.reduceEqDiff, Nat.reduceLT, Nat.reduceLeDiff, Nat.reduceAdd, Nat.reduceMul, Nat.reduceSub, Nat.reduceBEq, ↓reduceIte, reduceCtorEq]) rfl rfl (by simp only [push_cast, Nat.reduceEqDiff, Nat.reduceLT, Nat.reduceLeDiff, Nat.reduceAdd, Nat.reduceMul, Nat.reduceSub, Nat.reduceBEq, ↓reduceIte, reduceCtorEq] <;> rfl) rfl (.inr ⟨rfl, by simp only [push_cast, Nat.reduceEqDiff, Nat.reduceLT, Nat.reduceLeDiff, Nat.reduceAdd, Nat.reduceMul, Nat.reduceSub, Nat.reduceBEq, ↓reduceIte, reduceCtorEq]⟩) ?_
  simp -implicitDefEqProofs (maxSteps := 2000000) only [push_cast, Nat.reduceEqDiff, Nat.reduceLT, Nat.reduceLeDiff, Nat.reduceAdd, Nat.reduceMul, Nat.reduceSub, Nat.reduceBEq, ↓reduceIte, reduceCtorEq, eEntry]
  have hk := nx_lt (b := b) (p := p)
  generalize nx b p = k at *
  have h64 : inI64 (k : Int) := by unfold inI64; omega
  intro _
  refine iteI (fun h => ⟨rfl, by omega, rfl, by omega, by omega, ?_⟩) (fun h0 => ⟨by omega, by omega, h64, fun _ => ⟨by omega, by omega, by omega, by omega, ?_⟩⟩)
  · have h0 : s = [] := List.eq_nil_of_length_eq_zero (by omega)
    subst h0
    refine Close.of [some 0, some 1, some 3] rfl rfl rfl (by simp only [push_cast, Nat.reduceEqDiff, Nat.reduceLT, Nat.reduceLeDiff, Nat.reduceAdd, Nat.reduceMul, Nat.reduceSub, Nat.reduceBEq, ↓reduceIte, reduceCtorEq] <;> rfl) ?_
    simp only [push_cast, Nat.reduceEqDiff, Nat.reduceLT, Nat.reduceLeDiff, Nat.reduceAdd, Nat.reduceMul, Nat.reduceSub, Nat.reduceBEq, ↓reduceIte, reduceCtorEq, spoilOut, List.getElem?_nil] <;> rfl
  have h0 : 0 < s.length := by omega
  have h3 : k % 3 = 1 := by
    rcases hs with hs | hs
    · subst hs; simp at h0
    · exact hs
  obtain ⟨⟨e1, e2⟩, e3⟩ := spoil_at (k := k) h0
  obtain ⟨x, hx⟩ : ∃ x, s[k / 3 % s.length]? = some x := ⟨_, List.getElem?_eq_getElem e2⟩
  rw [e1]
  refine iteI (fun h => by omega) (fun h => ⟨by omega, by omega, iteI (fun h => ⟨e3, e2, fun a ha => ⟨rfl, by omega, rfl, by omega, by omega, ?_⟩⟩) (fun h2 => by omega)⟩)
  rw [hx] at ha
  cases ha
  refine Close.of [some 0, some 1, some 3] rfl rfl rfl (by simp only [push_cast, Nat.reduceEqDiff, Nat.reduceLT, Nat.reduceLeDiff, Nat.reduceAdd, Nat.reduceMul, Nat.reduceSub, Nat.reduceBEq, ↓reduceIte, reduceCtorEq] <;> rfl) ?_
  simp only [push_cast, Nat.reduceEqDiff, Nat.reduceLT, Nat.reduceLeDiff, Nat.reduceAdd, Nat.reduceMul, Nat.reduceSub, Nat.reduceBEq, ↓reduceIte, reduceCtorEq, spoilOut, hx, List.map_append] <;> rfl
def spoilL (k : Nat) (s : List Entry) : List Entry := if s = [] ∨ k % 3 = 1 then spoilOut k s else spoilIn k s
def anyL (b : List UInt8) (p : Nat) : List Entry × Nat :=
  if nx b p % 6 = 5 then (spoilL (nx b (drawL b (np b p)).2) (drawL b (np b p)).1, np b (drawL b (np b p)).2) else drawL b (np b p)
theorem drawL_p {b : List UInt8} {p : Nat} (hp : p ≤ b.length) : (drawL b p).2 ≤ b.length := drawTo_p (np_le hp)
theorem drawL_len {b : List UInt8} {p : Nat} : (drawL b p).1.length ≤ 6 := by
  have := (drawTo_ord (b := b) (p := np b p) (i := nx b p % 7)).2
  unfold drawL
  omega
theorem anyL_p {b : List UInt8} {p : Nat} (hp : p ≤ b.length) : (anyL b p).2 ≤ b.length := by
  unfold anyL
  split
  · exact np_le (drawL_p (np_le hp))
  · exact drawL_p (np_le hp)
theorem l4DrawAny (b : List UInt8) (p : Nat) (hB : Bd.B ≤ 2147483648) (hb : b.length ≤ 1000) (hp : p ≤ b.length) : ConM P0 28 [.rf 0 0] [rdO b p] (.sr 1) [rdO b (anyL b p).2, enO (anyL b p).1] := by
  refine ConM.intro (fn := Try.f28) [.tmp 2] (fun _ => (0, [])) mixed (by kernel_rfl) rfl (by decide) rfl (by rfl) (by kernel_rfl) ?_
  simp -implicitDefEqProofs (maxSteps := 2000000) only [push_cast, Nat.reduceEqDiff, Nat.reduceLT, Nat.reduceLeDiff, Nat.reduceAdd, Nat.reduceMul, Nat.reduceSub, Nat.reduceBEq, ↓reduceIte, reduceCtorEq]
  have := Bd.lo
  have hl := drawL_len (b := b) (p := np b p)
  refine Callx.hand [0] (rdNext b p hb hp) (by decide) (by simp only [push_cast, Nat.reduceEqDiff, Nat.reduceLT, Nat.reduceLeDiff, Nat.reduceAdd, Nat.reduceMul, Nat.reduceSub, Nat.reduceBEq, ↓reduceIte, reduceCtorEq]) rfl rfl (by simp only [push_cast, Nat.reduceEqDiff, Nat.reduceLT, Nat.reduceLeDiff, Nat.reduceAdd, Nat.reduceMul, Nat.reduceSub, Nat.reduceBEq, ↓reduceIte, reduceCtorEq] <;> rfl) rfl (.inr ⟨rfl, by simp only [push_cast, Nat.reduceEqDiff, Nat.reduceLT, Nat.reduceLeDiff, Nat.reduceAdd, Nat.reduceMul, Nat.reduceSub, Nat.reduceBEq, ↓reduceIte, reduceCtorEq]⟩) ?_
  simp -implicitDefEqProofs (maxSteps := 2000000) only [push_cast, Nat.reduceEqDiff, Nat.reduceLT, Nat.reduceLeDiff, Nat.reduceAdd, Nat.reduceMul, Nat.reduceSub, Nat.reduceBEq, ↓reduceIte, reduceCtorEq]
  refine Callx.hand [0] (l4Draw b (np b p) hB hb (np_le hp)) (by decide) (by simp only [push_cast, Nat.reduceEqDiff, Nat.reduceLT, Nat.reduceLeDiff, Nat.reduceAdd, Nat.reduceMul, Nat.reduceSub, Nat.reduceBEq, ↓reduceIte, reduceCtorEq]) rfl rfl (by simp only [push_cast, Nat.reduceEqDiff, Nat.reduceLT, Nat.reduceLeDiff, Nat.reduceAdd, Nat.reduceMul, Nat.reduceSub, Nat.reduceBEq, ↓reduceIte, reduceCtorEq] <;> rfl) rfl (.inr ⟨rfl, by simp only [push_cast, Nat.reduceEqDiff, Nat.reduceLT, Nat.reduceLeDiff, Nat.reduceAdd, Nat.reduceMul, Nat.reduceSub, Nat.reduceBEq, ↓reduceIte, reduceCtorEq]⟩) ?_
  simp -implicitDefEqProofs (maxSteps := 2000000) only [push_cast, Nat.reduceEqDiff, Nat.reduceLT, Nat.reduceLeDiff, Nat.reduceAdd, Nat.reduceMul, Nat.reduceSub, Nat.reduceBEq, ↓reduceIte, reduceCtorEq]
  have hk := nx_lt (b := b) (p := p)
  have hpd := drawL_p (np_le hp) (b := b)
  refine ⟨by omega, by omega, iteI (fun h => ?_) (fun h => ?_)⟩
  · have ha : anyL b p = (spoilL (nx b (drawL b (np b p)).2) (drawL b (np b p)).1, np b (drawL b (np b p)).2) := if_pos (by omega)
    rw [ha]
    by_cases hs : (drawL b (np b p)).1 = [] ∨ nx b (drawL b (np b p)).2 % 3 = 1
    · refine Callx.hand [0, 1] (l4SpoilOut b _ _ hB (by omega) hb hpd hs) (by decide) (by simp only [push_cast, Nat.reduceEqDiff, Nat.reduceLT, Nat.reduceLeDiff, Nat.reduceAdd, Nat.reduceMul, Nat.reduceSub, Nat.reduceBEq, ↓reduceIte, reduceCtorEq]) rfl rfl (by simp only [push_cast, Nat.reduceEqDiff, Nat.reduceLT, Nat.reduceLeDiff, Nat.reduceAdd, Nat.reduceMul, Nat.reduceSub, Nat.reduceBEq, ↓reduceIte, reduceCtorEq] <;> rfl) rfl (.inr ⟨rfl, by simp only [push_cast, Nat.reduceEqDiff, Nat.reduceLT, Nat.reduceLeDiff, Nat.reduceAdd, Nat.reduceMul, Nat.reduceSub, Nat.reduceBEq, ↓reduceIte, reduceCtorEq]⟩) ?_
      simp -implicitDefEqProofs (maxSteps := 2000000) only [push_cast, Nat.reduceEqDiff, Nat.reduceLT, Nat.reduceLeDiff, Nat.reduceAdd, Nat.reduceMul, Nat.reduceSub, Nat.reduceBEq, ↓reduceIte, reduceCtorEq]
      rw [spoilL, if_pos hs]
      refine Close.of [some 0, some 2] rfl rfl rfl (by simp only [push_cast, Nat.reduceEqDiff, Nat.reduceLT, Nat.reduceLeDiff, Nat.reduceAdd, Nat.reduceMul, Nat.reduceSub, Nat.reduceBEq, ↓reduceIte, reduceCtorEq] <;> rfl) (by simp only [push_cast, Nat.reduceEqDiff, Nat.reduceLT, Nat.reduceLeDiff, Nat.reduceAdd, Nat.reduceMul, Nat.reduceSub, Nat.reduceBEq, ↓reduceIte, reduceCtorEq] <;> rfl)
    · refine Callx.hand [0, 1] (l4SpoilIn b _ _ hb hpd (by simpa using hs)) (by decide) (by simp only [push_cast, Nat.reduceEqDiff, Nat.reduceLT, Nat.reduceLeDiff, Nat.reduceAdd, Nat.reduceMul, Nat.reduceSub, Nat.reduceBEq, ↓reduceIte, reduceCtorEq]) rfl rfl (by simp only [push_cast, Nat.reduceEqDiff, Nat.reduceLT, Nat.reduceLeDiff, Nat.reduceAdd, Nat.reduceMul, Nat.reduceSub, Nat.reduceBEq, ↓reduceIte, reduceCtorEq] <;> rfl) rfl (.inr ⟨rfl, by simp only [push_cast, Nat.reduceEqDiff, Nat.reduceLT, Nat.reduceLeDiff, Nat.reduceAdd, Nat.reduceMul, Nat.reduceSub, Nat.reduceBEq, ↓reduceIte, reduceCtorEq]⟩) ?_
      simp -implicitDefEqProofs (maxSteps := 2000000) only [push_cast, Nat.reduceEqDiff, Nat.reduceLT, Nat.reduceLeDiff, Nat.reduceAdd, Nat.reduceMul, Nat.reduceSub, Nat.reduceBEq, ↓reduceIte, reduceCtorEq]
      rw [spoilL, if_neg hs]
      refine Close.of [some 0, some 1] rfl rfl rfl (by simp only [push_cast, Nat.reduceEqDiff, Nat.reduceLT, Nat.reduceLeDiff, Nat.reduceAdd, Nat.reduceMul, Nat.reduceSub, Nat.reduceBEq, ↓reduceIte, reduceCtorEq] <;> rfl) (by simp only [push_cast, Nat.reduceEqDiff, Nat.reduceLT, Nat.reduceLeDiff, Nat.reduceAdd, Nat.reduceMul, Nat.reduceSub, Nat.reduceBEq, ↓reduceIte, reduceCtorEq] <;> rfl)
  · have ha : anyL b p = drawL b (np b p) := if_neg (by omega)
    rw [ha]
    refine Close.of [some 0, some 1] rfl rfl rfl (by simp only [push_cast, Nat.reduceEqDiff, Nat.reduceLT, Nat.reduceLeDiff, Nat.reduceAdd, Nat.reduceMul, Nat.reduceSub, Nat.reduceBEq, ↓reduceIte, reduceCtorEq] <;> rfl) (by simp only [push_cast, Nat.reduceEqDiff, Nat.reduceLT, Nat.reduceLeDiff, Nat.reduceAdd, Nat.reduceMul, Nat.reduceSub, Nat.reduceBEq, ↓reduceIte, reduceCtorEq] <;> rfl)
end Go.Proofs.Ytmgdkkhnjkepiaa.BX
namespace Go.Proofs.Ytmgdkkhnjkepiaa.BX
set_option linter.unusedSectionVars false
set_option linter.unusedSimpArgs false
set_option linter.unusedVariables false
open Go Go.RowKit
set_option maxRecDepth 20000
set_option maxHeartbeats 400000
theorem perm_get {m m' : List (SlotK × List UInt8)} (hn : (m.map (·.1)).Nodup) (hp : List.Perm m m') (k : SlotK) : aget k m = aget k m' := by
  have hn' : (m'.map (·.1)).Nodup := (hp.map _).nodup_iff.1 hn
  refine Option.ext fun v => ?_
  have h1 := mem_aget hn (p := (k, v))
  have h2 := mem_aget hn' (p := (k, v))
  rw [← h1, ← h2]
  exact hp.mem_iff
theorem ord_keys {s : List Entry} (h : Ordered s) : ((s.map Entry.pair).map (·.1)).Nodup := ordered_keys h
theorem setL_get {s : List Entry} {e : Entry} (h : Ordered s) (k : SlotK) : aget k ((setL s e false).map Entry.pair) = if e.slot = k then (if e.id = [] then none else some e.id) else aget k (s.map Entry.pair) := by
  obtain ⟨h1, h2, h3⟩ := setL_spec (e := e) (keep := false) h
  by_cases he : e.id = []
  · rw [perm_get (ord_keys h1) (h3 (by simp [he])) k, aget_del (ord_keys h), if_pos he]
  · rw [perm_get (ord_keys h1) (h2 (by simp [he])) k, aget_set, if_neg he]
def chOf (o : Option (List UInt8)) (c : Option (List UInt8)) : Option (List UInt8) := match c with
  | none => o
  | some v => if v = [] then none else some v
theorem patchL_get (k : SlotK) : ∀ {ch s : List Entry}, Ordered s → (ch.map Entry.slot).Nodup → aget k ((patchL s ch).map Entry.pair) = chOf (aget k (s.map Entry.pair)) (aget k (ch.map Entry.pair))
  | [], s, _, _ => rfl
  | e :: ch, s, h, hn => by
    rw [List.map_cons, List.nodup_cons] at hn
    have ih := patchL_get k (ch := ch) (setL_spec (e := e) (keep := false) h).1 hn.2
    show aget k ((patchL (setL s e false) ch).map Entry.pair) = _
    rw [ih, setL_get h k]
    simp only [List.map_cons, aget]
    by_cases hk : e.slot = k
    · rw [if_pos hk, if_pos (show e.pair.1 = k from hk)]
      have : aget k (ch.map Entry.pair) = none := aget_none.2 (by rw [slots_pairs, ← hk]; exact hn.1)
      rw [this]
      rfl
    · rw [if_neg hk, if_neg (show ¬ e.pair.1 = k from hk)]
theorem delta_get {a b : List Entry} (ha : stateOk a = true) (hb : stateOk b = true) (k : SlotK) : aget k ((deltaL a b).map Entry.pair) = dvOf a b k := by
  have na := inOrd_nodup (stateOk_ord ha).1
  have nb := inOrd_nodup (stateOk_ord hb).1
  have nd := d12_nodup na nb
  have h1 := putsL_pairs (s := []) .nil nd (by simp)
  rw [List.map_nil, List.nil_append] at h1
  rw [← aget_d12 na]
  exact perm_get (ord_keys (putsL_ord .nil).1) h1 k
theorem delta_ord {a b : List Entry} : Ordered (deltaL a b) := (putsL_ord .nil).1
theorem ordered_state {s : List Entry} (h : stateOk s = true) : Ordered s := ordered_of (stateOk_ord h).1
theorem get_id {s : List Entry} (h : stateOk s = true) (k : SlotK) : (aget k (s.map Entry.pair) = none ∧ findId k s = []) ∨ (aget k (s.map Entry.pair) = some (findId k s) ∧ findId k s ≠ []) := findId_get (stateOk_ord h).2.2
theorem ord_get {s t : List Entry} (hs : Ordered s) (ht : Ordered t) (h : ∀ k, aget k (s.map Entry.pair) = aget k (t.map Entry.pair)) : s = t :=
  ord_perm hs ht (permE_pairs (perm_aget (ord_keys hs) (ord_keys ht) h))
theorem patch_delta {a b : List Entry} (ha : stateOk a = true) (hb : stateOk b = true) : patchL a (deltaL a b) = b := by
  have oa := ordered_state ha
  refine ord_get (patchL_ord oa).1 (ordered_state hb) fun k => ?_
  rw [patchL_get k oa (inOrd_nodup (inOrd_of delta_ord)), delta_get ha hb]
  unfold dvOf
  rcases get_id ha k with ⟨h1, h2⟩ | ⟨h1, h2⟩ <;> rcases get_id hb k with ⟨h3, h4⟩ | ⟨h3, h4⟩ <;> rw [h1, h3] <;> dsimp only [chOf]
  · rw [if_neg h4]
  · rw [if_pos (by rw [h4]; exact fun h => h2 h.symm)]
    dsimp only
    rw [if_pos h4]
  · by_cases he : findId k b = findId k a
    · rw [if_neg (by simpa using he)]
      exact congrArg some he.symm
    · rw [if_pos he]
      dsimp only
      rw [if_neg h4]
end Go.Proofs.Ytmgdkkhnjkepiaa.BX
namespace Go.Proofs.Ytmgdkkhnjkepiaa.BX
set_option linter.unusedSectionVars false
set_option linter.unusedSimpArgs false
set_option linter.unusedVariables false
open Go Go.RowKit
set_option maxRecDepth 20000
set_option maxHeartbeats 400000
def walkN (gs : List Group) (k : SlotK) (i v : Nat) : List UInt8 × Nat × Bool := match gs[i]? with
  | none => ([], v, false)
  | some g => match aget k (g.sets.map Entry.pair) with
    | some x => (x, v + 1, decide (¬ x = []))
    | none => if _h : 0 ≤ g.parent ∧ g.parent.toNat < i then walkN gs k g.parent.toNat (v + 1) else ([], v + 1, false)
termination_by i
decreasing_by exact _h.2
def walkI (gs : List Group) (k : SlotK) (c : Int) (v : Nat) : List UInt8 × Nat × Bool := if c < 0 then ([], v, false) else walkN gs k c.toNat v
theorem walk_some {gs : List Group} {k : SlotK} {c : Int} {v : Nat} {g : Group} {x : List UInt8} (h0 : 0 ≤ c) (h : gs[c.toNat]? = some g) (hx : aget k (g.sets.map Entry.pair) = some x) : walkI gs k c v = (x, v + 1, decide (¬ x = [])) := by
  unfold walkI
  rw [if_neg (by omega), walkN, h]
  simp only [hx]
theorem walk_none {gs : List Group} {k : SlotK} {c : Int} {v : Nat} {g : Group} (h0 : 0 ≤ c) (h : gs[c.toNat]? = some g) (hx : aget k (g.sets.map Entry.pair) = none) (hp : g.parent < c) : walkI gs k c v = walkI gs k g.parent (v + 1) := by
  unfold walkI
  rw [if_neg (by omega), walkN, h]
  simp only [hx]
  by_cases hn : g.parent < 0
  · rw [dif_neg (by omega), if_pos hn]
  · rw [dif_pos (by omega), if_neg hn]
noncomputable def lkOf (gs : List Group) (k : SlotK) (c : Int) : List UInt8 × Nat × Bool := if storeOk gs = true ∧ 0 ≤ c ∧ c < gs.length then walkI gs k c 0 else ([], 0, false)
def lkT (r : List UInt8 × Nat × Bool) : T := .tp [.s r.1, .i .i64 r.2.1, .b r.2.2]
theorem storeOk_ups {gs : List Group} (h : storeOk gs = true) : gs.length ≤ 1000 ∧ Ups gs gs.length := by
  simp only [storeOk, Bool.and_eq_true, decide_eq_true_eq] at h
  exact h
variable [Bd]
def nodeC (gs : List Group) (c : Int) : T := if c < 0 then .np else nodeOf gs c.toNat
theorem implLookup (gs : List Group) (c : Int) (a b : List UInt8) (hB : Bd.B ≤ 2147483648) : Con P0 12 [eStore ⟨gs⟩, .i .i64 c, .s a, .s b] (.t (lkT (lkOf gs (a, b) c))) [] := by
  refine Con.intro (fn := Try.f12) [.tmp 8, .tmp 9, .tmp 10] (fun _ => (0, [])) mixed (by kernel_rfl) rfl (by decide) rfl (by rfl) (by kernel_rfl) ?_
  simp -implicitDefEqProofs (maxSteps := 2000000) only [push_cast, Nat.reduceEqDiff, Nat.reduceLT, Nat.reduceLeDiff, Nat.reduceAdd, Nat.reduceMul, Nat.reduceSub, Nat.reduceBEq, ↓reduceIte, reduceCtorEq, eStore]
  refine Callx.closed (nodesOf gs hB) rfl rfl (.inl rfl) ?_
  simp -implicitDefEqProofs (maxSteps := 2000000) only [push_cast, Nat.reduceEqDiff, Nat.reduceLT, Nat.reduceLeDiff, Nat.reduceAdd, Nat.reduceMul, Nat.reduceSub, Nat.reduceBEq, ↓reduceIte, reduceCtorEq]
  cases hok : storeOk gs with
  | false =>
    simp only [Bool.not_false, if_true]
    unfold lkOf lkT
    rw [if_neg (by rw [hok]; simp)]
    rfl
  | true =>
  obtain ⟨hlen, hu⟩ := storeOk_ups hok
  simp only [Bool.not_true, Bool.false_eq_true, if_false, if_true]
  have hnl : (nodesT gs gs.length).length = gs.length := by simp [nodesT]
  split
  · rename_i h1
    unfold lkOf lkT
    rw [if_neg (by omega)]
    rfl
  intro _
  split
  · rename_i h1
    unfold lkOf lkT
    rw [if_neg (by omega)]
    rfl
  rename_i h1 h2
  have hl : lkOf gs (a, b) c = walkI gs (a, b) c 0 := by unfold lkOf; rw [if_pos ⟨hok, by omega, by omega⟩]
  rw [hl]
  refine ⟨by omega, fun y hy => ?_⟩
  have hy' : y = nodeC gs c := by
    have hy2 : (nodesT gs gs.length)[c.toNat]? = some y := hy
    unfold nodesT at hy2
    rw [List.getElem?_map, List.getElem?_range (by omega)] at hy2
    unfold nodeC
    rw [if_neg (by omega)]
    simpa using hy2.symm
  have hnc : ∀ i : Int, 0 ≤ i → i < gs.length → ∃ g, gs[i.toNat]? = some g ∧ nodeC gs i = .po (.ag [nodeC gs g.parent, eEntryS g.sets, .i .i64 (linksOf gs i.toNat), lvT (fullM gs i.toNat)]) 0 := by
    intro i h0 hi
    obtain ⟨g, hg⟩ : ∃ g, gs[i.toNat]? = some g := ⟨_, List.getElem?_eq_getElem (by omega)⟩
    have hk := hu i.toNat (by omega) g hg
    have hlo := hk.lo
    have hhi := hk.hi
    refine ⟨g, hg, ?_⟩
    unfold nodeC
    rw [if_neg (by omega), nodeOf_eq hg]
    by_cases hp : g.parent < 0
    · rw [if_neg (by omega), if_pos hp]
    · rw [if_pos (by omega), if_neg hp]
  obtain ⟨g0, _, hn0⟩ := hnc c (by omega) (by omega)
  rw [hn0] at hy'
  subst hy'
  simp -implicitDefEqProofs (maxSteps := 2000000) only [push_cast, Nat.reduceEqDiff, Nat.reduceLT, Nat.reduceLeDiff, Nat.reduceAdd, Nat.reduceMul, Nat.reduceSub, Nat.reduceBEq, ↓reduceIte, reduceCtorEq]
  refine WL.loop (ι := Int × Nat) (D := (fun _ => (0, []))) (fun x => -1 ≤ x.1 ∧ x.1 < gs.length ∧ x.1 + x.2 ≤ 1000 ∧ walkI gs (a, b) x.1 x.2 = walkI gs (a, b) c 0) (fun x => ⟨64, [(2, .t (.s a)), (3, .t (.s b)), (13, .t (.i .i64 x.2)), (14, .t (nodeC gs x.1))], []⟩) (fun x => (x.1 + 1).toNat) mixed (by kernel_rfl) (c, 0) ⟨by dsimp only; omega, by dsimp only; omega, by dsimp only; omega, rfl⟩ (Keep.wk (ids := []) ?_) ?_
  · simp only [push_cast, Nat.reduceEqDiff, Nat.reduceLT, Nat.reduceLeDiff, Nat.reduceAdd, Nat.reduceMul, Nat.reduceSub, Nat.reduceBEq, ↓reduceIte, reduceCtorEq, hn0] <;> trivial
  · rintro ⟨i, v⟩ ⟨hi1, hi2, hi3, hw⟩
    dsimp only at hi1 hi2 hi3 hw ⊢
    by_cases hn : i < 0
    · have hnc : nodeC gs i = .np := by unfold nodeC; rw [if_pos hn]
      rw [hnc]
      simp -implicitDefEqProofs (maxSteps := 2000000) only [push_cast, Nat.reduceEqDiff, Nat.reduceLT, Nat.reduceLeDiff, Nat.reduceAdd, Nat.reduceMul, Nat.reduceSub, Nat.reduceBEq, ↓reduceIte, reduceCtorEq]
      rw [← hw]
      unfold walkI lkT
      rw [if_pos hn]
    obtain ⟨g, hg, hnc⟩ := hnc i (by omega) hi2
    have hk := hu i.toNat (by omega) g hg
    have hlo := hk.lo
    have hhi := hk.hi
    rw [hnc]
    simp -implicitDefEqProofs (maxSteps := 2000000) only [push_cast, Nat.reduceEqDiff, Nat.reduceLT, Nat.reduceLeDiff, Nat.reduceAdd, Nat.reduceMul, Nat.reduceSub, Nat.reduceBEq, ↓reduceIte, reduceCtorEq]
    refine ⟨by unfold inI64; omega, Callx.closed (liveOf g.sets) rfl rfl (.inl rfl) ?_⟩
    simp -implicitDefEqProofs (maxSteps := 2000000) only [push_cast, Nat.reduceEqDiff, Nat.reduceLT, Nat.reduceLeDiff, Nat.reduceAdd, Nat.reduceMul, Nat.reduceSub, Nat.reduceBEq, ↓reduceIte, reduceCtorEq]
    have hkk : T.ag [T.s a, T.s b] = eK (a, b) := rfl
    rw [hkk]
    have hlm := live_map (inOrd_nodup hk.ord)
    refine look_assoc (ev := T.s) eK_inj (live_nodup g.sets) (fun p _ => of_eq_true eK_key) (fun x hx => ?_) (fun hx => ?_)
    · simp -implicitDefEqProofs (maxSteps := 2000000) only [push_cast, Nat.reduceEqDiff, Nat.reduceLT, Nat.reduceLeDiff, Nat.reduceAdd, Nat.reduceMul, Nat.reduceSub, Nat.reduceBEq, ↓reduceIte, reduceCtorEq]
      rw [hlm] at hx
      have hnx := walk_some (v := v) (by omega) hg hx
      rw [hw] at hnx
      rw [hnx]
      rfl
    · simp -implicitDefEqProofs (maxSteps := 2000000) only [push_cast, Nat.reduceEqDiff, Nat.reduceLT, Nat.reduceLeDiff, Nat.reduceAdd, Nat.reduceMul, Nat.reduceSub, Nat.reduceBEq, ↓reduceIte, reduceCtorEq]
      rw [hlm] at hx
      have hnx := walk_none (v := v) (by omega) hg hx (by omega)
      rw [hw] at hnx
      refine ⟨(g.parent, v + 1), ⟨by dsimp only; omega, by dsimp only; omega, by dsimp only; omega, hnx.symm⟩, by dsimp only; omega, Keep.wk (ids := []) ?_⟩
      simp only [push_cast, Nat.reduceEqDiff, Nat.reduceLT, Nat.reduceLeDiff, Nat.reduceAdd, Nat.reduceMul, Nat.reduceSub, Nat.reduceBEq, ↓reduceIte, reduceCtorEq] <;> trivial
end Go.Proofs.Ytmgdkkhnjkepiaa.BX
namespace Go.Proofs.Ytmgdkkhnjkepiaa.BX
set_option linter.unusedSectionVars false
set_option linter.unusedSimpArgs false
set_option linter.unusedVariables false
open Go Go.RowKit
set_option maxRecDepth 20000
set_option maxHeartbeats 400000
theorem get_app {gs ext : List Group} {i : Nat} (hi : i < gs.length) : (gs ++ ext)[i]? = gs[i]? := List.getElem?_append_left hi
theorem linksOf_app {gs ext : List Group} : ∀ (i : Nat), i < gs.length → linksOf (gs ++ ext) i = linksOf gs i := by
  intro i
  induction i using Nat.strongRecOn with
  | ind i ih =>
    intro hi
    obtain ⟨g, hg⟩ : ∃ g, gs[i]? = some g := ⟨_, List.getElem?_eq_getElem hi⟩
    rw [linksOf_eq hg, linksOf_eq (show (gs ++ ext)[i]? = some g by rw [get_app hi, hg])]
    split
    · rename_i h; rw [ih _ h.2 (by omega)]
    · rfl
theorem expandOf_app {gs ext : List Group} : ∀ (i : Nat), i < gs.length → expandOf (gs ++ ext) i = expandOf gs i := by
  intro i
  induction i using Nat.strongRecOn with
  | ind i ih =>
    intro hi
    obtain ⟨g, hg⟩ : ∃ g, gs[i]? = some g := ⟨_, List.getElem?_eq_getElem hi⟩
    rw [expandOf_eq hg, expandOf_eq (show (gs ++ ext)[i]? = some g by rw [get_app hi, hg])]
    split
    · rename_i h; rw [ih _ h.2 (by omega)]
    · rfl
theorem state_len {s : List Entry} (h : stateOk s = true) : s.length ≤ 300 := by have := (stateOk_ord h).2.1; omega
theorem newG_at {gs : List Group} {s : List Entry} {near : Int} (h : storeOk gs = true) (hs : stateOk s = true) : OkAt (gs ++ [newG gs s near]) gs.length (newG gs s near) ∧ expandOf (gs ++ [newG gs s near]) gs.length = s := by
  obtain ⟨hl, hu⟩ := storeUps h
  have hg : (gs ++ [newG gs s near])[gs.length]? = some (newG gs s near) := by rw [List.getElem?_append_right (by omega)]; simp
  by_cases hc : 0 ≤ near ∧ near < gs.length ∧ linksOf gs near.toNat < 4
  · have hn : newG gs s near = ⟨near, deltaL (expandOf gs near.toNat) s⟩ := by unfold newG; rw [if_pos hc]
    have hnl : near.toNat < gs.length := by omega
    have he := expand_ok h hnl
    have hx : expandOf (gs ++ [newG gs s near]) gs.length = s := by
      rw [expandOf_eq hg, hn, if_pos ⟨hc.1, hnl⟩, expandOf_app _ hnl]
      exact patch_delta he hs
    refine ⟨⟨?_, ?_, ?_, ?_, ?_, ?_, ?_⟩, hx⟩
    · rw [hn]; show -1 ≤ near; omega
    · rw [hn]; show near < gs.length; omega
    · rw [hn]
      have := delta_len (a := expandOf gs near.toNat) (b := s)
      have := state_len he
      have := state_len hs
      show (deltaL (expandOf gs near.toNat) s).length ≤ 600
      omega
    · rw [hn]; exact inOrd_of delta_ord
    · rw [hn]; intro h0; exact absurd (show near = -1 from h0) (by omega)
    · rw [linksOf_eq hg, hn, if_pos ⟨hc.1, hnl⟩, linksOf_app _ hnl]; have := hc.2.2; omega
    · rw [hx]; exact state_len hs
  · have hn : newG gs s near = ⟨-1, s⟩ := by unfold newG; rw [if_neg hc]
    have hx : expandOf (gs ++ [newG gs s near]) gs.length = s := by
      rw [expandOf_eq hg, hn, if_neg (fun h => absurd h.1 (by show ¬ (0 : Int) ≤ -1; omega))]
    refine ⟨⟨?_, ?_, ?_, ?_, ?_, ?_, ?_⟩, hx⟩
    · rw [hn]; exact Int.le_refl _
    · rw [hn]; show (-1 : Int) < gs.length; omega
    · rw [hn]; have := state_len hs; show s.length ≤ 600; omega
    · rw [hn]; exact (stateOk_ord hs).1
    · rw [hn]; exact fun _ => hs
    · rw [linksOf_eq hg, hn, if_neg (fun h => absurd h.1 (by show ¬ (0 : Int) ≤ -1; omega))]; omega
    · rw [hx]; exact state_len hs
theorem okAt_app {gs ext : List Group} {i : Nat} {g : Group} (hi : i < gs.length) (h : OkAt gs i g) : OkAt (gs ++ ext) i g :=
  ⟨h.lo, h.hi, h.len, h.ord, h.base, by rw [linksOf_app _ hi]; exact h.links, by rw [expandOf_app _ hi]; exact h.full⟩
theorem store_of {gs : List Group} (h1 : gs.length ≤ 1000) (h2 : Ups gs gs.length) : storeOk gs = true := by
  unfold storeOk
  rw [decide_eq_true h1, Bool.true_and]
  exact @decide_eq_true _ (Classical.propDecidable _) h2
theorem save_kept {gs : List Group} {s : List Entry} {near : Int} (hn : 0 ≤ saveN gs s) :
    storeOk gs = true ∧ stateOk s = true ∧ storeOk (saveG gs s near) = true ∧ saveN gs s < (saveG gs s near).length ∧ expandOf (saveG gs s near) (saveN gs s).toNat = s ∧ gs.length ≤ (saveG gs s near).length ∧ ∀ i < gs.length, expandOf (saveG gs s near) i = expandOf gs i := by
  unfold saveN at hn
  by_cases hok : svOk gs s = true
  rotate_left
  · rw [if_neg hok] at hn; omega
  have hok' := hok
  unfold svOk at hok'
  simp only [Bool.and_eq_true] at hok'
  obtain ⟨h1, h2⟩ := hok'
  rw [if_pos hok] at hn
  by_cases hf : 0 ≤ fdTo gs s gs.length
  · have e1 : saveG gs s near = gs := by unfold saveG; rw [if_pos hok, if_pos hf]
    have e2 : saveN gs s = fdTo gs s gs.length := by unfold saveN; rw [if_pos hok, if_pos hf]
    have hr := fdTo_range (gs := gs) (s := s) (i := gs.length)
    rw [e1, e2]
    exact ⟨h1, h2, h1, by omega, fdTo_is hf, Nat.le_refl _, fun _ _ => rfl⟩
  · rw [if_neg hf] at hn
    by_cases hl : 1000 ≤ gs.length
    · rw [if_pos hl] at hn; omega
    have e1 : saveG gs s near = gs ++ [newG gs s near] := by unfold saveG; rw [if_pos hok, if_neg hf, if_neg hl]
    have e2 : saveN gs s = gs.length := by unfold saveN; rw [if_pos hok, if_neg hf, if_neg hl]
    obtain ⟨a1, a2⟩ := newG_at (near := near) h1 h2
    obtain ⟨_, hu⟩ := storeUps h1
    have hst : storeOk (gs ++ [newG gs s near]) = true := by
      refine store_of (by rw [List.length_append, List.length_singleton]; omega) fun j hj g hg => ?_
      rw [List.length_append, List.length_singleton] at hj
      rcases Nat.lt_or_ge j gs.length with hj2 | hj2
      · rw [get_app hj2] at hg
        exact okAt_app hj2 (hu j hj2 g hg)
      · have : j = gs.length := by omega
        subst this
        rw [List.getElem?_append_right (by omega)] at hg
        simp at hg
        subst hg
        exact a1
    rw [e1, e2]
    exact ⟨h1, h2, hst, by rw [List.length_append, List.length_singleton]; omega, by rw [Int.toNat_natCast]; exact a2, by rw [List.length_append]; omega, fun i hi => expandOf_app i hi⟩
theorem walkN_some {gs : List Group} {k : SlotK} {i v : Nat} {g : Group} {x : List UInt8} (hg : gs[i]? = some g) (hx : aget k (g.sets.map Entry.pair) = some x) : walkN gs k i v = (x, v + 1, decide (¬ x = [])) := by
  rw [walkN, hg]
  simp only [hx]
theorem walkN_up {gs : List Group} {k : SlotK} {i v : Nat} {g : Group} (hg : gs[i]? = some g) (hx : aget k (g.sets.map Entry.pair) = none) (hp : 0 ≤ g.parent ∧ g.parent.toNat < i) : walkN gs k i v = walkN gs k g.parent.toNat (v + 1) := by
  rw [walkN, hg]
  simp only [hx]
  rw [dif_pos hp]
theorem walkN_no {gs : List Group} {k : SlotK} {i v : Nat} {g : Group} (hg : gs[i]? = some g) (hx : aget k (g.sets.map Entry.pair) = none) (hp : ¬ (0 ≤ g.parent ∧ g.parent.toNat < i)) : walkN gs k i v = ([], v + 1, false) := by
  rw [walkN, hg]
  simp only [hx]
  rw [dif_neg hp]
theorem walk_get {gs : List Group} (k : SlotK) : ∀ (i v : Nat), i < gs.length → (∀ j ≤ i, ∀ g, gs[j]? = some g → OkAt gs j g) →
    (walkN gs k i v).1 = (aget k ((expandOf gs i).map Entry.pair)).getD [] ∧ (walkN gs k i v).2.2 = decide (¬ (walkN gs k i v).1 = []) ∧ v + 1 ≤ (walkN gs k i v).2.1 ∧ (walkN gs k i v).2.1 ≤ v + 1 + linksOf gs i := by
  intro i
  induction i using Nat.strongRecOn with
  | ind i ih =>
    intro v hi hu
    obtain ⟨g, hg⟩ : ∃ g, gs[i]? = some g := ⟨_, List.getElem?_eq_getElem hi⟩
    have hok := hu i (Nat.le_refl _) g hg
    have hnd : (g.sets.map Entry.slot).Nodup := inOrd_nodup hok.ord
    rw [linksOf_eq hg, expandOf_eq hg]
    by_cases hp : 0 ≤ g.parent ∧ g.parent.toNat < i
    · have hord : Ordered (expandOf gs g.parent.toNat) := expandOf_ord _ fun j hj g' hg' => (hu j (by omega) g' hg').ord
      rw [if_pos hp, if_pos hp, patchL_get k hord hnd]
      cases hx : aget k (g.sets.map Entry.pair) with
      | some x =>
        rw [walkN_some hg hx]
        refine ⟨?_, rfl, by dsimp only; omega, by dsimp only; omega⟩
        unfold chOf
        by_cases hx0 : x = []
        · subst hx0; simp
        · simp [hx0]
      | none =>
        rw [walkN_up hg hx hp]
        obtain ⟨w1, w2, w3, w4⟩ := ih g.parent.toNat hp.2 (v + 1) (by omega) fun j hj g' hg' => hu j (by omega) g' hg'
        exact ⟨w1, w2, by omega, by omega⟩
    · rw [if_neg hp, if_neg hp]
      cases hx : aget k (g.sets.map Entry.pair) with
      | some x => rw [walkN_some hg hx]; exact ⟨rfl, rfl, by dsimp only; omega, by dsimp only; omega⟩
      | none => rw [walkN_no hg hx hp]; exact ⟨rfl, rfl, by dsimp only; omega, by dsimp only; omega⟩
theorem look_get {gs : List Group} {c : Int} (h : storeOk gs = true) (h0 : 0 ≤ c) (h1 : c < gs.length) (k : SlotK) :
    (lkOf gs k c).1 = (aget k ((expandOf gs c.toNat).map Entry.pair)).getD [] ∧ (lkOf gs k c).2.2 = decide (¬ (lkOf gs k c).1 = []) ∧ 1 ≤ (lkOf gs k c).2.1 ∧ (lkOf gs k c).2.1 ≤ 5 := by
  obtain ⟨_, hu⟩ := storeUps h
  have hi : c.toNat < gs.length := by omega
  obtain ⟨g, hg⟩ : ∃ g, gs[c.toNat]? = some g := ⟨_, List.getElem?_eq_getElem hi⟩
  have hlk := (hu _ hi g hg).links
  have e : lkOf gs k c = walkN gs k c.toNat 0 := by
    unfold lkOf walkI
    rw [if_pos ⟨h, h0, h1⟩, if_neg (by omega)]
  rw [e]
  obtain ⟨w1, w2, w3, w4⟩ := walk_get (gs := gs) k c.toNat 0 hi fun j hj g' hg' => hu j (by omega) g' hg'
  exact ⟨w1, w2, by omega, by omega⟩
theorem look_in {gs : List Group} {c : Int} {s : List Entry} (h : storeOk gs = true) (h0 : 0 ≤ c) (h1 : c < gs.length) (hs : expandOf gs c.toNat = s) (hst : stateOk s = true) {e : Entry} (he : e ∈ s) :
    (lkOf gs e.slot c).1 = e.id ∧ (lkOf gs e.slot c).2.2 = true ∧ 1 ≤ (lkOf gs e.slot c).2.1 ∧ (lkOf gs e.slot c).2.1 ≤ 5 := by
  obtain ⟨a1, a2, a3, a4⟩ := look_get h h0 h1 e.slot
  have hag : aget e.slot (s.map Entry.pair) = some e.id := (mem_aget (ordered_keys (ordered_state hst)) (p := e.pair)).1 (List.mem_map_of_mem he)
  rw [hs, hag] at a1
  have a1 : (lkOf gs e.slot c).1 = e.id := a1
  refine ⟨a1, ?_, a3, a4⟩
  rw [a2, a1]
  exact decide_eq_true ((stateOk_ord hst).2.2 e he)
theorem look_out {gs : List Group} {c : Int} {s : List Entry} (h : storeOk gs = true) (h0 : 0 ≤ c) (h1 : c < gs.length) (hs : expandOf gs c.toNat = s) {k : SlotK} (hk : ∀ e ∈ s, e.slot ≠ k) :
    (lkOf gs k c).2.2 = false ∧ 1 ≤ (lkOf gs k c).2.1 ∧ (lkOf gs k c).2.1 ≤ 5 := by
  obtain ⟨a1, a2, a3, a4⟩ := look_get h h0 h1 k
  rw [hs, aget_none.2 (by
    intro hm
    rw [List.map_map, List.mem_map] at hm
    obtain ⟨e, he, hek⟩ := hm
    exact hk e he hek)] at a1
  refine ⟨?_, a3, a4⟩
  rw [a2, a1]
  rfl
end Go.Proofs.Ytmgdkkhnjkepiaa.BX
namespace Go.Proofs.Ytmgdkkhnjkepiaa.BX
set_option linter.unusedSectionVars false
set_option linter.unusedSimpArgs false
set_option linter.unusedVariables false
open Go Go.RowKit
set_option maxRecDepth 20000
set_option maxHeartbeats 400000
variable [Bd]
abbrev grO (gs : List Group) : Ob := .arr 59 2 (.own (.ag [.leaf, .sl 38 3 (.ag [.leaf, .leaf, .leaf])])) (gs.map eGroup)
theorem cloneE (xs : List Entry) (hB : Bd.B ≤ 2147483648) (hl : xs.length < Bd.B) : Con P0 41 [eEntryS xs] (.sr 0) [enO xs] := by
  refine Con.intro (fn := Try.f41) [.tmp 2] (fun _ => (0, [])) mixed (by kernel_rfl) rfl (by decide) rfl (by rfl) (by kernel_rfl) ?_
  simp -implicitDefEqProofs (maxSteps := 2000000) only [push_cast, Nat.reduceEqDiff, Nat.reduceLT, Nat.reduceLeDiff, Nat.reduceAdd, Nat.reduceMul, Nat.reduceSub, Nat.reduceBEq, ↓reduceIte, reduceCtorEq]
  have := Bd.lo
  refine ⟨fun h => ?_, rfl, by omega, rfl, by omega, allLen_map (f := eEntry) (fun _ => rfl), fitsAll_map (f := eEntry) (fun _ => rfl), hl, ?_⟩
  · have h : xs = [] := by simpa using h
    subst h; exact Close.of [none] rfl rfl rfl (by simp only [push_cast, Nat.reduceEqDiff, Nat.reduceLT, Nat.reduceLeDiff, Nat.reduceAdd, Nat.reduceMul, Nat.reduceSub, Nat.reduceBEq, ↓reduceIte, reduceCtorEq] <;> rfl) (by simp only [push_cast, Nat.reduceEqDiff, Nat.reduceLT, Nat.reduceLeDiff, Nat.reduceAdd, Nat.reduceMul, Nat.reduceSub, Nat.reduceBEq, ↓reduceIte, reduceCtorEq] <;> rfl)
  · exact Close.of [some 1] rfl rfl rfl (by simp only [push_cast, Nat.reduceEqDiff, Nat.reduceLT, Nat.reduceLeDiff, Nat.reduceAdd, Nat.reduceMul, Nat.reduceSub, Nat.reduceBEq, ↓reduceIte, reduceCtorEq] <;> rfl) (by simp only [push_cast, Nat.reduceEqDiff, Nat.reduceLT, Nat.reduceLeDiff, Nat.reduceAdd, Nat.reduceMul, Nat.reduceSub, Nat.reduceBEq, ↓reduceIte, reduceCtorEq] <;> rfl)
theorem specSave (gs : List Group) (s : List Entry) (near : Int) (hB : Bd.B ≤ 2147483648) : Con P0 6 [eStore ⟨gs⟩, eEntryS s, .i .i64 near] (.tp [.ag [.sr 0], .t (.i .i64 (saveN gs s))]) [grO (saveG gs s near)] := by
  refine Con.intro (fn := Try.f6) [.cell 6 25, .tmp 7] (fun i => if i = 1000018 then (999999, []) else if i = 19 then (2000008, [(true, 1), (false, 0), (true, 1), (false, 0), (true, 1), (false, 0), (true, 1), (false, 0), (true, 1), (false, 0), (false, 3), (false, 0)]) else if i = 8 then (17, [(false, 0), (false, 1), (false, 2), (false, 3), (false, 4), (false, 5), (false, 6), (false, 7), (false, 8), (false, 9), (false, 10), (false, 11), (false, 12), (false, 13), (true, 14), (false, 15), (true, 16)]) else (0, [])) mixed (by kernel_rfl) rfl (by decide) rfl (by rfl) (by kernel_rfl) ?_
  simp -implicitDefEqProofs (maxSteps := 2000000) only [push_cast, Nat.reduceEqDiff, Nat.reduceLT, Nat.reduceLeDiff, Nat.reduceAdd, Nat.reduceMul, Nat.reduceSub, Nat.reduceBEq, ↓reduceIte, reduceCtorEq, eStore]
  have := Bd.lo
  have hhi := Bd.hi
  refine Callx.closed (specStoreOk gs hB) rfl rfl (.inl rfl) ?_
  simp -implicitDefEqProofs (maxSteps := 2000000) only [push_cast, Nat.reduceEqDiff, Nat.reduceLT, Nat.reduceLeDiff, Nat.reduceAdd, Nat.reduceMul, Nat.reduceSub, Nat.reduceBEq, ↓reduceIte, reduceCtorEq, eStore]
  have bad : svOk gs s = false → saveG gs s near = [] ∧ saveN gs s = -1 := fun h => by simp [saveG, saveN, h]
  cases hok : storeOk gs with
  | false =>
    obtain ⟨h1, h2⟩ := bad (by unfold svOk; rw [hok]; rfl)
    rw [h1, h2]
    simp only [Bool.not_false, if_true]
    simp -implicitDefEqProofs (maxSteps := 2000000) only [push_cast, Nat.reduceEqDiff, Nat.reduceLT, Nat.reduceLeDiff, Nat.reduceAdd, Nat.reduceMul, Nat.reduceSub, Nat.reduceBEq, ↓reduceIte, reduceCtorEq, eStore]
    exact Close.of [none] rfl rfl rfl (by simp only [push_cast, Nat.reduceEqDiff, Nat.reduceLT, Nat.reduceLeDiff, Nat.reduceAdd, Nat.reduceMul, Nat.reduceSub, Nat.reduceBEq, ↓reduceIte, reduceCtorEq] <;> first | rfl | exact ⟨rfl, rfl⟩) (by simp only [push_cast, Nat.reduceEqDiff, Nat.reduceLT, Nat.reduceLeDiff, Nat.reduceAdd, Nat.reduceMul, Nat.reduceSub, Nat.reduceBEq, ↓reduceIte, reduceCtorEq] <;> first | rfl | exact ⟨rfl, rfl⟩)
  | true =>
  obtain ⟨hlen, hu⟩ := storeUps hok
  simp -implicitDefEqProofs (maxSteps := 2000000) only [push_cast, Nat.reduceEqDiff, Nat.reduceLT, Nat.reduceLeDiff, Nat.reduceAdd, Nat.reduceMul, Nat.reduceSub, Nat.reduceBEq, ↓reduceIte, reduceCtorEq, eStore]
  refine Callx.closed (specStateOk s) rfl rfl (.inl rfl) ?_
  simp -implicitDefEqProofs (maxSteps := 2000000) only [push_cast, Nat.reduceEqDiff, Nat.reduceLT, Nat.reduceLeDiff, Nat.reduceAdd, Nat.reduceMul, Nat.reduceSub, Nat.reduceBEq, ↓reduceIte, reduceCtorEq, eStore]
  refine iteI (fun h => ?_) (fun h => ?_)
  · obtain ⟨h1, h2⟩ := bad (by unfold svOk; rw [hok]; simpa using h)
    rw [h1, h2]
    exact Close.of [none] rfl rfl rfl (by simp only [push_cast, Nat.reduceEqDiff, Nat.reduceLT, Nat.reduceLeDiff, Nat.reduceAdd, Nat.reduceMul, Nat.reduceSub, Nat.reduceBEq, ↓reduceIte, reduceCtorEq] <;> first | rfl | exact ⟨rfl, rfl⟩) (by simp only [push_cast, Nat.reduceEqDiff, Nat.reduceLT, Nat.reduceLeDiff, Nat.reduceAdd, Nat.reduceMul, Nat.reduceSub, Nat.reduceBEq, ↓reduceIte, reduceCtorEq] <;> first | rfl | exact ⟨rfl, rfl⟩)
  have hso : stateOk s = true := by simpa using h
  obtain ⟨so1, so2, so3⟩ := stateOk_ord hso
  have hsv : svOk gs s = true := by unfold svOk; rw [hok, hso]; rfl
  have hG : saveG gs s near = if 0 ≤ fdTo gs s gs.length then gs else if 1000 ≤ gs.length then [] else gs ++ [newG gs s near] := if_pos hsv
  have hN : saveN gs s = if 0 ≤ fdTo gs s gs.length then fdTo gs s gs.length else if 1000 ≤ gs.length then -1 else gs.length := if_pos hsv
  refine ⟨rfl, by omega, ?_⟩
  have hexp : ∀ i : Nat, i < gs.length → Con P0 31 [eStore ⟨gs⟩, .i .i64 i] (.sr 0) [enO (expandOf gs i)] := fun i hi => l4Expand gs hB i hi (fun j hj g hg => ⟨(hu j (by omega) g hg).hi, (hu j (by omega) g hg).ord, (hu j (by omega) g hg).len⟩) (fun j hj => by
    obtain ⟨g, hg⟩ : ∃ g, gs[j]? = some g := ⟨_, List.getElem?_eq_getElem (by omega)⟩
    exact (hu j (by omega) g hg).full) (by omega)
  refine WL.loop (ι := Nat) (D := (fun i => if i = 1000018 then (999999, []) else if i = 19 then (2000008, [(true, 1), (false, 0), (true, 1), (false, 0), (true, 1), (false, 0), (true, 1), (false, 0), (true, 1), (false, 0), (false, 3), (false, 0)]) else if i = 8 then (17, [(false, 0), (false, 1), (false, 2), (false, 3), (false, 4), (false, 5), (false, 6), (false, 7), (false, 8), (false, 9), (false, 10), (false, 11), (false, 12), (false, 13), (true, 14), (false, 15), (true, 16)]) else (0, []))) (fun i => i ≤ gs.length) (fun i => ⟨104, [(1, .t (eEntryS s)), (2, .t (.i .i64 near)), (3, .rf 0 0), (6, .rf 1 0), (8, .rf 3 0), (9, .t (.i .i64 (fdTo gs s i))), (10, .t (.i .i64 i))], [.box (.t (eStore ⟨gs⟩)), .box (.ag [.ns]), grO (gs.take i), .box (.ag [.sr 2])]⟩) (fun i => gs.length - i) mixed (by kernel_rfl) 0 (by omega) (Keep.wk (ids := [some 0, some 1, some 2, some 3]) ?_) ?_
  · simp only [push_cast, Nat.reduceEqDiff, Nat.reduceLT, Nat.reduceLeDiff, Nat.reduceAdd, Nat.reduceMul, Nat.reduceSub, Nat.reduceBEq, ↓reduceIte, reduceCtorEq, eStore, List.take_zero, fdTo] <;> first | rfl | exact ⟨rfl, rfl⟩
  intro i hi
  have hfr := fdTo_range (gs := gs) (s := s) (i := i)
  simp -implicitDefEqProofs (maxSteps := 2000000) only [push_cast, Nat.reduceEqDiff, Nat.reduceLT, Nat.reduceLeDiff, Nat.reduceAdd, Nat.reduceMul, Nat.reduceSub, Nat.reduceBEq, ↓reduceIte, reduceCtorEq, eStore, eGroup]
  intro _
  refine iteI (fun h1 => ?_) (fun h1 => ?_)
  · refine ⟨by omega, fun g hg => ⟨by omega, fun g' hg' => ?_⟩⟩
    rw [Int.toNat_natCast] at hg hg'
    rw [hg] at hg'
    cases hg'
    have hgk := hu i (by omega) g hg
    have hgl := hgk.len
    refine Mkx.closed (l4Copy g.sets hB (by omega)) rfl rfl (.inr ⟨rfl, rfl⟩) ?_
    simp -implicitDefEqProofs (maxSteps := 2000000) only [push_cast, Nat.reduceEqDiff, Nat.reduceLT, Nat.reduceLeDiff, Nat.reduceAdd, Nat.reduceMul, Nat.reduceSub, Nat.reduceBEq, ↓reduceIte, reduceCtorEq, eStore, eGroup]
    have htl : (gs.take i).length = i := by rw [List.length_take]; omega
    have hto : gs.take (i + 1) = gs.take i ++ [g] := by rw [List.take_add_one, hg]; rfl
    have hfs : fdTo gs s (i + 1) = if 0 ≤ fdTo gs s i then fdTo gs s i else @ite _ (expandOf gs i = s) (Classical.propDecidable _) (i : Int) (-1) := by rw [fdTo]
    refine ⟨rfl, by omega, rfl, by omega, by omega, iteI (fun h2 => ?_) (fun h2 => ?_)⟩
    · rw [if_neg (by omega)] at hfs
      refine Callx.closed (hexp i (by omega)) rfl rfl (.inl rfl) ?_
      simp -implicitDefEqProofs (maxSteps := 2000000) only [push_cast, Nat.reduceEqDiff, Nat.reduceLT, Nat.reduceLeDiff, Nat.reduceAdd, Nat.reduceMul, Nat.reduceSub, Nat.reduceBEq, ↓reduceIte, reduceCtorEq, eStore, eGroup]
      refine Callx.closed (l4Equal (expandOf gs i) s) rfl rfl (.inr ⟨rfl, rfl⟩) ?_
      simp -implicitDefEqProofs (maxSteps := 2000000) only [push_cast, Nat.reduceEqDiff, Nat.reduceLT, Nat.reduceLeDiff, Nat.reduceAdd, Nat.reduceMul, Nat.reduceSub, Nat.reduceBEq, ↓reduceIte, reduceCtorEq, eStore, eGroup]
      refine iteI (fun h3 => ?_) (fun h3 => ?_)
      · rw [if_pos h3] at hfs
        refine ⟨by unfold inI64; omega, i + 1, by omega, by omega, Keep.wk (ids := [some 0, some 1, some 6, some 3]) ?_⟩
        rw [hto, hfs]
        simp only [push_cast, Nat.reduceEqDiff, Nat.reduceLT, Nat.reduceLeDiff, Nat.reduceAdd, Nat.reduceMul, Nat.reduceSub, Nat.reduceBEq, ↓reduceIte, reduceCtorEq, eStore, List.map_append, eGroup] <;> first | rfl | exact ⟨rfl, rfl⟩
      · rw [if_neg h3] at hfs
        have : fdTo gs s i = -1 := by omega
        refine ⟨by unfold inI64; omega, i + 1, by omega, by omega, Keep.wk (ids := [some 0, some 1, some 6, some 3]) ?_⟩
        rw [hto, hfs, this]
        simp only [push_cast, Nat.reduceEqDiff, Nat.reduceLT, Nat.reduceLeDiff, Nat.reduceAdd, Nat.reduceMul, Nat.reduceSub, Nat.reduceBEq, ↓reduceIte, reduceCtorEq, eStore, List.map_append, eGroup] <;> first | rfl | exact ⟨rfl, rfl⟩
    · rw [if_pos (by omega)] at hfs
      refine ⟨by unfold inI64; omega, i + 1, by omega, by omega, Keep.wk (ids := [some 0, some 1, some 6, some 3]) ?_⟩
      rw [hto, hfs]
      simp only [push_cast, Nat.reduceEqDiff, Nat.reduceLT, Nat.reduceLeDiff, Nat.reduceAdd, Nat.reduceMul, Nat.reduceSub, Nat.reduceBEq, ↓reduceIte, reduceCtorEq, eStore, List.map_append, eGroup] <;> first | rfl | exact ⟨rfl, rfl⟩
  · have hie : i = gs.length := by omega
    subst hie
    rw [List.take_length]
    simp -implicitDefEqProofs (maxSteps := 2000000) only [push_cast, Nat.reduceEqDiff, Nat.reduceLT, Nat.reduceLeDiff, Nat.reduceAdd, Nat.reduceMul, Nat.reduceSub, Nat.reduceBEq, ↓reduceIte, reduceCtorEq, eStore, eGroup]
    refine iteI (fun h2 => ?_) (fun h2 => ?_)
    · rw [if_pos h2] at hG hN
      rw [hG, hN]
      exact Close.of [some 2] rfl rfl rfl (by simp only [push_cast, Nat.reduceEqDiff, Nat.reduceLT, Nat.reduceLeDiff, Nat.reduceAdd, Nat.reduceMul, Nat.reduceSub, Nat.reduceBEq, ↓reduceIte, reduceCtorEq] <;> first | rfl | exact ⟨rfl, rfl⟩) (by simp only [push_cast, Nat.reduceEqDiff, Nat.reduceLT, Nat.reduceLeDiff, Nat.reduceAdd, Nat.reduceMul, Nat.reduceSub, Nat.reduceBEq, ↓reduceIte, reduceCtorEq] <;> first | rfl | exact ⟨rfl, rfl⟩)
    rw [if_neg h2] at hG hN
    intro _
    refine iteI (fun h3 => ?_) (fun h3 => ?_)
    · rw [if_pos (by omega)] at hG hN
      rw [hG, hN]
      exact Close.of [none] rfl rfl rfl (by simp only [push_cast, Nat.reduceEqDiff, Nat.reduceLT, Nat.reduceLeDiff, Nat.reduceAdd, Nat.reduceMul, Nat.reduceSub, Nat.reduceBEq, ↓reduceIte, reduceCtorEq] <;> first | rfl | exact ⟨rfl, rfl⟩) (by simp only [push_cast, Nat.reduceEqDiff, Nat.reduceLT, Nat.reduceLeDiff, Nat.reduceAdd, Nat.reduceMul, Nat.reduceSub, Nat.reduceBEq, ↓reduceIte, reduceCtorEq] <;> first | rfl | exact ⟨rfl, rfl⟩)
    rw [if_neg (by omega)] at hG hN
    rw [hG, hN]
    refine Callx.closed (l4Copy s hB (by omega)) rfl rfl (.inr ⟨rfl, rfl⟩) ?_
    simp -implicitDefEqProofs (maxSteps := 2000000) only [push_cast, Nat.reduceEqDiff, Nat.reduceLT, Nat.reduceLeDiff, Nat.reduceAdd, Nat.reduceMul, Nat.reduceSub, Nat.reduceBEq, ↓reduceIte, reduceCtorEq, eStore, eGroup]
    obtain ⟨ng, hng⟩ : ∃ ng, newG gs s near = ng := ⟨_, rfl⟩
    rw [hng]
    unfold newG at hng
    have hfin : (5 : Nat) = 5 := rfl
    refine W.join (ι := Unit) (D := (fun i => if i = 19 then (2000008, [(true, 1), (false, 0), (true, 1), (false, 0), (true, 1), (false, 0), (true, 1), (false, 0), (true, 1), (false, 0), (false, 3), (false, 0)]) else if i = 8 then (17, [(false, 0), (false, 1), (false, 2), (false, 3), (false, 4), (false, 5), (false, 6), (false, 7), (false, 8), (false, 9), (false, 10), (false, 11), (false, 12), (false, 13), (true, 14), (false, 15), (true, 16)]) else (0, []))) (fun _ => True) (fun _ => ⟨104, [(3, .rf 0 0), (6, .rf 1 0), (8, .rf 3 0), (11, .rf 5 0)], [.box (.t (eStore ⟨gs⟩)), .box (.ag [.ns]), grO gs, .box (.ag [.sr 2]), enO ng.sets, .box (.ag [.t (.i .i64 ng.parent), .sr 4])]⟩) mixed (by kernel_rfl) ?_ (fun _ _ => ?_)
    · simp -implicitDefEqProofs (maxSteps := 2000000) only [push_cast, Nat.reduceEqDiff, Nat.reduceLT, Nat.reduceLeDiff, Nat.reduceAdd, Nat.reduceMul, Nat.reduceSub, Nat.reduceBEq, ↓reduceIte, reduceCtorEq, eStore, eGroup]
      have base : ¬ (0 ≤ near ∧ near < gs.length ∧ linksOf gs near.toNat < 4) → ng = ⟨-1, s⟩ := fun h => by rw [if_neg h] at hng; exact hng.symm
      have stay : ¬ (0 ≤ near ∧ near < gs.length ∧ linksOf gs near.toNat < 4) → ng.parent = -1 ∧ ng.sets = s := fun h => by rw [base h]; exact ⟨rfl, rfl⟩
      refine iteI (fun h4 => ?_) (fun h4 => ?_)
      rotate_left
      · obtain ⟨e1, e2⟩ := stay (fun h => h4 h.1)
        refine ⟨(), Keep.wk (ids := [some 0, some 1, some 2, some 3, some 4, some 5]) ?_⟩
        rw [e1, e2]
        simp only [push_cast, Nat.reduceEqDiff, Nat.reduceLT, Nat.reduceLeDiff, Nat.reduceAdd, Nat.reduceMul, Nat.reduceSub, Nat.reduceBEq, ↓reduceIte, reduceCtorEq, eStore] <;> first | rfl | exact ⟨rfl, rfl⟩
      intro _
      refine iteI (fun h5 => ?_) (fun h5 => ?_)
      rotate_left
      · obtain ⟨e1, e2⟩ := stay (fun h => h5 h.2.1)
        refine ⟨(), Keep.wk (ids := [some 0, some 1, some 2, some 3, some 4, some 5]) ?_⟩
        rw [e1, e2]
        simp only [push_cast, Nat.reduceEqDiff, Nat.reduceLT, Nat.reduceLeDiff, Nat.reduceAdd, Nat.reduceMul, Nat.reduceSub, Nat.reduceBEq, ↓reduceIte, reduceCtorEq, eStore] <;> first | rfl | exact ⟨rfl, rfl⟩
      obtain ⟨m, rfl⟩ : ∃ m : Nat, near = m := ⟨near.toNat, by omega⟩
      have hm : m < gs.length := by omega
      rw [Int.toNat_natCast] at base stay hng
      have hll := linksOf_le (gs := gs) m
      refine Callx.closed (l4Links gs m hm (fun j hj g hg => (hu j (by omega) g hg).hi) (by omega)) rfl rfl (.inl rfl) ?_
      simp -implicitDefEqProofs (maxSteps := 2000000) only [push_cast, Nat.reduceEqDiff, Nat.reduceLT, Nat.reduceLeDiff, Nat.reduceAdd, Nat.reduceMul, Nat.reduceSub, Nat.reduceBEq, ↓reduceIte, reduceCtorEq, eStore, eGroup]
      refine iteI (fun h6 => ?_) (fun h6 => ?_)
      rotate_left
      · obtain ⟨e1, e2⟩ := stay (fun h => h6 (by have := h.2.2; omega))
        refine ⟨(), Keep.wk (ids := [some 0, some 1, some 2, some 3, some 4, some 5]) ?_⟩
        rw [e1, e2]
        simp only [push_cast, Nat.reduceEqDiff, Nat.reduceLT, Nat.reduceLeDiff, Nat.reduceAdd, Nat.reduceMul, Nat.reduceSub, Nat.reduceBEq, ↓reduceIte, reduceCtorEq, eStore] <;> first | rfl | exact ⟨rfl, rfl⟩
      have hne : ng = ⟨m, deltaL (expandOf gs m) s⟩ := by rw [if_pos ⟨by omega, by omega, by omega⟩] at hng; exact hng.symm
      refine Callx.closed (hexp m hm) rfl rfl (.inl rfl) ?_
      simp -implicitDefEqProofs (maxSteps := 2000000) only [push_cast, Nat.reduceEqDiff, Nat.reduceLT, Nat.reduceLeDiff, Nat.reduceAdd, Nat.reduceMul, Nat.reduceSub, Nat.reduceBEq, ↓reduceIte, reduceCtorEq, eStore, eGroup]
      have hek := expand_ok hok hm
      refine Callx.closed (l4Delta (expandOf gs m) s hB (by have := (stateOk_ord hek).2.1; omega) (by omega)) rfl rfl (.inr ⟨rfl, rfl⟩) ?_
      simp -implicitDefEqProofs (maxSteps := 2000000) only [push_cast, Nat.reduceEqDiff, Nat.reduceLT, Nat.reduceLeDiff, Nat.reduceAdd, Nat.reduceMul, Nat.reduceSub, Nat.reduceBEq, ↓reduceIte, reduceCtorEq, eStore, eGroup]
      refine ⟨(), Keep.wk (ids := [some 0, some 1, some 2, some 3, some 7, some 5]) ?_⟩
      rw [hne]
      simp only [push_cast, Nat.reduceEqDiff, Nat.reduceLT, Nat.reduceLeDiff, Nat.reduceAdd, Nat.reduceMul, Nat.reduceSub, Nat.reduceBEq, ↓reduceIte, reduceCtorEq, eStore] <;> first | rfl | exact ⟨rfl, rfl⟩
    · simp -implicitDefEqProofs (maxSteps := 2000000) only [push_cast, Nat.reduceEqDiff, Nat.reduceLT, Nat.reduceLeDiff, Nat.reduceAdd, Nat.reduceMul, Nat.reduceSub, Nat.reduceBEq, ↓reduceIte, reduceCtorEq, eStore, eGroup]
      refine ⟨rfl, by omega, rfl, by omega, by omega, fun _ => ⟨by unfold inI64; omega, ?_⟩⟩
      rw [show (gs.length : Int) + 1 - 1 = gs.length by omega]
      exact Close.of [some 7] rfl rfl rfl (by simp only [push_cast, Nat.reduceEqDiff, Nat.reduceLT, Nat.reduceLeDiff, Nat.reduceAdd, Nat.reduceMul, Nat.reduceSub, Nat.reduceBEq, ↓reduceIte, reduceCtorEq] <;> first | rfl | exact ⟨rfl, rfl⟩) (by simp only [push_cast, Nat.reduceEqDiff, Nat.reduceLT, Nat.reduceLeDiff, Nat.reduceAdd, Nat.reduceMul, Nat.reduceSub, Nat.reduceBEq, ↓reduceIte, reduceCtorEq, List.map_append, eGroup] <;> first | rfl | exact ⟨rfl, rfl⟩)
theorem implSave (gs : List Group) (s : List Entry) (near : Int) (hB : Bd.B ≤ 2147483648) : Con P0 7 [eStore ⟨gs⟩, eEntryS s, .i .i64 near] (.tp [.ag [.sr 0], .t (.i .i64 (saveN gs s))]) [grO (saveG gs s near)] := by
  refine Con.intro (fn := Try.f7) [.cell 6 25, .tmp 7] (fun i => if i = 1000022 then (999999, []) else if i = 8 then (9, [(false, 0), (false, 1), (false, 2), (false, 3), (false, 4), (false, 5), (true, 6), (false, 7), (true, 8)]) else (0, [])) mixed (by kernel_rfl) rfl (by decide) rfl (by rfl) (by kernel_rfl) ?_
  simp -implicitDefEqProofs (maxSteps := 2000000) only [push_cast, Nat.reduceEqDiff, Nat.reduceLT, Nat.reduceLeDiff, Nat.reduceAdd, Nat.reduceMul, Nat.reduceSub, Nat.reduceBEq, ↓reduceIte, reduceCtorEq, eStore]
  have := Bd.lo
  have hhi := Bd.hi
  refine Callx.closed (nodesOf gs hB) rfl rfl (.inl rfl) ?_
  simp -implicitDefEqProofs (maxSteps := 2000000) only [push_cast, Nat.reduceEqDiff, Nat.reduceLT, Nat.reduceLeDiff, Nat.reduceAdd, Nat.reduceMul, Nat.reduceSub, Nat.reduceBEq, ↓reduceIte, reduceCtorEq, eStore]
  have bad : svOk gs s = false → saveG gs s near = [] ∧ saveN gs s = -1 := fun h => by simp [saveG, saveN, h]
  cases hok : storeOk gs with
  | false =>
    obtain ⟨h1, h2⟩ := bad (by unfold svOk; rw [hok]; rfl)
    rw [h1, h2]
    simp only [Bool.not_false, if_true]
    simp -implicitDefEqProofs (maxSteps := 2000000) only [push_cast, Nat.reduceEqDiff, Nat.reduceLT, Nat.reduceLeDiff, Nat.reduceAdd, Nat.reduceMul, Nat.reduceSub, Nat.reduceBEq, ↓reduceIte, reduceCtorEq, eStore]
    exact Close.of [none] rfl rfl rfl (by simp only [push_cast, Nat.reduceEqDiff, Nat.reduceLT, Nat.reduceLeDiff, Nat.reduceAdd, Nat.reduceMul, Nat.reduceSub, Nat.reduceBEq, ↓reduceIte, reduceCtorEq] <;> first | rfl | exact ⟨rfl, rfl⟩) (by simp only [push_cast, Nat.reduceEqDiff, Nat.reduceLT, Nat.reduceLeDiff, Nat.reduceAdd, Nat.reduceMul, Nat.reduceSub, Nat.reduceBEq, ↓reduceIte, reduceCtorEq] <;> first | rfl | exact ⟨rfl, rfl⟩)
  | true =>
  obtain ⟨hlen, hu⟩ := storeUps hok
  simp -implicitDefEqProofs (maxSteps := 2000000) only [push_cast, Nat.reduceEqDiff, Nat.reduceLT, Nat.reduceLeDiff, Nat.reduceAdd, Nat.reduceMul, Nat.reduceSub, Nat.reduceBEq, ↓reduceIte, reduceCtorEq, eStore]
  refine Callx.closed (implStateOk s) rfl rfl (.inl rfl) ?_
  simp -implicitDefEqProofs (maxSteps := 2000000) only [push_cast, Nat.reduceEqDiff, Nat.reduceLT, Nat.reduceLeDiff, Nat.reduceAdd, Nat.reduceMul, Nat.reduceSub, Nat.reduceBEq, ↓reduceIte, reduceCtorEq, eStore]
  refine iteI (fun h => ?_) (fun h => ?_)
  · obtain ⟨h1, h2⟩ := bad (by unfold svOk; rw [hok]; simpa using h)
    rw [h1, h2]
    exact Close.of [none] rfl rfl rfl (by simp only [push_cast, Nat.reduceEqDiff, Nat.reduceLT, Nat.reduceLeDiff, Nat.reduceAdd, Nat.reduceMul, Nat.reduceSub, Nat.reduceBEq, ↓reduceIte, reduceCtorEq] <;> first | rfl | exact ⟨rfl, rfl⟩) (by simp only [push_cast, Nat.reduceEqDiff, Nat.reduceLT, Nat.reduceLeDiff, Nat.reduceAdd, Nat.reduceMul, Nat.reduceSub, Nat.reduceBEq, ↓reduceIte, reduceCtorEq] <;> first | rfl | exact ⟨rfl, rfl⟩)
  have hso : stateOk s = true := by simpa using h
  obtain ⟨so1, so2, so3⟩ := stateOk_ord hso
  have hsv : svOk gs s = true := by unfold svOk; rw [hok, hso]; rfl
  have hG : saveG gs s near = if 0 ≤ fdTo gs s gs.length then gs else if 1000 ≤ gs.length then [] else gs ++ [newG gs s near] := if_pos hsv
  have hN : saveN gs s = if 0 ≤ fdTo gs s gs.length then fdTo gs s gs.length else if 1000 ≤ gs.length then -1 else gs.length := if_pos hsv
  intro _
  have hnl : (nodesT gs gs.length).length = gs.length := by simp [nodesT]
  have hnode : ∀ (m : Nat) (y : T), (nodesT gs gs.length)[m]? = some y → m < gs.length ∧ y = nodeOf gs m := fun m y hy => by
    have hm : m < gs.length := by have := (List.getElem?_eq_some_iff.1 hy).1; omega
    unfold nodesT at hy
    rw [List.getElem?_map, List.getElem?_range hm] at hy
    exact ⟨hm, by simpa using hy.symm⟩
  refine WL.loop (ι := Nat) (D := (fun i => if i = 1000022 then (999999, []) else if i = 8 then (9, [(false, 0), (false, 1), (false, 2), (false, 3), (false, 4), (false, 5), (true, 6), (false, 7), (true, 8)]) else (0, []))) (fun i => i ≤ gs.length) (fun i => ⟨114, [(1, .t (eEntryS s)), (2, .t (.i .i64 near)), (3, .rf 0 0), (6, .rf 1 0), (8, .t (.sl (nodesT gs gs.length))), (10, .rf 2 0), (32, .t (eGroupS gs)), (33, .t (.i .i64 gs.length)), (34, .t (.i .i64 i))], [.box (.t (eStore ⟨gs⟩)), .box (.ag [.ns]), .box (.ag [.sr 3]), grO (gs.take i)]⟩) (fun i => gs.length - i) mixed (by kernel_rfl) 0 (by omega) (Keep.wk (ids := [some 0, some 1, some 2, none]) ?_) ?_
  · simp only [push_cast, Nat.reduceEqDiff, Nat.reduceLT, Nat.reduceLeDiff, Nat.reduceAdd, Nat.reduceMul, Nat.reduceSub, Nat.reduceBEq, ↓reduceIte, reduceCtorEq, eStore, List.take_zero, List.map_nil] <;> first | rfl | exact ⟨rfl, rfl⟩
  intro i hi
  simp -implicitDefEqProofs (maxSteps := 2000000) only [push_cast, Nat.reduceEqDiff, Nat.reduceLT, Nat.reduceLeDiff, Nat.reduceAdd, Nat.reduceMul, Nat.reduceSub, Nat.reduceBEq, ↓reduceIte, reduceCtorEq, eStore, eGroup]
  refine iteI (fun h1 => ⟨by omega, fun g hg => ?_⟩) (fun h1 => ?_)
  · rw [Int.toNat_natCast] at hg
    have hgl := (hu i (by omega) g hg).len
    refine Mkx.closed (cloneE g.sets hB (by omega)) rfl rfl (.inr ⟨rfl, rfl⟩) ?_
    simp -implicitDefEqProofs (maxSteps := 2000000) only [push_cast, Nat.reduceEqDiff, Nat.reduceLT, Nat.reduceLeDiff, Nat.reduceAdd, Nat.reduceMul, Nat.reduceSub, Nat.reduceBEq, ↓reduceIte, reduceCtorEq, eStore, eGroup]
    have htl : (gs.take i).length = i := by rw [List.length_take]; omega
    have hto : gs.take (i + 1) = gs.take i ++ [g] := by rw [List.take_add_one, hg]; rfl
    refine ⟨rfl, by omega, rfl, by omega, by omega, by unfold inI64; omega, i + 1, by omega, by omega, Keep.wk (ids := [some 0, some 1, some 2, some 7]) ?_⟩
    rw [hto]
    simp only [push_cast, Nat.reduceEqDiff, Nat.reduceLT, Nat.reduceLeDiff, Nat.reduceAdd, Nat.reduceMul, Nat.reduceSub, Nat.reduceBEq, ↓reduceIte, reduceCtorEq, eStore, List.map_append, eGroup] <;> first | rfl | exact ⟨rfl, rfl⟩
  have hie : i = gs.length := by omega
  subst hie
  rw [List.take_length]
  refine Callx.closed (liveOfC s) rfl rfl (.inl rfl) ?_
  simp -implicitDefEqProofs (maxSteps := 2000000) only [push_cast, Nat.reduceEqDiff, Nat.reduceLT, Nat.reduceLeDiff, Nat.reduceAdd, Nat.reduceMul, Nat.reduceSub, Nat.reduceBEq, ↓reduceIte, reduceCtorEq, eStore, eGroup]
  have hbs := Is.base hso
  rw [← live_patch hso] at hbs
  intro _
  refine WL.loop (ι := Nat) (D := (fun i => if i = 1000022 then (999999, []) else if i = 8 then (9, [(false, 0), (false, 1), (false, 2), (false, 3), (false, 4), (false, 5), (true, 6), (false, 7), (true, 8)]) else (0, []))) (fun m => m ≤ gs.length ∧ ∀ j < m, expandOf gs j ≠ s) (fun m => ⟨114, [(1, .t (eEntryS s)), (2, .t (.i .i64 near)), (3, .rf 0 0), (6, .rf 1 0), (8, .t (.sl (nodesT gs gs.length))), (10, .rf 2 0), (13, .t (lvT (live s))), (52, .t (.sl (nodesT gs gs.length))), (53, .t (.i .i64 (nodesT gs gs.length).length)), (54, .t (.i .i64 m))], [.box (.t (eStore ⟨gs⟩)), .box (.ag [.ns]), .box (.ag [.sr 3]), grO gs]⟩) (fun m => gs.length - m) mixed (by kernel_rfl) 0 ⟨by omega, by simp⟩ (Keep.wk (ids := [some 0, some 1, some 2, some 3]) ?_) ?_
  · simp only [push_cast, Nat.reduceEqDiff, Nat.reduceLT, Nat.reduceLeDiff, Nat.reduceAdd, Nat.reduceMul, Nat.reduceSub, Nat.reduceBEq, ↓reduceIte, reduceCtorEq, eStore] <;> first | rfl | exact ⟨rfl, rfl⟩
  rintro m ⟨hm, hne⟩
  simp -implicitDefEqProofs (maxSteps := 2000000) only [push_cast, Nat.reduceEqDiff, Nat.reduceLT, Nat.reduceLeDiff, Nat.reduceAdd, Nat.reduceMul, Nat.reduceSub, Nat.reduceBEq, ↓reduceIte, reduceCtorEq, eStore, eGroup]
  rw [hnl]
  refine iteI (fun h2 => ⟨by omega, fun y hy => ?_⟩) (fun h2 => ?_)
  · rw [Int.toNat_natCast] at hy
    obtain ⟨hml, rfl⟩ := hnode m y hy
    obtain ⟨g, hg⟩ : ∃ g, gs[m]? = some g := ⟨_, List.getElem?_eq_getElem hml⟩
    have hk := hu m hml g hg
    have his := fullM_is m (fun j hj => hu j (by omega)) g hg hk.hi hk.ord fun hn => hk.base (by have := hk.lo; omega)
    rw [nodeOf_eq hg]
    generalize (if 0 ≤ g.parent ∧ g.parent.toNat < m then nodeOf gs g.parent.toNat else T.np) = up
    simp -implicitDefEqProofs (maxSteps := 2000000) only [push_cast, Nat.reduceEqDiff, Nat.reduceLT, Nat.reduceLeDiff, Nat.reduceAdd, Nat.reduceMul, Nat.reduceSub, Nat.reduceBEq, ↓reduceIte, reduceCtorEq, eStore, eGroup]
    refine Callx.closed (mapsEqual (fullM gs m) (live s) his.keys (live_nodup s)) rfl rfl (.inl rfl) ?_
    simp -implicitDefEqProofs (maxSteps := 2000000) only [push_cast, Nat.reduceEqDiff, Nat.reduceLT, Nat.reduceLeDiff, Nat.reduceAdd, Nat.reduceMul, Nat.reduceSub, Nat.reduceBEq, ↓reduceIte, reduceCtorEq, eStore, eGroup]
    have heq := eqM_is his hbs
    refine iteI (fun h3 => ?_) (fun h3 => ?_)
    · have hf := fdTo_at hne (heq.1 h3) hml
      rw [hf, if_pos (by omega)] at hG hN
      rw [hG, hN]
      exact Close.of [some 3] rfl rfl rfl (by simp only [push_cast, Nat.reduceEqDiff, Nat.reduceLT, Nat.reduceLeDiff, Nat.reduceAdd, Nat.reduceMul, Nat.reduceSub, Nat.reduceBEq, ↓reduceIte, reduceCtorEq] <;> first | rfl | exact ⟨rfl, rfl⟩) (by simp only [push_cast, Nat.reduceEqDiff, Nat.reduceLT, Nat.reduceLeDiff, Nat.reduceAdd, Nat.reduceMul, Nat.reduceSub, Nat.reduceBEq, ↓reduceIte, reduceCtorEq, List.map_append, eGroup] <;> first | rfl | exact ⟨rfl, rfl⟩)
    · refine ⟨by unfold inI64; omega, m + 1, ⟨by omega, fun j hj => ?_⟩, by omega, Keep.wk (ids := [some 0, some 1, some 2, some 3]) ?_⟩
      · rcases Nat.lt_or_ge j m with hjm | hjm
        · exact hne j hjm
        · rw [show j = m by omega]
          exact fun h => h3 (heq.2 h)
      · simp only [push_cast, Nat.reduceEqDiff, Nat.reduceLT, Nat.reduceLeDiff, Nat.reduceAdd, Nat.reduceMul, Nat.reduceSub, Nat.reduceBEq, ↓reduceIte, reduceCtorEq, eStore, hnl] <;> first | rfl | exact ⟨rfl, rfl⟩
  have hme : m = gs.length := by omega
  subst hme
  rw [fdTo_none hne, if_neg (by omega)] at hG hN
  intro _
  refine iteI (fun h3 => ?_) (fun h3 => ?_)
  · rw [if_pos (by omega)] at hG hN
    rw [hG, hN]
    exact Close.of [none] rfl rfl rfl (by simp only [push_cast, Nat.reduceEqDiff, Nat.reduceLT, Nat.reduceLeDiff, Nat.reduceAdd, Nat.reduceMul, Nat.reduceSub, Nat.reduceBEq, ↓reduceIte, reduceCtorEq] <;> first | rfl | exact ⟨rfl, rfl⟩) (by simp only [push_cast, Nat.reduceEqDiff, Nat.reduceLT, Nat.reduceLeDiff, Nat.reduceAdd, Nat.reduceMul, Nat.reduceSub, Nat.reduceBEq, ↓reduceIte, reduceCtorEq, List.map_append, eGroup] <;> first | rfl | exact ⟨rfl, rfl⟩)
  rw [if_neg (by omega)] at hG hN
  rw [hG, hN]
  refine Callx.closed (cloneE s hB (by omega)) rfl rfl (.inr ⟨rfl, rfl⟩) ?_
  simp -implicitDefEqProofs (maxSteps := 2000000) only [push_cast, Nat.reduceEqDiff, Nat.reduceLT, Nat.reduceLeDiff, Nat.reduceAdd, Nat.reduceMul, Nat.reduceSub, Nat.reduceBEq, ↓reduceIte, reduceCtorEq, eStore, eGroup]
  obtain ⟨ng, hng⟩ : ∃ ng, newG gs s near = ng := ⟨_, rfl⟩
  rw [hng]
  unfold newG at hng
  refine W.join (ι := Unit) (D := (fun i => if i = 8 then (9, [(false, 0), (false, 1), (false, 2), (false, 3), (false, 4), (false, 5), (true, 6), (false, 7), (true, 8)]) else (0, []))) (fun _ => True) (fun _ => ⟨114, [(6, .rf 1 0), (8, .t (.sl (nodesT gs gs.length))), (10, .rf 2 0), (16, .rf 5 0)], [.box (.t (eStore ⟨gs⟩)), .box (.ag [.ns]), .box (.ag [.sr 3]), grO gs, enO ng.sets, .box (.ag [.t (.i .i64 ng.parent), .sr 4])]⟩) mixed (by kernel_rfl) ?_ (fun _ _ => ?_)
  · simp -implicitDefEqProofs (maxSteps := 2000000) only [push_cast, Nat.reduceEqDiff, Nat.reduceLT, Nat.reduceLeDiff, Nat.reduceAdd, Nat.reduceMul, Nat.reduceSub, Nat.reduceBEq, ↓reduceIte, reduceCtorEq, eStore, eGroup]
    have stay : ¬ (0 ≤ near ∧ near < gs.length ∧ linksOf gs near.toNat < 4) → ng.parent = -1 ∧ ng.sets = s := fun h => by rw [if_neg h] at hng; rw [← hng]; exact ⟨rfl, rfl⟩
    refine iteI (fun h4 => ?_) (fun h4 => ?_)
    rotate_left
    · obtain ⟨e1, e2⟩ := stay (fun h => h4 h.1)
      refine ⟨(), Keep.wk (ids := [some 0, some 1, some 2, some 3, some 4, some 5]) ?_⟩
      rw [e1, e2]
      simp only [push_cast, Nat.reduceEqDiff, Nat.reduceLT, Nat.reduceLeDiff, Nat.reduceAdd, Nat.reduceMul, Nat.reduceSub, Nat.reduceBEq, ↓reduceIte, reduceCtorEq, eStore] <;> first | rfl | exact ⟨rfl, rfl⟩
    rw [hnl]
    intro _
    refine iteI (fun h5 => ?_) (fun h5 => ?_)
    rotate_left
    · obtain ⟨e1, e2⟩ := stay (fun h => h5 h.2.1)
      refine ⟨(), Keep.wk (ids := [some 0, some 1, some 2, some 3, some 4, some 5]) ?_⟩
      rw [e1, e2]
      simp only [push_cast, Nat.reduceEqDiff, Nat.reduceLT, Nat.reduceLeDiff, Nat.reduceAdd, Nat.reduceMul, Nat.reduceSub, Nat.reduceBEq, ↓reduceIte, reduceCtorEq, eStore] <;> first | rfl | exact ⟨rfl, rfl⟩
    obtain ⟨m, rfl⟩ : ∃ m : Nat, near = m := ⟨near.toNat, by omega⟩
    rw [Int.toNat_natCast] at stay hng
    refine ⟨by omega, fun y hy => ?_⟩
    rw [Int.toNat_natCast] at hy
    obtain ⟨hml, rfl⟩ := hnode m y hy
    obtain ⟨g, hg⟩ : ∃ g, gs[m]? = some g := ⟨_, List.getElem?_eq_getElem hml⟩
    have hk := hu m hml g hg
    have his := fullM_is m (fun j hj => hu j (by omega)) g hg hk.hi hk.ord fun hn => hk.base (by have := hk.lo; omega)
    rw [nodeOf_eq hg]
    generalize (if 0 ≤ g.parent ∧ g.parent.toNat < m then nodeOf gs g.parent.toNat else T.np) = up
    simp -implicitDefEqProofs (maxSteps := 2000000) only [push_cast, Nat.reduceEqDiff, Nat.reduceLT, Nat.reduceLeDiff, Nat.reduceAdd, Nat.reduceMul, Nat.reduceSub, Nat.reduceBEq, ↓reduceIte, reduceCtorEq, eStore, eGroup]
    refine iteI (fun h6 => ?_) (fun h6 => ?_)
    rotate_left
    · obtain ⟨e1, e2⟩ := stay (fun h => h6 (by have := h.2.2; omega))
      refine ⟨(), Keep.wk (ids := [some 0, some 1, some 2, some 3, some 4, some 5]) ?_⟩
      rw [e1, e2]
      simp only [push_cast, Nat.reduceEqDiff, Nat.reduceLT, Nat.reduceLeDiff, Nat.reduceAdd, Nat.reduceMul, Nat.reduceSub, Nat.reduceBEq, ↓reduceIte, reduceCtorEq, eStore] <;> first | rfl | exact ⟨rfl, rfl⟩
    have hne : ng = ⟨m, deltaL (expandOf gs m) s⟩ := by rw [if_pos ⟨by omega, by omega, by omega⟩] at hng; exact hng.symm
    refine ⟨by omega, fun y hy => ?_⟩
    rw [Int.toNat_natCast] at hy
    obtain ⟨_, rfl⟩ := hnode m y hy
    rw [nodeOf_eq hg]
    generalize (if 0 ≤ g.parent ∧ g.parent.toNat < m then nodeOf gs g.parent.toNat else T.np) = up2
    simp -implicitDefEqProofs (maxSteps := 2000000) only [push_cast, Nat.reduceEqDiff, Nat.reduceLT, Nat.reduceLeDiff, Nat.reduceAdd, Nat.reduceMul, Nat.reduceSub, Nat.reduceBEq, ↓reduceIte, reduceCtorEq, eStore, eGroup]
    have hfl := hk.full
    rw [← his.len] at hfl
    refine Callx.closed (liveList (fullM gs m) (expandOf gs m) hB (by omega) his) rfl rfl (.inl rfl) ?_
    simp -implicitDefEqProofs (maxSteps := 2000000) only [push_cast, Nat.reduceEqDiff, Nat.reduceLT, Nat.reduceLeDiff, Nat.reduceAdd, Nat.reduceMul, Nat.reduceSub, Nat.reduceBEq, ↓reduceIte, reduceCtorEq, eStore, eGroup]
    refine Callx.closed (deltaOf (expandOf gs m) s hB (expand_ok hok hml) hso) rfl rfl (.inr ⟨rfl, rfl⟩) ?_
    simp -implicitDefEqProofs (maxSteps := 2000000) only [push_cast, Nat.reduceEqDiff, Nat.reduceLT, Nat.reduceLeDiff, Nat.reduceAdd, Nat.reduceMul, Nat.reduceSub, Nat.reduceBEq, ↓reduceIte, reduceCtorEq, eStore, eGroup]
    refine ⟨(), Keep.wk (ids := [some 0, some 1, some 2, some 3, some 7, some 5]) ?_⟩
    rw [hne]
    simp only [push_cast, Nat.reduceEqDiff, Nat.reduceLT, Nat.reduceLeDiff, Nat.reduceAdd, Nat.reduceMul, Nat.reduceSub, Nat.reduceBEq, ↓reduceIte, reduceCtorEq, eStore] <;> first | rfl | exact ⟨rfl, rfl⟩
  · simp -implicitDefEqProofs (maxSteps := 2000000) only [push_cast, Nat.reduceEqDiff, Nat.reduceLT, Nat.reduceLeDiff, Nat.reduceAdd, Nat.reduceMul, Nat.reduceSub, Nat.reduceBEq, ↓reduceIte, reduceCtorEq, eStore, eGroup]
    refine ⟨rfl, by omega, rfl, by omega, by omega, fun _ => ?_⟩
    rw [hnl]
    exact Close.of [some 7] rfl rfl rfl (by simp only [push_cast, Nat.reduceEqDiff, Nat.reduceLT, Nat.reduceLeDiff, Nat.reduceAdd, Nat.reduceMul, Nat.reduceSub, Nat.reduceBEq, ↓reduceIte, reduceCtorEq] <;> first | rfl | exact ⟨rfl, rfl⟩) (by simp only [push_cast, Nat.reduceEqDiff, Nat.reduceLT, Nat.reduceLeDiff, Nat.reduceAdd, Nat.reduceMul, Nat.reduceSub, Nat.reduceBEq, ↓reduceIte, reduceCtorEq, List.map_append, eGroup] <;> first | rfl | exact ⟨rfl, rfl⟩)
end Go.Proofs.Ytmgdkkhnjkepiaa.BX
namespace Go.Proofs.Ytmgdkkhnjkepiaa.BX
set_option linter.unusedSectionVars false
set_option linter.unusedSimpArgs false
set_option linter.unusedVariables false
open Go Go.RowKit
set_option maxRecDepth 20000
set_option maxHeartbeats 400000
def dropAt (k : Nat) (e : Entry) : Entry := if k % 5 = 4 then ⟨e.typ, e.key, []⟩ else e
def inTo (b : List UInt8) (k p : Nat) (s : List Entry) : Nat → List Entry × Nat
  | 0 => (s, p)
  | j + 1 => (setL (inTo b k p s j).1 (dropAt k (slotAt (nx b (inTo b k p s j).2))) false, np b (inTo b k p s j).2)
structure DS where
  gs : List Group
  s : List Entry
  near : Int
  p : Nat
def nearAt (k i : Nat) (near : Int) : Int := if k % 8 = 7 then ((k / 8 % (i + 2) : Nat) : Int) - 1 else near
noncomputable def dsStep (b : List UInt8) (i : Nat) (d : DS) : DS :=
  ⟨saveG d.gs (inTo b (nx b d.p) (np b d.p) d.s (1 + nx b d.p % 2)).1 (nearAt (nx b d.p) i d.near),
   (inTo b (nx b d.p) (np b d.p) d.s (1 + nx b d.p % 2)).1,
   saveN d.gs (inTo b (nx b d.p) (np b d.p) d.s (1 + nx b d.p % 2)).1,
   (inTo b (nx b d.p) (np b d.p) d.s (1 + nx b d.p % 2)).2⟩
noncomputable def dsTo (b : List UInt8) (d : DS) : Nat → DS
  | 0 => d
  | i + 1 => dsStep b i (dsTo b d i)
def ds0 (b : List UInt8) (p : Nat) : DS := ⟨[], (drawL b (np b p)).1, -1, (drawL b (np b p)).2⟩
noncomputable def dsOf (b : List UInt8) (p : Nat) : DS := dsTo b (ds0 b p) (1 + nx b p % 8)
def DrS (s : List Entry) (m : Nat) : Prop := Ordered s ∧ s.length ≤ m ∧ (∀ e ∈ s, e.id ≠ []) ∧ ∀ e ∈ s, e.typ.length ≤ 6
theorem typeAt_len {k : Nat} : (typeAt k).length ≤ 6 := by
  unfold typeAt
  split
  · decide
  split
  · decide
  split <;> decide
theorem slotAt_len {k : Nat} : (slotAt k).typ.length ≤ 6 := typeAt_len
theorem dropAt_len {k n : Nat} : (dropAt k (slotAt n)).typ.length ≤ 6 := by
  unfold dropAt
  split
  · exact slotAt_len
  · exact slotAt_len
theorem DrS.set {s : List Entry} {m : Nat} {e : Entry} (h : DrS s m) (he : e.typ.length ≤ 6) : DrS (setL s e false) (m + 1) := by
  obtain ⟨h1, h2, h3, h4⟩ := h
  refine ⟨(setL_spec h1).1, ?_, setL_ids h3, fun x hx => ?_⟩
  · have := setL_len_ord (e := e) (keep := false) h1
    omega
  · rcases setL_mem hx with hx | hx
    · exact h4 x hx
    · subst hx; exact he
theorem DrS.mono {s : List Entry} {m n : Nat} (h : DrS s m) (hm : m ≤ n) : DrS s n := ⟨h.1, Nat.le_trans h.2.1 hm, h.2.2⟩
theorem drS_drawTo {b : List UInt8} {p : Nat} : ∀ {i : Nat}, DrS (drawTo b p i).1 i
  | 0 => ⟨.nil, Nat.le_refl _, fun _ h => (by cases h), fun _ h => (by cases h)⟩
  | i + 1 => (drS_drawTo (i := i)).set slotAt_len
theorem drS_drawL {b : List UInt8} {p : Nat} : DrS (drawL b p).1 6 := (drS_drawTo (b := b) (p := np b p) (i := nx b p % 7)).mono (by omega)
theorem drS_inTo {b : List UInt8} {k p m : Nat} {s : List Entry} (h : DrS s m) : ∀ {j : Nat}, DrS (inTo b k p s j).1 (m + j)
  | 0 => h
  | j + 1 => (drS_inTo h (j := j)).set dropAt_len
theorem inTo_p {b : List UInt8} {k p : Nat} {s : List Entry} (h : p ≤ b.length) : ∀ {j : Nat}, (inTo b k p s j).2 ≤ b.length
  | 0 => h
  | j + 1 => np_le (inTo_p h)
theorem DrS.ok {s : List Entry} {m : Nat} (h : DrS s m) (hm : m ≤ 300) : stateOk s = true := stateOk_of (inOrd_of h.1) (Nat.le_trans h.2.1 hm) h.2.2.1
def ShortG (gs : List Group) : Prop := ∀ g ∈ gs, ∀ e ∈ g.sets, e.typ.length ≤ 6
theorem putsL_short {ch : List Entry} : ∀ {s : List Entry}, (∀ e ∈ s, e.typ.length ≤ 6) → (∀ e ∈ ch, e.typ.length ≤ 6) → ∀ e ∈ putsL s ch, e.typ.length ≤ 6 := by
  induction ch with
  | nil => intro s h _; exact h
  | cons x ch ih =>
    intro s h hc
    refine ih (s := setL s x true) (fun e he => ?_) fun e he => hc e (List.mem_cons_of_mem _ he)
    rcases setL_mem he with he | he
    · exact h e he
    · subst he; exact hc _ List.mem_cons_self
theorem patchL_short {ch : List Entry} : ∀ {s : List Entry}, (∀ e ∈ s, e.typ.length ≤ 6) → (∀ e ∈ ch, e.typ.length ≤ 6) → ∀ e ∈ patchL s ch, e.typ.length ≤ 6 := by
  induction ch with
  | nil => intro s h _; exact h
  | cons x ch ih =>
    intro s h hc
    refine ih (s := setL s x false) (fun e he => ?_) fun e he => hc e (List.mem_cons_of_mem _ he)
    rcases setL_mem he with he | he
    · exact h e he
    · subst he; exact hc _ List.mem_cons_self
theorem deltaL_short {a s : List Entry} (ha : ∀ e ∈ a, e.typ.length ≤ 6) (hs : ∀ e ∈ s, e.typ.length ≤ 6) : ∀ e ∈ deltaL a s, e.typ.length ≤ 6 := by
  unfold deltaL
  refine putsL_short (fun e h => by cases h) fun e he => ?_
  rcases List.mem_append.1 he with he | he
  · unfold d1 at he
    rw [List.mem_filterMap] at he
    obtain ⟨x, hx, hy⟩ := he
    split at hy
    · cases hy; exact ha x hx
    · cases hy
  · exact hs e (List.mem_filter.1 he).1
theorem expandOf_short {gs : List Group} (h : ShortG gs) : ∀ (i : Nat), ∀ e ∈ expandOf gs i, e.typ.length ≤ 6 := by
  intro i
  induction i using Nat.strongRecOn with
  | ind i ih =>
    rw [expandOf]
    cases hg : gs[i]? with
    | none => exact fun e he => by cases he
    | some g =>
      have hm := h g (List.mem_of_getElem? hg)
      dsimp only
      split
      · rename_i hp; exact patchL_short (ih _ hp.2) hm
      · exact hm
theorem saveG_short {gs : List Group} {s : List Entry} {near : Int} (h : ShortG gs) (hs : ∀ e ∈ s, e.typ.length ≤ 6) : ShortG (saveG gs s near) := by
  unfold saveG
  split
  · split
    · exact h
    · split
      · exact fun g hg => by cases hg
      · intro g hg
        rcases List.mem_append.1 hg with hg | hg
        · exact h g hg
        · rw [List.mem_singleton] at hg
          subst hg
          unfold newG
          split
          · exact deltaL_short (expandOf_short h _) hs
          · exact hs
  · exact fun g hg => by cases hg
theorem saveN_ok {gs : List Group} {s : List Entry} (h : svOk gs s = true) (hl : gs.length < 1000) : 0 ≤ saveN gs s := by
  unfold saveN
  rw [if_pos h]
  split
  · assumption
  · rw [if_neg (by omega)]; omega
theorem saveG_len {gs : List Group} {s : List Entry} {near : Int} : (saveG gs s near).length ≤ gs.length + 1 := by
  unfold saveG
  split
  · split
    · omega
    · split
      · simp
      · simp
  · simp
structure DsI (i n : Nat) (d : DS) : Prop where
  ok : storeOk d.gs = true
  st : DrS d.s (6 + 2 * i)
  len : d.gs.length ≤ i
  pos : 0 < i → 0 < d.gs.length
  sh : ShortG d.gs
  p : d.p ≤ n
  near : -1 ≤ d.near ∧ d.near ≤ 1000
theorem store_nil : storeOk [] = true := store_of (by simp) fun j hj => absurd hj (by simp)
variable [Bd]
theorem dsI {b : List UInt8} {p : Nat} (hp : p ≤ b.length) : ∀ {i : Nat}, i ≤ 8 → DsI i b.length (dsTo b (ds0 b p) i)
  | 0, _ => ⟨store_nil, drS_drawL, Nat.le_refl _, fun h => absurd h (by omega), fun g hg => (nomatch hg), drawL_p (p := np b p) (np_le hp), by show (-1 : Int) ≤ -1; omega, by show (-1 : Int) ≤ 1000; omega⟩
  | i + 1, hi => by
    have ih := dsI hp (i := i) (by omega)
    show DsI (i + 1) b.length (dsStep b i (dsTo b (ds0 b p) i))
    generalize dsTo b (ds0 b p) i = d at ih
    have hs := (drS_inTo ih.st (b := b) (k := nx b d.p) (p := np b d.p) (j := 1 + nx b d.p % 2)).mono (n := 6 + 2 * (i + 1)) (by omega)
    have hp2 := inTo_p (k := nx b d.p) (s := d.s) (np_le ih.p) (j := 1 + nx b d.p % 2)
    unfold dsStep
    generalize inTo b (nx b d.p) (np b d.p) d.s (1 + nx b d.p % 2) = r at *
    have hsv : svOk d.gs r.1 = true := by unfold svOk; rw [ih.ok, hs.ok (by omega)]; rfl
    have hl := ih.len
    have h0 := saveN_ok hsv (by omega)
    obtain ⟨_, _, k3, k4, k5, k6, k7⟩ := save_kept (near := nearAt (nx b d.p) i d.near) h0
    have hl2 := saveG_len (gs := d.gs) (s := r.1) (near := nearAt (nx b d.p) i d.near)
    exact ⟨k3, hs, by show (saveG _ _ _).length ≤ _; omega, fun _ => by show 0 < (saveG _ _ _).length; omega, saveG_short ih.sh hs.2.2.2, hp2, by show -1 ≤ saveN _ _; omega, by show saveN _ _ ≤ 1000; omega⟩
theorem l4DrawStore (b : List UInt8) (p : Nat) (hB : Bd.B ≤ 2147483648) (hb : b.length ≤ 1000) (hp : p ≤ b.length) : ConM P0 56 [.rf 0 0] [rdO b p] (.ag [.sr 1]) [rdO b (dsOf b p).p, grO (dsOf b p).gs] := by
  refine ConM.intro (fn := Try.f56) [.cell 2 25] (fun _ => (0, [])) mixed (by kernel_rfl) rfl (by decide) rfl (by rfl) (by kernel_rfl) ?_
  simp -implicitDefEqProofs (maxSteps := 2000000) only [push_cast, Nat.reduceEqDiff, Nat.reduceLT, Nat.reduceLeDiff, Nat.reduceAdd, Nat.reduceMul, Nat.reduceSub, Nat.reduceBEq, ↓reduceIte, reduceCtorEq]
  have := Bd.lo
  refine Callx.hand [0] (rdNext b p hb hp) (by decide) (by simp only [push_cast, Nat.reduceEqDiff, Nat.reduceLT, Nat.reduceLeDiff, Nat.reduceAdd, Nat.reduceMul, Nat.reduceSub, Nat.reduceBEq, ↓reduceIte, reduceCtorEq]) rfl rfl (by simp only [push_cast, Nat.reduceEqDiff, Nat.reduceLT, Nat.reduceLeDiff, Nat.reduceAdd, Nat.reduceMul, Nat.reduceSub, Nat.reduceBEq, ↓reduceIte, reduceCtorEq] <;> rfl) rfl (.inr ⟨rfl, by simp only [push_cast, Nat.reduceEqDiff, Nat.reduceLT, Nat.reduceLeDiff, Nat.reduceAdd, Nat.reduceMul, Nat.reduceSub, Nat.reduceBEq, ↓reduceIte, reduceCtorEq]⟩) ?_
  simp -implicitDefEqProofs (maxSteps := 2000000) only [push_cast, Nat.reduceEqDiff, Nat.reduceLT, Nat.reduceLeDiff, Nat.reduceAdd, Nat.reduceMul, Nat.reduceSub, Nat.reduceBEq, ↓reduceIte, reduceCtorEq]
  have hk := nx_lt (b := b) (p := p)
  refine ⟨by omega, by omega, by unfold inI64; omega, ?_⟩
  refine Callx.hand [0] (l4Draw b (np b p) hB hb (np_le hp)) (by decide) (by simp only [push_cast, Nat.reduceEqDiff, Nat.reduceLT, Nat.reduceLeDiff, Nat.reduceAdd, Nat.reduceMul, Nat.reduceSub, Nat.reduceBEq, ↓reduceIte, reduceCtorEq]) rfl rfl (by simp only [push_cast, Nat.reduceEqDiff, Nat.reduceLT, Nat.reduceLeDiff, Nat.reduceAdd, Nat.reduceMul, Nat.reduceSub, Nat.reduceBEq, ↓reduceIte, reduceCtorEq] <;> rfl) rfl (.inr ⟨rfl, by simp only [push_cast, Nat.reduceEqDiff, Nat.reduceLT, Nat.reduceLeDiff, Nat.reduceAdd, Nat.reduceMul, Nat.reduceSub, Nat.reduceBEq, ↓reduceIte, reduceCtorEq]⟩) ?_
  simp -implicitDefEqProofs (maxSteps := 2000000) only [push_cast, Nat.reduceEqDiff, Nat.reduceLT, Nat.reduceLeDiff, Nat.reduceAdd, Nat.reduceMul, Nat.reduceSub, Nat.reduceBEq, ↓reduceIte, reduceCtorEq]
  generalize hm : 1 + nx b p % 8 = m at *
  have em : 1 + (nx b p : Int) % 8 = (m : Int) := by omega
  have hR : dsOf b p = dsTo b (ds0 b p) m := by rw [dsOf, hm]
  rw [em, hR]
  refine WL.loop (ι := Nat) (D := (fun _ => (0, []))) (fun i => i ≤ m) (fun i => ⟨58, [(0, .rf 0 0), (2, .rf 1 0), (3, .t (.i .i64 m)), (4, .rf 2 0), (5, .sr 4), (6, .t (.i .i64 (dsTo b (ds0 b p) i).near)), (7, .t (.i .i64 i))], [rdO b (dsTo b (ds0 b p) i).p, .box (.ag [.ns]), .box (.ag [.sr 3]), grO (dsTo b (ds0 b p) i).gs, enO (dsTo b (ds0 b p) i).s]⟩) (fun i => m - i) mixed (by kernel_rfl) 0 (by omega) (Keep.wk (ids := [some 0, some 1, some 2, none, some 3]) ?_) ?_
  · simp only [push_cast, Nat.reduceEqDiff, Nat.reduceLT, Nat.reduceLeDiff, Nat.reduceAdd, Nat.reduceMul, Nat.reduceSub, Nat.reduceBEq, ↓reduceIte, reduceCtorEq, dsTo, ds0] <;> first | rfl | exact ⟨rfl, rfl⟩ | trivial
  intro i hi
  have hI := dsI hp (i := i) (by omega)
  have hst : dsTo b (ds0 b p) (i + 1) = dsStep b i (dsTo b (ds0 b p) i) := rfl
  obtain ⟨d, hd⟩ : ∃ d, dsTo b (ds0 b p) i = d := ⟨_, rfl⟩
  rw [hd] at hI hst ⊢
  simp -implicitDefEqProofs (maxSteps := 2000000) only [push_cast, Nat.reduceEqDiff, Nat.reduceLT, Nat.reduceLeDiff, Nat.reduceAdd, Nat.reduceMul, Nat.reduceSub, Nat.reduceBEq, ↓reduceIte, reduceCtorEq]
  have hstep : ∀ k q s', nx b d.p = k → np b d.p = q → inTo b k q d.s (1 + k % 2) = s' → dsStep b i d = ⟨saveG d.gs s'.1 (nearAt k i d.near), s'.1, saveN d.gs s'.1, s'.2⟩ := fun k q s' h1 h2 h3 => by subst h1 h2 h3; rfl
  split
  rotate_left
  · have hi : i = m := by omega
    subst hi
    rw [hd]
    exact Close.of [some 0, some 3] rfl rfl rfl (by simp only [push_cast, Nat.reduceEqDiff, Nat.reduceLT, Nat.reduceLeDiff, Nat.reduceAdd, Nat.reduceMul, Nat.reduceSub, Nat.reduceBEq, ↓reduceIte, reduceCtorEq] <;> rfl) (by simp only [push_cast, Nat.reduceEqDiff, Nat.reduceLT, Nat.reduceLeDiff, Nat.reduceAdd, Nat.reduceMul, Nat.reduceSub, Nat.reduceBEq, ↓reduceIte, reduceCtorEq] <;> rfl)
  rename_i hlt
  refine Callx.hand [0] (rdNext b d.p hb hI.p) (by decide) (by simp only [push_cast, Nat.reduceEqDiff, Nat.reduceLT, Nat.reduceLeDiff, Nat.reduceAdd, Nat.reduceMul, Nat.reduceSub, Nat.reduceBEq, ↓reduceIte, reduceCtorEq]) rfl rfl (by simp only [push_cast, Nat.reduceEqDiff, Nat.reduceLT, Nat.reduceLeDiff, Nat.reduceAdd, Nat.reduceMul, Nat.reduceSub, Nat.reduceBEq, ↓reduceIte, reduceCtorEq] <;> rfl) rfl (.inr ⟨rfl, by simp only [push_cast, Nat.reduceEqDiff, Nat.reduceLT, Nat.reduceLeDiff, Nat.reduceAdd, Nat.reduceMul, Nat.reduceSub, Nat.reduceBEq, ↓reduceIte, reduceCtorEq]⟩) ?_
  simp -implicitDefEqProofs (maxSteps := 2000000) only [push_cast, Nat.reduceEqDiff, Nat.reduceLT, Nat.reduceLeDiff, Nat.reduceAdd, Nat.reduceMul, Nat.reduceSub, Nat.reduceBEq, ↓reduceIte, reduceCtorEq]
  have hk := nx_lt (b := b) (p := d.p)
  have hq := np_le hI.p
  have hstep := fun s' => hstep _ _ s' rfl rfl
  have hds := fun j => drS_inTo hI.st (b := b) (k := nx b d.p) (p := np b d.p) (j := j)
  have hdp := fun j => inTo_p (k := nx b d.p) (s := d.s) hq (j := j)
  generalize nx b d.p = k at *
  generalize np b d.p = q at *
  generalize hr : 1 + k % 2 = r at *
  have er : 1 + (k : Int) % 2 = (r : Int) := by omega
  refine WL.loop (ι := Nat) (D := (fun _ => (0, []))) (fun j => j ≤ r) (fun j => ⟨58, [(0, .rf 0 0), (2, .rf 1 0), (3, .t (.i .i64 m)), (4, .rf 2 0), (5, .sr 4), (6, .t (.i .i64 d.near)), (7, .t (.i .i64 i)), (8, .t (.i .i64 k)), (9, .t (.i .i64 j))], [rdO b (inTo b k q d.s j).2, .box (.ag [.ns]), .box (.ag [.sr 3]), grO d.gs, enO (inTo b k q d.s j).1]⟩) (fun j => r - j) mixed (by kernel_rfl) 0 (by omega) (Keep.wk (ids := [some 0, some 1, some 2, some 3, some 4]) ?_) ?_
  · simp only [push_cast, Nat.reduceEqDiff, Nat.reduceLT, Nat.reduceLeDiff, Nat.reduceAdd, Nat.reduceMul, Nat.reduceSub, Nat.reduceBEq, ↓reduceIte, reduceCtorEq, inTo] <;> first | rfl | exact ⟨rfl, rfl⟩ | trivial
  intro j hj
  have hsj := hds j
  have hpj := hdp j
  have hnext : inTo b k q d.s (j + 1) = (setL (inTo b k q d.s j).1 (dropAt k (slotAt (nx b (inTo b k q d.s j).2))) false, np b (inTo b k q d.s j).2) := rfl
  obtain ⟨x, hx⟩ : ∃ x, inTo b k q d.s j = x := ⟨_, rfl⟩
  rw [hx] at hsj hpj hnext ⊢
  simp -implicitDefEqProofs (maxSteps := 2000000) only [push_cast, Nat.reduceEqDiff, Nat.reduceLT, Nat.reduceLeDiff, Nat.reduceAdd, Nat.reduceMul, Nat.reduceSub, Nat.reduceBEq, ↓reduceIte, reduceCtorEq]
  refine ⟨by omega, by omega, by unfold inI64; omega, ?_⟩
  rw [er]
  refine iteI (fun h1 => ?_) (fun h1 => ⟨by omega, by omega, ?_⟩)
  · refine Callx.hand [0] (l4Slot b x.2 hb hpj) (by decide) (by simp only [push_cast, Nat.reduceEqDiff, Nat.reduceLT, Nat.reduceLeDiff, Nat.reduceAdd, Nat.reduceMul, Nat.reduceSub, Nat.reduceBEq, ↓reduceIte, reduceCtorEq]) rfl rfl (by simp only [push_cast, Nat.reduceEqDiff, Nat.reduceLT, Nat.reduceLeDiff, Nat.reduceAdd, Nat.reduceMul, Nat.reduceSub, Nat.reduceBEq, ↓reduceIte, reduceCtorEq] <;> rfl) rfl (.inr ⟨rfl, by simp only [push_cast, Nat.reduceEqDiff, Nat.reduceLT, Nat.reduceLeDiff, Nat.reduceAdd, Nat.reduceMul, Nat.reduceSub, Nat.reduceBEq, ↓reduceIte, reduceCtorEq]⟩) ?_
    simp -implicitDefEqProofs (maxSteps := 2000000) only [push_cast, Nat.reduceEqDiff, Nat.reduceLT, Nat.reduceLeDiff, Nat.reduceAdd, Nat.reduceMul, Nat.reduceSub, Nat.reduceBEq, ↓reduceIte, reduceCtorEq, eEntry]
    refine ⟨by omega, by omega, iteI (fun h5 => ?_) (fun h5 => ?_)⟩
    · have hd5 : dropAt k (slotAt (nx b x.2)) = ⟨(slotAt (nx b x.2)).typ, (slotAt (nx b x.2)).key, []⟩ := if_pos (by omega)
      rw [hd5] at hnext
      refine Callx.closed (l4Set x.1 ⟨(slotAt (nx b x.2)).typ, (slotAt (nx b x.2)).key, []⟩ false hB (by have := hsj.2.1; omega)) rfl rfl (.inr ⟨rfl, rfl⟩) ?_
      simp -implicitDefEqProofs (maxSteps := 2000000) only [push_cast, Nat.reduceEqDiff, Nat.reduceLT, Nat.reduceLeDiff, Nat.reduceAdd, Nat.reduceMul, Nat.reduceSub, Nat.reduceBEq, ↓reduceIte, reduceCtorEq]
      refine ⟨by unfold inI64; omega, j + 1, by omega, by omega, Keep.wk (ids := [some 0, some 1, some 2, some 3, some 6]) ?_⟩
      simp only [push_cast, Nat.reduceEqDiff, Nat.reduceLT, Nat.reduceLeDiff, Nat.reduceAdd, Nat.reduceMul, Nat.reduceSub, Nat.reduceBEq, ↓reduceIte, reduceCtorEq, hnext] <;> rfl
    · have hd5 : dropAt k (slotAt (nx b x.2)) = slotAt (nx b x.2) := if_neg (by omega)
      rw [hd5] at hnext
      refine Callx.closed (l4Set x.1 (slotAt (nx b x.2)) false hB (by have := hsj.2.1; omega)) rfl rfl (.inr ⟨rfl, rfl⟩) ?_
      simp -implicitDefEqProofs (maxSteps := 2000000) only [push_cast, Nat.reduceEqDiff, Nat.reduceLT, Nat.reduceLeDiff, Nat.reduceAdd, Nat.reduceMul, Nat.reduceSub, Nat.reduceBEq, ↓reduceIte, reduceCtorEq]
      refine ⟨by unfold inI64; omega, j + 1, by omega, by omega, Keep.wk (ids := [some 0, some 1, some 2, some 3, some 6]) ?_⟩
      simp only [push_cast, Nat.reduceEqDiff, Nat.reduceLT, Nat.reduceLeDiff, Nat.reduceAdd, Nat.reduceMul, Nat.reduceSub, Nat.reduceBEq, ↓reduceIte, reduceCtorEq, hnext] <;> rfl
  have hj : j = r := by omega
  subst hj
  have hstep := hstep x hx
  rw [hstep] at hst
  have hmod : (k : Int) / 8 % ((i : Int) + 2) = ((k / 8 % (i + 2) : Nat) : Int) := by
    rw [show (k : Int) / 8 = ((k / 8 : Nat) : Int) by omega, show (i : Int) + 2 = ((i + 2 : Nat) : Int) by omega]; exact (Int.natCast_emod _ _).symm
  have hml := Nat.mod_lt (k / 8) (show 0 < i + 2 by omega)
  refine iteI (fun h7 => ?_) (fun h7 => ?_)
  · have hn : nearAt k i d.near = ((k / 8 % (i + 2) : Nat) : Int) - 1 := if_pos (by omega)
    rw [hmod]
    rw [hn] at hst
    refine ⟨by omega, by omega, by unfold inI64; omega, by unfold inI64; omega, by omega, by omega, by unfold inI64; omega, ?_⟩
    generalize ((k / 8 % (i + 2) : Nat) : Int) - 1 = z at *
    refine Callx.closed (specSave d.gs x.1 z hB) rfl rfl (.inr ⟨rfl, rfl⟩) ?_
    simp -implicitDefEqProofs (maxSteps := 2000000) only [push_cast, Nat.reduceEqDiff, Nat.reduceLT, Nat.reduceLeDiff, Nat.reduceAdd, Nat.reduceMul, Nat.reduceSub, Nat.reduceBEq, ↓reduceIte, reduceCtorEq]
    refine ⟨by unfold inI64; omega, i + 1, by omega, by omega, Keep.wk (ids := [some 0, some 1, some 2, some 5, some 4]) ?_⟩
    simp only [push_cast, Nat.reduceEqDiff, Nat.reduceLT, Nat.reduceLeDiff, Nat.reduceAdd, Nat.reduceMul, Nat.reduceSub, Nat.reduceBEq, ↓reduceIte, reduceCtorEq, hst] <;> rfl
  · have hn : nearAt k i d.near = d.near := if_neg (by omega)
    rw [hn] at hst
    refine Callx.closed (specSave d.gs x.1 d.near hB) rfl rfl (.inr ⟨rfl, rfl⟩) ?_
    simp -implicitDefEqProofs (maxSteps := 2000000) only [push_cast, Nat.reduceEqDiff, Nat.reduceLT, Nat.reduceLeDiff, Nat.reduceAdd, Nat.reduceMul, Nat.reduceSub, Nat.reduceBEq, ↓reduceIte, reduceCtorEq]
    refine ⟨by unfold inI64; omega, i + 1, by omega, by omega, Keep.wk (ids := [some 0, some 1, some 2, some 5, some 4]) ?_⟩
    simp only [push_cast, Nat.reduceEqDiff, Nat.reduceLT, Nat.reduceLeDiff, Nat.reduceAdd, Nat.reduceMul, Nat.reduceSub, Nat.reduceBEq, ↓reduceIte, reduceCtorEq, hst] <;> rfl
def spoilG (k : Nat) (gs : List Group) (x : Nat) : List Group := match gs[k / 4 % gs.length]? with
  | some g => gs.set (k / 4 % gs.length) (if k % 4 = 0 then ⟨((k / 16 : Nat) : Int) - 3, g.sets⟩ else ⟨g.parent, spoilL x g.sets⟩)
  | none => gs
def moreG (gs : List Group) : Nat → List Group
  | 0 => gs
  | i + 1 => moreG gs i ++ [⟨(((moreG gs i).length : Nat) : Int) - 1, []⟩]
theorem moreG_len {gs : List Group} : ∀ {i : Nat}, (moreG gs i).length = gs.length + i
  | 0 => rfl
  | i + 1 => by show (moreG gs i ++ _).length = _; rw [List.length_append, moreG_len, List.length_singleton]; omega
def topicE : Entry := ⟨[116, 111, 112, 105, 99], [], []⟩
def tailG (k : Nat) (gs : List Group) : List Group := if k % 4 = 2 then moreG gs (4 + k / 16 % 2) else gs ++ [⟨((k / 4 % gs.length : Nat) : Int), [topicE]⟩]
theorem spoilS_at {k n : Nat} (h : 0 < n) : (((k : Int) / 4 % (n : Int)).toNat = k / 4 % n ∧ k / 4 % n < n) ∧ (0 ≤ (k : Int) / 4 % (n : Int) ∧ (k : Int) / 4 % (n : Int) < n) := by
  have h1 : (k : Int) / 4 % (n : Int) = ((k / 4 % n : Nat) : Int) := by rw [show (k : Int) / 4 = ((k / 4 : Nat) : Int) by omega]; exact (Int.natCast_emod _ _).symm
  have := Nat.mod_lt (k / 4) h
  rw [h1]
  refine ⟨⟨by omega, this⟩, by omega, by omega⟩
theorem l4SpoilPar (b : List UInt8) (p : Nat) (gs : List Group) (hB : Bd.B ≤ 2147483648) (hb : b.length ≤ 1000) (hp : p ≤ b.length) (h0 : 0 < gs.length) (hk : nx b p % 4 = 0) (x : Nat) : ConM P0 57 [.rf 0 0, .ag [.sr 1]] [rdO b p, grO gs] (.ag [.sr 1]) [rdO b (np b p), grO (spoilG (nx b p) gs x)] := by
  refine ConM.intro (fn := Try.f57) [.cell 4 25] (fun i => if i = 7 then (13, []) else (0, [])) mixed (by kernel_rfl) rfl (by decide) rfl (by rfl) (by kernel_rfl) ?_
  simp -implicitDefEqProofs (maxSteps := 2000000) only [push_cast, Nat.reduceEqDiff, Nat.reduceLT, Nat.reduceLeDiff, Nat.reduceAdd, Nat.reduceMul, Nat.reduceSub, Nat.reduceBEq, ↓reduceIte, reduceCtorEq]
  have := Bd.lo
  refine Callx.hand [0] (rdNext b p hb hp) (by decide) (by simp only [push_cast, Nat.reduceEqDiff, Nat.reduceLT, Nat.reduceLeDiff, Nat.reduceAdd, Nat.reduceMul, Nat.reduceSub, Nat.reduceBEq, ↓reduceIte, reduceCtorEq]) rfl rfl (by simp only [push_cast, Nat.reduceEqDiff, Nat.reduceLT, Nat.reduceLeDiff, Nat.reduceAdd, Nat.reduceMul, Nat.reduceSub, Nat.reduceBEq, ↓reduceIte, reduceCtorEq] <;> rfl) rfl (.inr ⟨rfl, by simp only [push_cast, Nat.reduceEqDiff, Nat.reduceLT, Nat.reduceLeDiff, Nat.reduceAdd, Nat.reduceMul, Nat.reduceSub, Nat.reduceBEq, ↓reduceIte, reduceCtorEq]⟩) ?_
  simp -implicitDefEqProofs (maxSteps := 2000000) only [push_cast, Nat.reduceEqDiff, Nat.reduceLT, Nat.reduceLeDiff, Nat.reduceAdd, Nat.reduceMul, Nat.reduceSub, Nat.reduceBEq, ↓reduceIte, reduceCtorEq, eGroup]
  have hk' := nx_lt (b := b) (p := p)
  generalize nx b p = k at *
  obtain ⟨⟨e1, e2⟩, e3⟩ := spoilS_at (k := k) h0
  obtain ⟨g, hg⟩ : ∃ g, gs[k / 4 % gs.length]? = some g := ⟨_, List.getElem?_eq_getElem e2⟩
  have h64 : inI64 (k : Int) := by unfold inI64; omega
  rw [e1]
  intro _
  refine ⟨by omega, by omega, h64, by omega, by omega, by omega, by omega, iteI (fun h => ⟨by omega, by omega, h64, by unfold inI64; omega, e3, e2, fun a ha => ?_⟩) (fun h => by omega)⟩
  rw [hg] at ha
  cases ha
  refine Close.of [some 0, some 1] rfl rfl rfl (by simp only [push_cast, Nat.reduceEqDiff, Nat.reduceLT, Nat.reduceLeDiff, Nat.reduceAdd, Nat.reduceMul, Nat.reduceSub, Nat.reduceBEq, ↓reduceIte, reduceCtorEq] <;> rfl) ?_
  have hst : (gs.map eGroup).set (k / 4 % gs.length) (.ag [.i .i64 ((k : Int) / 16 - 3), eEntryS g.sets]) = (spoilG k gs x).map eGroup := by
    unfold spoilG
    rw [hg]
    dsimp only
    rw [if_pos hk, List.map_set]
    congr 1
  simp only [push_cast, Nat.reduceEqDiff, Nat.reduceLT, Nat.reduceLeDiff, Nat.reduceAdd, Nat.reduceMul, Nat.reduceSub, Nat.reduceBEq, ↓reduceIte, reduceCtorEq, hst] <;> rfl
theorem l4SpoilTail (b : List UInt8) (p : Nat) (gs : List Group) (hB : Bd.B ≤ 2147483648) (hb : b.length ≤ 1000) (hp : p ≤ b.length) (h0 : 0 < gs.length) (hl : gs.length ≤ 10) (hk : 2 ≤ nx b p % 4) : ConM P0 57 [.rf 0 0, .ag [.sr 1]] [rdO b p, grO gs] (.ag [.sr 2]) [rdO b (np b p), .dead, grO (tailG (nx b p) gs)] := by
  refine ConM.intro (fn := Try.f57) [.cell 4 25] (fun i => if i = 7 then (13, []) else (0, [])) mixed (by kernel_rfl) rfl (by decide) rfl (by rfl) (by kernel_rfl) ?_
  simp -implicitDefEqProofs (maxSteps := 2000000) only [push_cast, Nat.reduceEqDiff, Nat.reduceLT, Nat.reduceLeDiff, Nat.reduceAdd, Nat.reduceMul, Nat.reduceSub, Nat.reduceBEq, ↓reduceIte, reduceCtorEq]
  have := Bd.lo
  refine Callx.hand [0] (rdNext b p hb hp) (by decide) (by simp only [push_cast, Nat.reduceEqDiff, Nat.reduceLT, Nat.reduceLeDiff, Nat.reduceAdd, Nat.reduceMul, Nat.reduceSub, Nat.reduceBEq, ↓reduceIte, reduceCtorEq]) rfl rfl (by simp only [push_cast, Nat.reduceEqDiff, Nat.reduceLT, Nat.reduceLeDiff, Nat.reduceAdd, Nat.reduceMul, Nat.reduceSub, Nat.reduceBEq, ↓reduceIte, reduceCtorEq] <;> rfl) rfl (.inr ⟨rfl, by simp only [push_cast, Nat.reduceEqDiff, Nat.reduceLT, Nat.reduceLeDiff, Nat.reduceAdd, Nat.reduceMul, Nat.reduceSub, Nat.reduceBEq, ↓reduceIte, reduceCtorEq]⟩) ?_
  simp -implicitDefEqProofs (maxSteps := 2000000) only [push_cast, Nat.reduceEqDiff, Nat.reduceLT, Nat.reduceLeDiff, Nat.reduceAdd, Nat.reduceMul, Nat.reduceSub, Nat.reduceBEq, ↓reduceIte, reduceCtorEq, eGroup]
  have hk' := nx_lt (b := b) (p := p)
  generalize nx b p = k at *
  obtain ⟨⟨e1, e2⟩, e3⟩ := spoilS_at (k := k) h0
  have h64 : inI64 (k : Int) := by unfold inI64; omega
  rw [e1]
  intro _
  refine ⟨by omega, by omega, h64, by omega, by omega, by omega, by omega, iteI (fun h => by omega) (fun h => ⟨by omega, by omega, iteI (fun h => by omega) (fun h => ⟨by omega, by omega, iteI (fun h2 => ?_) (fun h2 => ?_)⟩)⟩)⟩
  · have hT : tailG k gs = moreG gs (4 + k / 16 % 2) := if_pos (by omega)
    rw [hT]
    generalize hm : 4 + k / 16 % 2 = m at *
    have em : 4 + (k : Int) / 16 % 2 = (m : Int) := by omega
    refine WL.loop (ι := Nat) (D := (fun i => if i = 7 then (13, []) else (0, []))) (fun i => i ≤ m) (fun i => ⟨77, [(0, .rf 0 0), (3, .rf 2 0), (4, .rf 3 0), (5, .t (.i .i64 k)), (8, .t (.i .i64 i))], match i with
      | 0 => [rdO b (np b p), grO gs, .box (.ag [.sr 1]), .box (.ag [.ns])]
      | i + 1 => [rdO b (np b p), .dead, .box (.ag [.sr 4]), .box (.ag [.ns]), grO (moreG gs (i + 1))]⟩) (fun i => m - i) mixed (by kernel_rfl) 0 (by omega) (Keep.wk (ids := [some 0, some 1, some 2, some 3]) ?_) ?_
    · simp only [push_cast, Nat.reduceEqDiff, Nat.reduceLT, Nat.reduceLeDiff, Nat.reduceAdd, Nat.reduceMul, Nat.reduceSub, Nat.reduceBEq, ↓reduceIte, reduceCtorEq] <;> first | rfl | exact ⟨rfl, rfl⟩ | trivial
    intro i hi
    have hlm : (moreG gs i).length = gs.length + i := moreG_len
    cases i with
    | zero =>
      simp -implicitDefEqProofs (maxSteps := 2000000) only [push_cast, Nat.reduceEqDiff, Nat.reduceLT, Nat.reduceLeDiff, Nat.reduceAdd, Nat.reduceMul, Nat.reduceSub, Nat.reduceBEq, ↓reduceIte, reduceCtorEq, eGroup]
      refine ⟨by omega, by omega, h64, by omega, by omega, by unfold inI64; omega, iteI (fun h => ?_) (fun h => absurd h (by omega))⟩
      intro _
      refine ⟨by unfold inI64; omega, rfl, by omega, rfl, by omega, rfl, by omega, by omega, by unfold inI64; omega, 1, by omega, by omega, Keep.wk (ids := [some 0, some 1, some 2, some 3, some 6]) ?_⟩
      have hz : gs.map eGroup ++ [T.ag [T.i .i64 ((gs.length : Int) - 1), T.sl []]] = (moreG gs 1).map eGroup := by simp [moreG, eGroup]
      simp only [push_cast, Nat.reduceEqDiff, Nat.reduceLT, Nat.reduceLeDiff, Nat.reduceAdd, Nat.reduceMul, Nat.reduceSub, Nat.reduceBEq, ↓reduceIte, reduceCtorEq, hz] <;> rfl
    | succ i =>
      simp -implicitDefEqProofs (maxSteps := 2000000) only [push_cast, Nat.reduceEqDiff, Nat.reduceLT, Nat.reduceLeDiff, Nat.reduceAdd, Nat.reduceMul, Nat.reduceSub, Nat.reduceBEq, ↓reduceIte, reduceCtorEq, eGroup]
      refine ⟨by omega, by omega, h64, by omega, by omega, by unfold inI64; omega, iteI (fun h => ?_) (fun h => ?_)⟩
      · intro _
        refine ⟨by unfold inI64; omega, rfl, by omega, rfl, by omega, rfl, by omega, by omega, by unfold inI64; omega, i + 2, by omega, by omega, Keep.wk (ids := [some 0, some 1, some 2, some 3, some 7]) ?_⟩
        have hz : (moreG gs (i + 1)).map eGroup ++ [T.ag [T.i .i64 (((moreG gs (i + 1)).length : Int) - 1), T.sl []]] = (moreG gs (i + 2)).map eGroup := by
          show _ = (moreG gs (i + 1) ++ [_]).map eGroup
          rw [List.map_append]
          rfl
        simp only [push_cast, Nat.reduceEqDiff, Nat.reduceLT, Nat.reduceLeDiff, Nat.reduceAdd, Nat.reduceMul, Nat.reduceSub, Nat.reduceBEq, ↓reduceIte, reduceCtorEq, hz] <;> rfl
      · have hi : i + 1 = m := by omega
        rw [hi]
        exact Close.of [some 0, some 1, some 4] rfl rfl rfl (by simp only [push_cast, Nat.reduceEqDiff, Nat.reduceLT, Nat.reduceLeDiff, Nat.reduceAdd, Nat.reduceMul, Nat.reduceSub, Nat.reduceBEq, ↓reduceIte, reduceCtorEq] <;> rfl) (by simp only [push_cast, Nat.reduceEqDiff, Nat.reduceLT, Nat.reduceLeDiff, Nat.reduceAdd, Nat.reduceMul, Nat.reduceSub, Nat.reduceBEq, ↓reduceIte, reduceCtorEq] <;> rfl)
  · have hT : tailG k gs = gs ++ [⟨((k / 4 % gs.length : Nat) : Int), [topicE]⟩] := if_neg (by omega)
    refine ⟨rfl, by omega, rfl, by omega, rfl, by omega, by omega, ?_⟩
    have e4 : (k : Int) / 4 % (gs.length : Int) = ((k / 4 % gs.length : Nat) : Int) := by omega
    have hz : gs.map eGroup ++ [T.ag [T.i .i64 ((k : Int) / 4 % (gs.length : Int)), T.sl [T.ag [T.s [116, 111, 112, 105, 99], T.s [], T.s []]]]] = (tailG k gs).map eGroup := by rw [hT, List.map_append, e4]; rfl
    rw [hz]
    exact Close.of [some 0, some 1, some 6] rfl rfl rfl (by simp only [push_cast, Nat.reduceEqDiff, Nat.reduceLT, Nat.reduceLeDiff, Nat.reduceAdd, Nat.reduceMul, Nat.reduceSub, Nat.reduceBEq, ↓reduceIte, reduceCtorEq] <;> rfl) (by simp only [push_cast, Nat.reduceEqDiff, Nat.reduceLT, Nat.reduceLeDiff, Nat.reduceAdd, Nat.reduceMul, Nat.reduceSub, Nat.reduceBEq, ↓reduceIte, reduceCtorEq] <;> rfl)
end Go.Proofs.Ytmgdkkhnjkepiaa.BX
namespace Go.Proofs.Ytmgdkkhnjkepiaa.BX
set_option linter.unusedSectionVars false
set_option linter.unusedSimpArgs false
set_option linter.unusedVariables false
open Go Go.RowKit
variable [Bd]
inductive OT where
  | done | step (i : Nat) (t m : OT)
def onDone (t : OT) (A B : Prop) : Prop := match t with
  | .done => A
  | _ => B
def runAt (P : Program) (all : Array Oper) (i : Nat) (σ : St) (R : St → Prop) : Prop := match opAt all.toList i with
  | some o => dstOk σ.n o.dst ∧ vcGuard all σ o (fun σ => vcOp P σ o.op fun x ob => R (({ σ with ob := ob } : St).set o.dst x)) (fun σ => R (σ.set o.dst .ud))
  | none => False
def vcAlts (P : Program) (all : Array Oper) (K : St → Prop) : OT → St → Prop
  | .done, _ => True
  | .step i t m, σ => runAt P all i σ (fun σ' => onDone t (K σ') (vcAlts P all K t σ')) ∧ vcAlts P all K m σ
section
variable {P : Program} {Q : Exit → Act → World → Prop} {w0 : Base} {σ : St} {hv : Hv} {S : Nat → Prop} {F : Nat → List Nat} {a : Act} {w : World}
theorem run_step {ops : Array Oper} {i : Nat} {R : St → Prop} (hr : Rel w0 σ hv S F a w) (h : runAt P ops i σ R) {next : Act → World → Prop}
    (hn : ∀ σ' (hv' : Hv) S' F' a' w', R σ' → Rel w0 σ' hv' S' F' a' w' → next a' w') : wpOp P ops Q i next a w := by
  unfold runAt at h
  rw [opAt_eq, Array.getElem?_toList] at h
  split at h
  case h_2 => cases h
  rename_i o ho
  obtain ⟨hd, h⟩ := h
  have hdk : ∀ σ', Eqv σ σ' → ∀ k, o.dst = some k → k < σ'.n := fun σ' he k hk => by rw [hk] at hd; rw [he.n]; exact hd
  unfold wpOp
  rw [ho]
  simp only
  rcases vcGuard_sound (Eqv.refl σ) h with ⟨hg, σ', he, h⟩ | ⟨hg, σ', he, h⟩
  · have hr1 := hr.tm_ext he
    rw [if_pos (wanted_of hr hg)]
    refine .inl ?_
    have := vcOp_sound (Q := Q) (next := fun v w' => next (a.put o.dst v) w') hr1 h (fun v w' x ob' hv' S' F' L hK hr' f1 f2 hu => hn _ _ _ _ _ _ hK (hr'.put (d := o.dst) f1 f2 hu (hdk σ' he)))
    unfold Does at this
    exact Oper.wp_mono (fun a' w' ⟨v, ha, hv⟩ => ha ▸ hv) this
  · have hr1 := hr.tm_ext he
    rw [if_neg (by rw [wanted_of hr hg]; simp)]
    exact hn _ _ _ _ _ _ h (hr1.put (d := o.dst) (x := .ud) (v := undef) (L := []) (by simp [footA]) (by simp) rfl (hdk σ' he))
end
section
variable {P : Program} {all : Array Oper} {K : St → Prop} {σ : St}
def runO (P : Program) (all : Array Oper) (σ : St) (o : Option Oper) (R : St → Prop) : Prop := match o with
  | some o => dstOk σ.n o.dst ∧ vcGuard all σ o (fun σ => vcOp P σ o.op fun x ob => R (({ σ with ob := ob } : St).set o.dst x)) (fun σ => R (σ.set o.dst .ud))
  | none => False
@[congr] theorem runO_congr {o o' : Option Oper} {σ' : St} {R : St → Prop} (h : tick σ = σ') (h2 : o = o') : runO P all σ o R = runO P all σ' o' R := by unfold tick at h; rw [h, h2]
theorem ot_op {dst : Option Nat} {op : Op} {ty : TypeId} {pos : String} {after : Array Edge} {R : St → Prop} : runO P all σ (some ⟨dst, op, ty, pos, after, none⟩) R = (dstOk σ.n dst ∧ vcOp P σ op fun x ob => R (({ σ with ob := ob } : St).set dst x)) := rfl
theorem ot_run {i : Nat} {l : List Oper} {R : St → Prop} : runAt P ⟨l⟩ i σ R = runO P ⟨l⟩ σ (opAt l i) R := by
  unfold runAt runO; rfl
@[congr] theorem vcAlts_congr {t : OT} {σ' : St} (h : tick σ = σ') : vcAlts P all K t σ = vcAlts P all K t σ' := by unfold tick at h; rw [h]
@[congr] theorem onDone_congr {t t' : OT} {A B : Prop} (h : tick t = t') : onDone t A B = onDone t' A B := by unfold tick at h; rw [h]
end
attribute [push_cast] ot_op ot_run
abbrev DN := List Bool × List (Nat × List Bool × Bool)
def okDn (ops : Array Oper) (ns : List (List Bool)) (d : DN) : Bool :=
  decide (Region.ready .any ops d.1.toArray = d.2.map (·.1)) && (!d.2.isEmpty) && d.2.all fun x => decide (x.2.1 = d.1.set x.1 true) && (if x.2.2 = true then decide (Region.ready .any ops x.2.1.toArray = []) && x.2.1.all id else ns.contains x.2.1)
def okDag (ops : Array Oper) (ds : List DN) : Bool :=
  (ds.map (·.1)).contains (List.replicate ops.size false) && ds.all (okDn ops (ds.map (·.1)))
def vcDh (P : Program) (all : Array Oper) (N : Nat) (K : St → Prop) (G : List Bool → St) (σ : St) : List (Nat × List Bool × Bool) → Prop
  | [] => True
  | (i, l, fin) :: r => runAt P all i σ (fun σ' => if fin = true then K σ' else Wk N σ' (G l)) ∧ vcDh P all N K G σ r
def vcDag (P : Program) (all : Array Oper) (N : Nat) (K : St → Prop) (G : List Bool → St) : List DN → Prop
  | [] => True
  | (l, r) :: ds => vcDh P all N K G (G l) r ∧ vcDag P all N K G ds
section
variable {P : Program} {Q : Exit → Act → World → Prop} {w0 : Base}
theorem vcDag_mem {all : Array Oper} {N : Nat} {K : St → Prop} {G : List Bool → St} : ∀ {ds : List DN}, vcDag P all N K G ds → ∀ d ∈ ds, vcDh P all N K G (G d.1) d.2
  | [], _, _, h => by cases h
  | (l, r) :: ds, h, d, hd => by
    rcases List.mem_cons.1 hd with rfl | hd
    · exact h.1
    · exact vcDag_mem h.2 d hd
theorem vcDh_mem {all : Array Oper} {N : Nat} {K : St → Prop} {G : List Bool → St} {σ : St} : ∀ {r : List (Nat × List Bool × Bool)}, vcDh P all N K G σ r → ∀ x ∈ r, runAt P all x.1 σ (fun σ' => if x.2.2 = true then K σ' else Wk N σ' (G x.2.1))
  | [], _, _, h => by cases h
  | (i, l, fin) :: r, h, x, hx => by
    rcases List.mem_cons.1 hx with rfl | hx
    · exact h.1
    · exact vcDh_mem h.2 x hx
theorem dag_sound {ops : Array Oper} {N : Nat} {K : St → Prop} {G : List Bool → St} {ds : List DN} (hN : w0.na ≤ N) (hk : ds.all (okDn ops (ds.map (·.1))) = true) (h : vcDag P ops N K G ds)
    (hQ : ∀ σ' (hv' : Hv) S' F' a' w', K σ' → Rel w0 σ' hv' S' F' a' w' → Q .normal a' w') : ∀ (fuel : Nat) {d : DN} {hv : Hv} {S : Nat → Prop} {F : Nat → List Nat} {a : Act} {w : World},
    d ∈ ds → d.1.count false ≤ fuel → Rel w0 (G d.1) hv S F a w → wpAny P .any ops Q fuel d.1.toArray a w
  | fuel, d, hv, S, F, a, w, hd, hc, hr => by
    have hok := List.all_eq_true.1 hk d hd
    simp only [okDn, Bool.and_eq_true, decide_eq_true_eq, Bool.not_eq_true', List.isEmpty_eq_false_iff] at hok
    obtain ⟨⟨o1, o2⟩, o3⟩ := hok
    have hne : Region.ready .any ops d.1.toArray ≠ [] := by rw [o1]; simpa using o2
    have hfu : ∀ i ∈ Region.ready .any ops d.1.toArray, (d.1.set i true).count false + 1 ≤ fuel := fun i hi => by
      obtain ⟨h0, _⟩ := mem_ready.1 hi
      obtain ⟨h1, h2⟩ := getD_false_true h0
      have h2' : i < d.1.length := by simpa using h2
      rw [List.count_set h2']
      have : d.1[i] = false := by simpa [h2'] using h1
      have hpos : 0 < d.1.count false := List.count_pos_iff.2 (by rw [← this]; simp)
      simp [this]
      omega
    cases fuel with
    | zero =>
      cases hre : Region.ready .any ops d.1.toArray with
      | nil => exact absurd hre hne
      | cons i is => have := hfu i (by rw [hre]; exact List.mem_cons_self ..); omega
    | succ fuel =>
      refine ⟨fun hre => absurd hre hne, fun i hi => ?_⟩
      have hcount := hfu i hi
      rw [o1] at hi
      obtain ⟨x, hx, rfl⟩ := List.mem_map.1 hi
      have h3 := List.all_eq_true.1 o3 x hx
      simp only [Bool.and_eq_true, decide_eq_true_eq] at h3
      obtain ⟨h4, h5⟩ := h3
      have hrun := vcDh_mem (vcDag_mem h d hd) x hx
      have hset : d.1.toArray.setIfInBounds x.1 true = x.2.1.toArray := by rw [List.setIfInBounds_toArray, h4]
      refine run_step hr hrun fun σ' hv' S' F' a' w' hK hr' => ?_
      rw [hset]
      by_cases hf : x.2.2 = true
      · rw [if_pos hf] at hK h5
        simp only [Bool.and_eq_true, decide_eq_true_eq] at h5
        cases fuel with
        | zero => exact ⟨h5.1, hQ _ _ _ _ _ _ hK hr'⟩
        | succ fuel => exact ⟨fun _ => hQ _ _ _ _ _ _ hK hr', fun i hi => by rw [h5.1] at hi; cases hi⟩
      · rw [if_neg hf] at hK h5
        obtain ⟨hv2, S2, F2, hr2⟩ := hK w0 hv' S' F' a' w' hN hr'
        obtain ⟨d2, hd2, he⟩ := List.mem_map.1 (List.contains_iff_mem.1 h5)
        rw [← he] at hr2 ⊢
        exact dag_sound hN hk h hQ fuel hd2 (by rw [he, h4]; omega) hr2
end
theorem WL.dag {P : Program} {N : Nat} {K : Kont} {σ : St} {id : Nat} {ops : Array Oper} (G : List Bool → St) (ds : List DN) (hm : P.follows .mixedOrders = true) (hk : okDag ops ds = true) (h0 : Wk N σ (G (List.replicate ops.size false))) (h : vcDag P ops N (K .nrm) G ds) : WL P N (.region id ops true) K σ := fun w0 hv S F a w hN hr => by
  simp only [okDag, Bool.and_eq_true] at hk
  refine wp_region_any hm ?_
  obtain ⟨hv2, S2, F2, hr2⟩ := h0 w0 hv S F a w hN hr
  obtain ⟨d, hd, he⟩ := List.mem_map.1 (List.contains_iff_mem.1 hk.1)
  have := dag_sound (Q := Post w0 K) hN hk.2 h (fun σ' hv' S' F' a' w' hk hr' => ⟨σ', hv', S', F', hk, hr'⟩) ops.size (d := d) hd (by rw [he]; simp) ((he ▸ hr2).grow (Grew.drew w))
  rw [he] at this
  simpa using this
section
variable {P : Program} {all : Array Oper} {N : Nat} {K : St → Prop} {G : List Bool → St} {σ : St}
theorem dg_nil : vcDag P all N K G [] = True := rfl
theorem dg_cons {l : List Bool} {r : List (Nat × List Bool × Bool)} {ds : List DN} : vcDag P all N K G ((l, r) :: ds) = (vcDh P all N K G (G l) r ∧ vcDag P all N K G ds) := rfl
theorem dh_nil : vcDh P all N K G σ [] = True := rfl
theorem dh_end {i : Nat} {l : List Bool} {r : List (Nat × List Bool × Bool)} : vcDh P all N K G σ ((i, l, true) :: r) = (runAt P all i σ K ∧ vcDh P all N K G σ r) := rfl
theorem dh_go {i : Nat} {l : List Bool} {r : List (Nat × List Bool × Bool)} : vcDh P all N K G σ ((i, l, false) :: r) = (runAt P all i σ (fun σ' => Wk N σ' (G l)) ∧ vcDh P all N K G σ r) := rfl
end
def pickB {α : Type} : List Bool → List α → List α
  | true :: l, v :: vs => v :: pickB l vs
  | false :: l, _ :: vs => pickB l vs
  | _, _ => []
theorem pickB_t {α : Type} {l : List Bool} {v : α} {vs : List α} : pickB (true :: l) (v :: vs) = v :: pickB l vs := rfl
theorem pickB_f {α : Type} {l : List Bool} {v : α} {vs : List α} : pickB (false :: l) (v :: vs) = pickB l vs := rfl
theorem pickB_n {α : Type} {l : List Bool} : pickB l ([] : List α) = [] := by cases l with | nil => rfl | cons b l => cases b <;> rfl
def selB {α : Type} : List Bool → List (Option α) → α → α
  | true :: l, some v :: vs, _ => selB l vs v
  | _ :: l, _ :: vs, d => selB l vs d
  | _, _, d => d
theorem selB_s {α : Type} {l : List Bool} {v d : α} {vs : List (Option α)} : selB (true :: l) (some v :: vs) d = selB l vs v := rfl
theorem selB_n {α : Type} {b : Bool} {l : List Bool} {d : α} {vs : List (Option α)} : selB (b :: l) (none :: vs) d = selB l vs d := by cases b <;> rfl
theorem selB_f {α : Type} {l : List Bool} {v d : α} {vs : List (Option α)} : selB (false :: l) (some v :: vs) d = selB l vs d := rfl
theorem selB_e {α : Type} {l : List Bool} {d : α} : selB l [] d = d := by cases l with | nil => rfl | cons b l => cases b <;> rfl
attribute [push_cast] dg_nil dg_cons dh_nil dh_end dh_go pickB_t pickB_f pickB_n selB_s selB_n selB_f selB_e
end Go.Proofs.Ytmgdkkhnjkepiaa.BX
