/-
  'Expand', the document's and the program's.
-/
import Derived.Test.YthhgcklidfilfaaPt
namespace Go.Proofs.Ythhgcklidfilfaa.BX
set_option linter.unusedSectionVars false
set_option linter.unusedSimpArgs false
set_option linter.unusedVariables false
open Go Go.RowKit
set_option maxRecDepth 20000
set_option maxHeartbeats 400000

theorem storeUps {gs : List Group} (h : storeOk gs = true) : gs.length ≤ 1000 ∧ Ups gs gs.length := by
  simp only [storeOk, Bool.and_eq_true, decide_eq_true_eq] at h
  exact h
noncomputable def exOk (gs : List Group) (c : Int) : Bool := storeOk gs && decide (0 ≤ c ∧ c < gs.length)
noncomputable def exRes (gs : List Group) (c : Int) : List Entry := if exOk gs c = true then expandOf gs c.toNat else []
/-- groups marked all over -/
def totG : List Group → Nat
  | [] => 0
  | g :: r => 1 + 3 * g.sets.length + totG r
theorem totG_append : ∀ (a b : List Group), totG (a ++ b) = totG a + totG b
  | [], b => by simp [totG]
  | x :: a, b => by simp only [List.cons_append, totG, totG_append a b]; omega
def mkGs : List Group → Int → List Group
  | [], _ => []
  | g :: r, k => ⟨k, mkEs g.sets.length (k + 1)⟩ :: mkGs r (k + 1 + 3 * g.sets.length)
theorem mkGs_len : ∀ {xs : List Group} {k : Int}, (mkGs xs k).length = xs.length
  | [], _ => rfl
  | _ :: r, _ => by simp [mkGs, mkGs_len (xs := r)]
theorem mkGs_snoc : ∀ {xs : List Group} {k : Int} {x : Group}, mkGs (xs ++ [x]) k = mkGs xs k ++ [⟨k + totG xs, mkEs x.sets.length (k + totG xs + 1)⟩]
  | [], k, x => by simp [mkGs, totG]
  | y :: r, k, x => by
    simp only [List.cons_append, mkGs, mkGs_snoc (xs := r), totG]
    rw [show k + 1 + 3 * (y.sets.length : Int) + (totG r : Int) = k + ((1 + 3 * y.sets.length + totG r : Nat) : Int) by push_cast; omega]
def mkGTo (xs : List Group) (k : Int) (i : Nat) : List Group := mkGs (xs.take i) k ++ xs.drop i
theorem mkGTo_len {xs : List Group} {k : Int} {i : Nat} (h : i ≤ xs.length) : (mkGTo xs k i).length = xs.length := by simp [mkGTo, mkGs_len]; omega
theorem mkGTo_get {xs : List Group} {k : Int} {i : Nat} {x : Group} (h : xs[i]? = some x) : (mkGTo xs k i)[i]? = some x := by
  have hl := (List.getElem?_eq_some_iff.1 h).1
  unfold mkGTo
  rw [List.getElem?_append_right (by rw [mkGs_len, List.length_take]; omega), mkGs_len, List.length_take, List.getElem?_drop]
  rw [show i + (i - min i xs.length) = i by omega]
  exact h
theorem mkGTo_set {xs : List Group} {k : Int} {i : Nat} {x : Group} (h : xs[i]? = some x) : (mkGTo xs k i).set i ⟨k + totG (xs.take i), mkEs x.sets.length (k + totG (xs.take i) + 1)⟩ = mkGTo xs k (i + 1) := by
  have hl := (List.getElem?_eq_some_iff.1 h).1
  unfold mkGTo
  have hm : (mkGs (xs.take i) k).length = i := by rw [mkGs_len, List.length_take]; omega
  rw [List.set_append_right _ _ (by omega), hm, Nat.sub_self, List.take_add_one, h, Option.toList_some, mkGs_snoc]
  have hx : xs[i] = x := (List.getElem?_eq_some_iff.1 h).2
  have : xs.drop i = x :: xs.drop (i + 1) := by rw [List.drop_eq_getElem_cons hl, hx]
  rw [this, List.set_cons_zero]
  simp
theorem totG_take {xs : List Group} {i : Nat} {x : Group} (h : xs[i]? = some x) : totG (xs.take (i + 1)) = totG (xs.take i) + (1 + 3 * x.sets.length) := by
  rw [List.take_add_one, h, totG_append]; simp [totG]
theorem totG_le {xs : List Group} {i : Nat} : totG (xs.take i) ≤ totG xs := by
  conv => rhs; rw [← List.take_append_drop i xs, totG_append]
  omega

theorem wt_groups : ∀ (gs : List Group), totG gs ≤ gs.length + 3 * wts (gs.map eGroup)
  | [] => by simp [totG]
  | g :: r => by
    have := wt_groups r
    simp only [totG, List.map_cons, wts, List.length_cons, eGroup, T.wt, List.length_map] at *
    omega
theorem wt_store (st : Store) : totG st.groups ≤ 3 * (eStore st).wt := by
  have := wt_groups st.groups
  simp only [eStore, T.wt, wts, List.length_map]
  omega

variable [Bd]

theorem specExpand (gs : List Group) (c : Int) (hB : Bd.B ≤ 2147483648) : Con P0 23 [eStore ⟨gs⟩, .i .i64 c] (.tp [.sr 0, .t (.b (exOk gs c))]) [enO (exRes gs c)] := by
  refine Con.intro (fn := Try.f23) [.tmp 4, .tmp 5] (fun _ => (0, [])) mixed (by kernel_rfl) rfl (by decide) rfl (by rfl) (by kernel_rfl) ?_
  simp -implicitDefEqProofs (maxSteps := 2000000) only [push_cast, Nat.reduceEqDiff, Nat.reduceLT, Nat.reduceLeDiff, Nat.reduceAdd, Nat.reduceMul, Nat.reduceSub, Nat.reduceBEq, ↓reduceIte, reduceCtorEq, eStore]
  have := Bd.lo
  refine Callx.closed (specStoreOk gs hB) rfl rfl (.inl rfl) ?_
  simp -implicitDefEqProofs (maxSteps := 2000000) only [push_cast, Nat.reduceEqDiff, Nat.reduceLT, Nat.reduceLeDiff, Nat.reduceAdd, Nat.reduceMul, Nat.reduceSub, Nat.reduceBEq, ↓reduceIte, reduceCtorEq]
  have bad : exOk gs c = false → exRes gs c = [] := fun h => by simp [exRes, h]
  cases hok : storeOk gs with
  | false =>
    have hp : exOk gs c = false := by simp [exOk, hok]
    rw [hp, bad hp]
    simp only [Bool.not_false, if_true]
    exact ⟨rfl, by omega, Close.of [some 1] rfl rfl rfl (by simp only [push_cast, Nat.reduceEqDiff, Nat.reduceLT, Nat.reduceLeDiff, Nat.reduceAdd, Nat.reduceMul, Nat.reduceSub, Nat.reduceBEq, ↓reduceIte, reduceCtorEq] <;> rfl) (by simp only [push_cast, Nat.reduceEqDiff, Nat.reduceLT, Nat.reduceLeDiff, Nat.reduceAdd, Nat.reduceMul, Nat.reduceSub, Nat.reduceBEq, ↓reduceIte, reduceCtorEq, List.map_nil] <;> rfl)⟩
  | true =>
  obtain ⟨hlen, hu⟩ := storeUps hok
  simp only [Bool.not_true, Bool.false_eq_true, if_false]
  split
  · rename_i h1
    have hp : exOk gs c = false := by unfold exOk; rw [decide_eq_false (by omega), Bool.and_false]
    rw [hp, bad hp]
    exact ⟨rfl, by omega, Close.of [some 1] rfl rfl rfl (by simp only [push_cast, Nat.reduceEqDiff, Nat.reduceLT, Nat.reduceLeDiff, Nat.reduceAdd, Nat.reduceMul, Nat.reduceSub, Nat.reduceBEq, ↓reduceIte, reduceCtorEq] <;> rfl) (by simp only [push_cast, Nat.reduceEqDiff, Nat.reduceLT, Nat.reduceLeDiff, Nat.reduceAdd, Nat.reduceMul, Nat.reduceSub, Nat.reduceBEq, ↓reduceIte, reduceCtorEq, List.map_nil] <;> rfl)⟩
  rename_i h1
  intro _
  split
  · rename_i h2
    have hp : exOk gs c = false := by unfold exOk; rw [decide_eq_false (by omega), Bool.and_false]
    rw [hp, bad hp]
    exact ⟨rfl, by omega, Close.of [some 1] rfl rfl rfl (by simp only [push_cast, Nat.reduceEqDiff, Nat.reduceLT, Nat.reduceLeDiff, Nat.reduceAdd, Nat.reduceMul, Nat.reduceSub, Nat.reduceBEq, ↓reduceIte, reduceCtorEq] <;> rfl) (by simp only [push_cast, Nat.reduceEqDiff, Nat.reduceLT, Nat.reduceLeDiff, Nat.reduceAdd, Nat.reduceMul, Nat.reduceSub, Nat.reduceBEq, ↓reduceIte, reduceCtorEq, List.map_nil] <;> rfl)⟩
  rename_i h2
  have hp : exOk gs c = true := by unfold exOk; rw [hok, decide_eq_true (by omega)]; rfl
  have hr : exRes gs c = expandOf gs c.toNat := by simp [exRes, hp]
  rw [hp, hr]
  have h := l4Expand gs hB c.toNat (by omega) (fun j hj g hg => ⟨(hu j (by omega) g hg).hi, (hu j (by omega) g hg).ord, (hu j (by omega) g hg).len⟩) (fun j hj => by
    obtain ⟨g, hg⟩ : ∃ g, gs[j]? = some g := ⟨_, List.getElem?_eq_getElem (by omega)⟩
    exact (hu j (by omega) g hg).full) (by omega)
  rw [Int.toNat_of_nonneg (by omega)] at h
  refine Callx.closed h rfl rfl (.inl rfl) ?_
  simp -implicitDefEqProofs (maxSteps := 2000000) only [push_cast, Nat.reduceEqDiff, Nat.reduceLT, Nat.reduceLeDiff, Nat.reduceAdd, Nat.reduceMul, Nat.reduceSub, Nat.reduceBEq, ↓reduceIte, reduceCtorEq]
  exact Close.of [some 1] rfl rfl rfl (by simp only [push_cast, Nat.reduceEqDiff, Nat.reduceLT, Nat.reduceLeDiff, Nat.reduceAdd, Nat.reduceMul, Nat.reduceSub, Nat.reduceBEq, ↓reduceIte, reduceCtorEq] <;> rfl) (by simp only [push_cast, Nat.reduceEqDiff, Nat.reduceLT, Nat.reduceLeDiff, Nat.reduceAdd, Nat.reduceMul, Nat.reduceSub, Nat.reduceBEq, ↓reduceIte, reduceCtorEq, List.map_nil] <;> rfl)

theorem implExpand (gs : List Group) (c : Int) (hB : Bd.B ≤ 2147483648) : Con P0 21 [eStore ⟨gs⟩, .i .i64 c] (.tp [.sr 0, .t (.b (exOk gs c))]) [enO (exRes gs c)] := by
  refine Con.intro (fn := Try.f21) [.tmp 4, .tmp 5] (fun _ => (0, [])) mixed (by kernel_rfl) rfl (by decide) rfl (by rfl) (by kernel_rfl) ?_
  simp -implicitDefEqProofs (maxSteps := 2000000) only [push_cast, Nat.reduceEqDiff, Nat.reduceLT, Nat.reduceLeDiff, Nat.reduceAdd, Nat.reduceMul, Nat.reduceSub, Nat.reduceBEq, ↓reduceIte, reduceCtorEq, eStore]
  have := Bd.lo
  refine Callx.closed (nodesOf gs hB) rfl rfl (.inl rfl) ?_
  simp -implicitDefEqProofs (maxSteps := 2000000) only [push_cast, Nat.reduceEqDiff, Nat.reduceLT, Nat.reduceLeDiff, Nat.reduceAdd, Nat.reduceMul, Nat.reduceSub, Nat.reduceBEq, ↓reduceIte, reduceCtorEq]
  have bad : exOk gs c = false → exRes gs c = [] := fun h => by simp [exRes, h]
  cases hok : storeOk gs with
  | false =>
    have hp : exOk gs c = false := by simp [exOk, hok]
    rw [hp, bad hp]
    simp only [Bool.not_false, if_true]
    exact Close.of [none] rfl rfl rfl (by simp only [push_cast, Nat.reduceEqDiff, Nat.reduceLT, Nat.reduceLeDiff, Nat.reduceAdd, Nat.reduceMul, Nat.reduceSub, Nat.reduceBEq, ↓reduceIte, reduceCtorEq] <;> rfl) (by simp only [push_cast, Nat.reduceEqDiff, Nat.reduceLT, Nat.reduceLeDiff, Nat.reduceAdd, Nat.reduceMul, Nat.reduceSub, Nat.reduceBEq, ↓reduceIte, reduceCtorEq, List.map_nil] <;> rfl)
  | true =>
  obtain ⟨hlen, hu⟩ := storeUps hok
  simp only [Bool.not_true, Bool.false_eq_true, if_false, if_true]
  have hnl : (nodesT gs gs.length).length = gs.length := by simp [nodesT]
  split
  · rename_i h1
    have hp : exOk gs c = false := by unfold exOk; rw [decide_eq_false (by omega), Bool.and_false]
    rw [hp, bad hp]
    exact Close.of [none] rfl rfl rfl (by simp only [push_cast, Nat.reduceEqDiff, Nat.reduceLT, Nat.reduceLeDiff, Nat.reduceAdd, Nat.reduceMul, Nat.reduceSub, Nat.reduceBEq, ↓reduceIte, reduceCtorEq] <;> rfl) (by simp only [push_cast, Nat.reduceEqDiff, Nat.reduceLT, Nat.reduceLeDiff, Nat.reduceAdd, Nat.reduceMul, Nat.reduceSub, Nat.reduceBEq, ↓reduceIte, reduceCtorEq, List.map_nil] <;> rfl)
  rename_i h1
  intro _
  split
  · rename_i h2
    have hp : exOk gs c = false := by unfold exOk; rw [decide_eq_false (by omega), Bool.and_false]
    rw [hp, bad hp]
    exact Close.of [none] rfl rfl rfl (by simp only [push_cast, Nat.reduceEqDiff, Nat.reduceLT, Nat.reduceLeDiff, Nat.reduceAdd, Nat.reduceMul, Nat.reduceSub, Nat.reduceBEq, ↓reduceIte, reduceCtorEq] <;> rfl) (by simp only [push_cast, Nat.reduceEqDiff, Nat.reduceLT, Nat.reduceLeDiff, Nat.reduceAdd, Nat.reduceMul, Nat.reduceSub, Nat.reduceBEq, ↓reduceIte, reduceCtorEq, List.map_nil] <;> rfl)
  rename_i h2
  have hp : exOk gs c = true := by unfold exOk; rw [hok, decide_eq_true (by omega)]; rfl
  have hr : exRes gs c = expandOf gs c.toNat := by simp [exRes, hp]
  rw [hp, hr]
  refine ⟨by omega, fun y hy => ?_⟩
  obtain ⟨g, hg⟩ : ∃ g, gs[c.toNat]? = some g := ⟨_, List.getElem?_eq_getElem (by omega)⟩
  have hk := hu c.toNat (by omega) g hg
  have hy' : y = nodeOf gs c.toNat := by
    have hy2 : (nodesT gs gs.length)[c.toNat]? = some y := hy
    unfold nodesT at hy2
    rw [List.getElem?_map, List.getElem?_range (by omega)] at hy2
    simpa using hy2.symm
  rw [nodeOf_eq hg] at hy'
  generalize (if 0 ≤ g.parent ∧ g.parent.toNat < c.toNat then nodeOf gs g.parent.toNat else T.np) = up at hy'
  subst hy'
  have his := fullM_is c.toNat (fun j hj => hu j (by omega)) g hg hk.hi hk.ord fun hn => hk.base (by have := hk.lo; omega)
  have hfl := hk.full
  rw [← his.len] at hfl
  simp -implicitDefEqProofs (maxSteps := 2000000) only [push_cast, Nat.reduceEqDiff, Nat.reduceLT, Nat.reduceLeDiff, Nat.reduceAdd, Nat.reduceMul, Nat.reduceSub, Nat.reduceBEq, ↓reduceIte, reduceCtorEq]
  refine Callx.closed (liveList (fullM gs c.toNat) (expandOf gs c.toNat) hB (by omega) his) rfl rfl (.inl rfl) ?_
  simp -implicitDefEqProofs (maxSteps := 2000000) only [push_cast, Nat.reduceEqDiff, Nat.reduceLT, Nat.reduceLeDiff, Nat.reduceAdd, Nat.reduceMul, Nat.reduceSub, Nat.reduceBEq, ↓reduceIte, reduceCtorEq]
  exact Close.of [some 1] rfl rfl rfl (by simp only [push_cast, Nat.reduceEqDiff, Nat.reduceLT, Nat.reduceLeDiff, Nat.reduceAdd, Nat.reduceMul, Nat.reduceSub, Nat.reduceBEq, ↓reduceIte, reduceCtorEq] <;> rfl) (by simp only [push_cast, Nat.reduceEqDiff, Nat.reduceLT, Nat.reduceLeDiff, Nat.reduceAdd, Nat.reduceMul, Nat.reduceSub, Nat.reduceBEq, ↓reduceIte, reduceCtorEq, List.map_nil] <;> rfl)

theorem markGroupS (xs : List Group) (k : Int) (h0 : 0 ≤ k) (hk : k + totG xs ≤ 4611686018427387) : ConM P0 94 [.sr 0, .t (.i .i64 k)] [.arr 123 2 (.own (.ag [.leaf, .sl 32 3 (.ag [.leaf, .leaf, .leaf])])) (xs.map eGroup)] (.t (.i .i64 (k + totG xs))) [.arr 123 2 (.own (.ag [.leaf, .sl 32 3 (.ag [.leaf, .leaf, .leaf])])) ((mkGs xs k).map eGroup)] := by
  refine ConM.intro (fn := Try.f94) [.tmp 4] (fun _ => (0, [])) mixed (by kernel_rfl) rfl (by decide) rfl (by rfl) (by kernel_rfl) ?_
  simp -implicitDefEqProofs (maxSteps := 2000000) only [push_cast, Nat.reduceEqDiff, Nat.reduceLT, Nat.reduceLeDiff, Nat.reduceAdd, Nat.reduceMul, Nat.reduceSub, Nat.reduceBEq, ↓reduceIte, reduceCtorEq]
  refine WL.loop (ι := Nat) (D := (fun _ => (0, []))) (fun i => i ≤ xs.length) (fun i => ⟨27, [(0, .sr 0), (1, .t (.i .i64 (k + totG (xs.take i)))), (5, .t (.i .i64 i))], [.arr 123 2 (.own (.ag [.leaf, .sl 32 3 (.ag [.leaf, .leaf, .leaf])])) ((mkGTo xs k i).map eGroup)]⟩) (fun i => xs.length - i) mixed (by kernel_rfl) 0 (by omega) (Keep.wk (ids := [some 0]) ?_) ?_
  · simp only [push_cast, Nat.reduceEqDiff, Nat.reduceLT, Nat.reduceLeDiff, Nat.reduceAdd, Nat.reduceMul, Nat.reduceSub, Nat.reduceBEq, ↓reduceIte, reduceCtorEq, mkGTo, mkGs, List.take_zero, List.drop_zero, totG, Int.add_zero, Int.cast_ofNat_Int] <;> trivial
  · intro i hi
    simp -implicitDefEqProofs (maxSteps := 2000000) only [push_cast, Nat.reduceEqDiff, Nat.reduceLT, Nat.reduceLeDiff, Nat.reduceAdd, Nat.reduceMul, Nat.reduceSub, Nat.reduceBEq, ↓reduceIte, reduceCtorEq, eGroup]
    intro hB
    have := Bd.hi
    rw [mkGTo_len hi] at hB
    rw [mkGTo_len hi]
    split
    · rename_i h
      obtain ⟨x, hx⟩ : ∃ x, xs[i]? = some x := ⟨xs[i], List.getElem?_eq_getElem (by omega)⟩
      have ht := totG_take hx
      have hl := totG_le (xs := xs) (i := i + 1)
      refine ⟨by omega, by omega, fun a ha => ?_⟩
      rw [Int.toNat_natCast] at ha ⊢
      rw [mkGTo_get hx] at ha
      cases ha
      refine ⟨by unfold inI64; omega, by omega, .inr ⟨by omega, fun _ => ?_⟩⟩
      refine Callx.hand [1] (markEntryS x.sets (k + totG (xs.take i) + 1) (by omega) (by omega)) (by decide) (by simp only [push_cast, Nat.reduceEqDiff, Nat.reduceLT, Nat.reduceLeDiff, Nat.reduceAdd, Nat.reduceMul, Nat.reduceSub, Nat.reduceBEq, ↓reduceIte, reduceCtorEq]) rfl rfl (by simp only [push_cast, Nat.reduceEqDiff, Nat.reduceLT, Nat.reduceLeDiff, Nat.reduceAdd, Nat.reduceMul, Nat.reduceSub, Nat.reduceBEq, ↓reduceIte, reduceCtorEq] <;> rfl) rfl (.inr ⟨rfl, by simp only [push_cast, Nat.reduceEqDiff, Nat.reduceLT, Nat.reduceLeDiff, Nat.reduceAdd, Nat.reduceMul, Nat.reduceSub, Nat.reduceBEq, ↓reduceIte, reduceCtorEq]⟩) ?_
      simp -implicitDefEqProofs (maxSteps := 2000000) only [push_cast, Nat.reduceEqDiff, Nat.reduceLT, Nat.reduceLeDiff, Nat.reduceAdd, Nat.reduceMul, Nat.reduceSub, Nat.reduceBEq, ↓reduceIte, reduceCtorEq]
      have hg : (((mkGTo xs k i).map eGroup).set i (T.ag [T.i .i64 (k + totG (xs.take i)), eEntryS x.sets]))[i]? = some (T.ag [T.i .i64 (k + totG (xs.take i)), eEntryS x.sets]) := List.getElem?_set_self (by rw [List.length_map, mkGTo_len hi]; omega)
      refine ⟨by unfold inI64; omega, i + 1, by omega, by omega, Wk.trans (Wk.close (id := 0) (n := 1) rfl rfl rfl hg) (Keep.wk (ids := [some 0]) ?_)⟩
      have hs : (((mkGTo xs k i).map eGroup).set i (T.ag [T.i .i64 (k + totG (xs.take i)), eEntryS x.sets])).set i ((T.ag [T.i .i64 (k + totG (xs.take i)), eEntryS x.sets]).setCell 1 (.sl ((mkEs x.sets.length (k + totG (xs.take i) + 1)).map eEntry))) = (mkGTo xs k (i + 1)).map eGroup := by
        rw [← mkGTo_set hx, List.map_set, List.set_set]; rfl
      simp only [push_cast, Nat.reduceEqDiff, Nat.reduceLT, Nat.reduceLeDiff, Nat.reduceAdd, Nat.reduceMul, Nat.reduceSub, Nat.reduceBEq, ↓reduceIte, reduceCtorEq, hs, T.i.injEq, AV.t.injEq] <;> omega
    · have hi : i = xs.length := by omega
      subst hi
      rw [List.take_length]
      have e : mkGTo xs k xs.length = mkGs xs k := by simp [mkGTo]
      rw [e]
      exact ⟨rfl, Rest.of [some 0] rfl rfl (by simp only [push_cast, Nat.reduceEqDiff, Nat.reduceLT, Nat.reduceLeDiff, Nat.reduceAdd, Nat.reduceMul, Nat.reduceSub, Nat.reduceBEq, ↓reduceIte, reduceCtorEq] <;> rfl)⟩

theorem markStore (st : Store) (k : Int) (h0 : 0 ≤ k) (hk : k + totG st.groups ≤ 4611686018427387) : ConM P0 31 [.ag [.sr 0], .t (.i .i64 k)] [.arr 123 2 (.own (.ag [.leaf, .sl 32 3 (.ag [.leaf, .leaf, .leaf])])) (st.groups.map eGroup)] (.t (.i .i64 (k + totG st.groups))) [.arr 123 2 (.own (.ag [.leaf, .sl 32 3 (.ag [.leaf, .leaf, .leaf])])) ((mkGs st.groups k).map eGroup)] := by
  refine ConM.intro (fn := Try.f31) [.tmp 4] (fun _ => (0, [])) mixed (by kernel_rfl) rfl (by decide) rfl (by rfl) (by kernel_rfl) ?_
  simp -implicitDefEqProofs (maxSteps := 2000000) only [push_cast, Nat.reduceEqDiff, Nat.reduceLT, Nat.reduceLeDiff, Nat.reduceAdd, Nat.reduceMul, Nat.reduceSub, Nat.reduceBEq, ↓reduceIte, reduceCtorEq]
  refine Callx.hand [0] (markGroupS st.groups k h0 hk) (by decide) (by simp only [push_cast, Nat.reduceEqDiff, Nat.reduceLT, Nat.reduceLeDiff, Nat.reduceAdd, Nat.reduceMul, Nat.reduceSub, Nat.reduceBEq, ↓reduceIte, reduceCtorEq]) rfl rfl (by simp only [push_cast, Nat.reduceEqDiff, Nat.reduceLT, Nat.reduceLeDiff, Nat.reduceAdd, Nat.reduceMul, Nat.reduceSub, Nat.reduceBEq, ↓reduceIte, reduceCtorEq] <;> rfl) rfl (.inr ⟨rfl, by simp only [push_cast, Nat.reduceEqDiff, Nat.reduceLT, Nat.reduceLeDiff, Nat.reduceAdd, Nat.reduceMul, Nat.reduceSub, Nat.reduceBEq, ↓reduceIte, reduceCtorEq]⟩) ?_
  simp -implicitDefEqProofs (maxSteps := 2000000) only [push_cast, Nat.reduceEqDiff, Nat.reduceLT, Nat.reduceLeDiff, Nat.reduceAdd, Nat.reduceMul, Nat.reduceSub, Nat.reduceBEq, ↓reduceIte, reduceCtorEq]
  exact Rest.of [some 0] rfl rfl (by simp only [push_cast, Nat.reduceEqDiff, Nat.reduceLT, Nat.reduceLeDiff, Nat.reduceAdd, Nat.reduceMul, Nat.reduceSub, Nat.reduceBEq, ↓reduceIte, reduceCtorEq] <;> rfl)

end Go.Proofs.Ythhgcklidfilfaa.BX
