/-
  The program's groups: patch, nodesOf, StoreOk.
-/
import Derived.Test.YthhgcklidfilfaaSp
import Derived.Test.YthhgcklidfilfaaMc
import Derived.Test.YthhgcklidfilfaaBxOz
namespace Go.Proofs.Ythhgcklidfilfaa.BX
set_option linter.unusedSectionVars false
set_option linter.unusedSimpArgs false
set_option linter.unusedVariables false
open Go Go.RowKit
set_option maxRecDepth 20000
set_option maxHeartbeats 400000

theorem chM_len {m : List (SlotK × List UInt8)} {e : Entry} : (chM m e).length ≤ m.length + 1 := by
  unfold chM
  split
  · have := (adel_sub (k := e.slot) (l := m)).length_le; omega
  · exact aset_len.2
theorem patchM_snoc {m : List (SlotK × List UInt8)} {ch : List Entry} {i : Nat} {e : Entry} (h : ch[i]? = some e) : patchM m (ch.take (i + 1)) = chM (patchM m (ch.take i)) e := by
  unfold patchM
  rw [List.take_add_one, h, List.foldl_append]
  rfl
theorem patchM_len {ch : List Entry} : ∀ {m : List (SlotK × List UInt8)}, (patchM m ch).length ≤ m.length + ch.length := by
  induction ch with
  | nil => intro m; simp [patchM]
  | cons e ch ih =>
    intro m
    have h1 := chM_len (m := m) (e := e)
    have h2 := ih (m := chM m e)
    simp only [List.length_cons]
    show (patchM (chM m e) ch).length ≤ _
    omega

theorem flats_map {α : Type} {f : α → T} (h : ∀ x, (f x).flat = true) : ∀ {l : List α}, flats (l.map f) = true
  | [] => rfl
  | x :: r => by
    simp only [List.map_cons, flats, Bool.and_eq_true]
    exact ⟨h x, flats_map h⟩
/-- the map of a group -/
def fullM (gs : List Group) (i : Nat) : List (SlotK × List UInt8) := match gs[i]? with
  | none => []
  | some g => if _h : 0 ≤ g.parent ∧ g.parent.toNat < i then patchM (fullM gs g.parent.toNat) g.sets else patchM [] g.sets
termination_by i
decreasing_by exact _h.2
theorem fullM_eq {gs : List Group} {i : Nat} {g : Group} (h : gs[i]? = some g) : fullM gs i = if 0 ≤ g.parent ∧ g.parent.toNat < i then patchM (fullM gs g.parent.toNat) g.sets else patchM [] g.sets := by
  rw [fullM, h]
  simp only [dite_eq_ite]
def lvT (m : List (SlotK × List UInt8)) : T := .mp (m.map fun p => eK p.1) (m.map fun p => T.s p.2)
/-- the node of a group -/
def nodeOf (gs : List Group) (i : Nat) : T := match gs[i]? with
  | none => .np
  | some g => .po (.ag [if _h : 0 ≤ g.parent ∧ g.parent.toNat < i then nodeOf gs g.parent.toNat else .np, eEntryS g.sets, .i .i64 (linksOf gs i), lvT (fullM gs i)]) 0
termination_by i
decreasing_by exact _h.2
theorem nodeOf_eq {gs : List Group} {i : Nat} {g : Group} (h : gs[i]? = some g) : nodeOf gs i = .po (.ag [if 0 ≤ g.parent ∧ g.parent.toNat < i then nodeOf gs g.parent.toNat else .np, eEntryS g.sets, .i .i64 (linksOf gs i), lvT (fullM gs i)]) 0 := by
  rw [nodeOf, h]
  simp only [dite_eq_ite]
/-- the map of a group is its state -/
theorem fullM_is {gs : List Group} : ∀ (i : Nat), Ups gs i → ∀ g, gs[i]? = some g → g.parent < i → inOrd g.sets = true → (g.parent < 0 → stateOk g.sets = true) → Is (fullM gs i) (expandOf gs i) := by
  intro i
  induction i using Nat.strongRecOn with
  | ind i ih =>
  intro hu g hg hp ho hb
  rw [fullM_eq hg, expandOf_eq hg]
  split
  · rename_i hc
    obtain ⟨p, hgp⟩ : ∃ p, gs[g.parent.toNat]? = some p := ⟨_, List.getElem?_eq_getElem (by have := (List.getElem?_eq_some_iff.1 hg).1; omega)⟩
    have hk := hu _ hc.2 p hgp
    exact (ih _ hc.2 (fun j hj => hu j (by omega)) p hgp hk.hi hk.ord fun hn => hk.base (by have := hk.lo; omega)).patch
  · exact Is.base (hb (by omega))

variable [Bd]

/-- the map as an object -/
abbrev lvO (m : List (SlotK × List UInt8)) : Ob := .map 118 9 (.own .leaf) (m.map fun p => eK p.1) (m.map fun p => T.s p.2) none

theorem livePatch (m : List (SlotK × List UInt8)) (ch : List Entry) (hl : m.length + ch.length < Bd.B) : ConM P0 71 [.mr 0, .t (eEntryS ch)] [lvO m] (.tp []) [lvO (patchM m ch)] := by
  refine ConM.intro (fn := Try.f71) [] (fun _ => (0, [])) mixed (by kernel_rfl) rfl (by decide) rfl (by rfl) (by kernel_rfl) ?_
  simp -implicitDefEqProofs (maxSteps := 2000000) only [push_cast, Nat.reduceEqDiff, Nat.reduceLT, Nat.reduceLeDiff, Nat.reduceAdd, Nat.reduceMul, Nat.reduceSub, Nat.reduceBEq, ↓reduceIte, reduceCtorEq]
  intro hlc
  refine WL.loop (ι := Nat) (D := (fun _ => (0, []))) (fun i => i ≤ ch.length) (fun i => ⟨28, [(9, .t (.i .i64 i)), (8, .t (.i .i64 ch.length)), (7, .t (eEntryS ch)), (0, .mr 0)], [lvO (patchM m (ch.take i))]⟩) (fun i => ch.length - i) mixed (by kernel_rfl) 0 (by omega) (Keep.wk (ids := [some 0]) ?_) ?_
  · simp only [push_cast, Nat.reduceEqDiff, Nat.reduceLT, Nat.reduceLeDiff, Nat.reduceAdd, Nat.reduceMul, Nat.reduceSub, Nat.reduceBEq, ↓reduceIte, reduceCtorEq, patchM, List.take_zero, List.foldl_nil] <;> rfl
  · intro i hi
    simp -implicitDefEqProofs (maxSteps := 2000000) only [push_cast, Nat.reduceEqDiff, Nat.reduceLT, Nat.reduceLeDiff, Nat.reduceAdd, Nat.reduceMul, Nat.reduceSub, Nat.reduceBEq, ↓reduceIte, reduceCtorEq, eEntry]
    split
    · rename_i h
      refine ⟨by omega, fun a ha => ?_⟩
      rw [Int.toNat_natCast] at ha
      have hlen := patchM_len (m := m) (ch := ch.take i)
      rw [List.length_take] at hlen
      have hs := patchM_snoc (m := m) ha
      have hb := Bd.hi
      obtain ⟨hu1, hu2⟩ := upd_assoc (ek := eK) (ev := T.s) eK_inj (k := a.slot) (v := a.id) (l := patchM m (ch.take i))
      obtain ⟨hd1, hd2⟩ := del_assoc (ek := eK) (ev := T.s) eK_inj (k := a.slot) (l := patchM m (ch.take i))
      have hk : T.ag [T.s a.typ, T.s a.key] = eK a.slot := rfl
      rw [hk, hu1, hu2, hd1, hd2]
      split
      · rename_i hid
        have hc : chM (patchM m (ch.take i)) a = adel a.slot (patchM m (ch.take i)) := by unfold chM; rw [if_pos hid]
        rw [← hc, ← hs]
        refine ⟨by unfold inI64; omega, i + 1, by omega, by omega, Keep.wk (ids := [some 0]) ?_⟩
        simp only [push_cast, Nat.reduceEqDiff, Nat.reduceLT, Nat.reduceLeDiff, Nat.reduceAdd, Nat.reduceMul, Nat.reduceSub, Nat.reduceBEq, ↓reduceIte, reduceCtorEq] <;> rfl
      · rename_i hid
        have hc : chM (patchM m (ch.take i)) a = aset a.slot a.id (patchM m (ch.take i)) := by unfold chM; rw [if_neg hid]
        rw [← hc, ← hs]
        refine ⟨fun _ => by omega, by unfold inI64; omega, i + 1, by omega, by omega, Keep.wk (ids := [some 0]) ?_⟩
        simp only [push_cast, Nat.reduceEqDiff, Nat.reduceLT, Nat.reduceLeDiff, Nat.reduceAdd, Nat.reduceMul, Nat.reduceSub, Nat.reduceBEq, ↓reduceIte, reduceCtorEq] <;> rfl
    · have hi : i = ch.length := by omega
      subst hi
      rw [List.take_length]
      exact Close.of [some 0] rfl rfl rfl rfl (by simp only [push_cast, Nat.reduceEqDiff, Nat.reduceLT, Nat.reduceLeDiff, Nat.reduceAdd, Nat.reduceMul, Nat.reduceSub, Nat.reduceBEq, ↓reduceIte, reduceCtorEq] <;> rfl)

def nodesT (gs : List Group) (n : Nat) : List T := (List.range n).map (nodeOf gs)

theorem nodesOf (gs : List Group) (hB : Bd.B ≤ 2147483648) : Con P0 85 [eStore ⟨gs⟩] (.t (.tp [.sl (if storeOk gs = true then nodesT gs gs.length else []), .b (storeOk gs)])) [] := by
  refine Con.intro (fn := Try.f85) [.tmp 2, .tmp 3] (fun i => if i = 16 then (6, []) else (0, [])) mixed (by kernel_rfl) rfl (by decide) rfl (by rfl) (by kernel_rfl) ?_
  simp -implicitDefEqProofs (maxSteps := 2000000) only [push_cast, Nat.reduceEqDiff, Nat.reduceLT, Nat.reduceLeDiff, Nat.reduceAdd, Nat.reduceMul, Nat.reduceSub, Nat.reduceBEq, ↓reduceIte, reduceCtorEq, eStore]
  have := Bd.lo
  intro hlen
  split
  · rename_i h
    have hf : storeOk gs = false := by
      simp only [storeOk]
      rw [decide_eq_false (by omega)]
      rfl
    rw [hf]; rfl
  rename_i hm
  refine ⟨rfl, by omega, fun _ => ?_⟩
  refine WL.loop (ι := Nat) (D := (fun i => if i = 16 then (6, []) else (0, []))) (fun i => i ≤ gs.length ∧ Ups gs i) (fun i => ⟨104, [(1, .rf 0 0), (4, .sr 1), (14, .t (eGroupS gs)), (15, .t (.i .i64 gs.length)), (16, .t (.i .i64 i))], [.box (.t (eStore ⟨gs⟩)), .arr 131 1 .clo (nodesT gs i)]⟩) (fun i => gs.length - i) mixed (by kernel_rfl) 0 ⟨by omega, fun j hj => absurd hj (by omega)⟩ (Wk.trans (Wk.clo0 (id := 1) rfl) (Keep.wk (ids := [some 0, some 1]) ?_)) ?_
  · simp only [push_cast, Nat.reduceEqDiff, Nat.reduceLT, Nat.reduceLeDiff, Nat.reduceAdd, Nat.reduceMul, Nat.reduceSub, Nat.reduceBEq, ↓reduceIte, reduceCtorEq, eStore, nodesT, List.range_zero, List.map_nil, List.set_cons_succ, List.set_cons_zero] <;> rfl
  · rintro i ⟨hi, hu⟩
    simp -implicitDefEqProofs (maxSteps := 2000000) only [push_cast, Nat.reduceEqDiff, Nat.reduceLT, Nat.reduceLeDiff, Nat.reduceAdd, Nat.reduceMul, Nat.reduceSub, Nat.reduceBEq, ↓reduceIte, reduceCtorEq, eStore, eGroup]
    have hno : ∀ g, gs[i]? = some g → ¬ OkAt gs i g → storeOk gs = false := by
      intro g hg hn
      simp only [storeOk]
      rw [Bool.and_eq_false_iff]
      refine .inr (@decide_eq_false _ (Classical.propDecidable _) fun h => hn (h i ?_ g hg))
      exact (List.getElem?_eq_some_iff.1 hg).1
    split
    case isFalse =>
      have hi : i = gs.length := by omega
      subst hi
      have ht : storeOk gs = true := by
        simp only [storeOk]
        rw [decide_eq_true (by omega), @decide_eq_true _ (Classical.propDecidable _) hu]
        rfl
      rw [ht]; rfl
    rename_i h
    refine ⟨by omega, fun g hg => ?_⟩
    rw [Int.toNat_natCast] at hg
    split
    · rename_i h1
      split
      · rename_i h2
        rw [hno g hg fun h => absurd h.lo (by omega)]; rfl
      split
      · rename_i h2
        rw [hno g hg fun h => absurd h.hi (by omega)]; rfl
      refine Callx.closed (implChangesOk g.sets) rfl rfl (.inl rfl) ?_
      simp -implicitDefEqProofs (maxSteps := 2000000) only [push_cast, Nat.reduceEqDiff, Nat.reduceLT, Nat.reduceLeDiff, Nat.reduceAdd, Nat.reduceMul, Nat.reduceSub, Nat.reduceBEq, ↓reduceIte, reduceCtorEq]
      split
      · rename_i h3
        rw [hno g hg fun h => ?_]
        · rfl
        have h4 := h.len
        rw [h.ord, decide_eq_true (by omega)] at h3
        simp at h3
      rename_i h2 h2' h3
      have hc : g.sets.length ≤ 600 ∧ inOrd g.sets = true := by
        simp only [Bool.not_eq_true', Bool.not_eq_false, Bool.and_eq_true, decide_eq_true_eq] at h3
        exact ⟨by omega, h3.2⟩
      obtain ⟨p, hgp⟩ : ∃ p, gs[g.parent.toNat]? = some p := ⟨_, List.getElem?_eq_getElem (by omega)⟩
      have hk := hu _ (by omega) p hgp
      obtain ⟨up, hup⟩ : ∃ up, nodeOf gs g.parent.toNat = .po (.ag [up, eEntryS p.sets, .i .i64 (linksOf gs g.parent.toNat), lvT (fullM gs g.parent.toNat)]) 0 := ⟨_, nodeOf_eq hgp⟩
      have hnl : (nodesT gs i).length = i := by simp [nodesT]
      have hpl := linksOf_le (gs := gs) g.parent.toNat
      refine ⟨by omega, by omega, fun y hy => ?_⟩
      have hy' : y = .po (.ag [up, eEntryS p.sets, .i .i64 (linksOf gs g.parent.toNat), lvT (fullM gs g.parent.toNat)]) 0 := by
        rw [← hup]
        unfold nodesT at hy
        rw [List.getElem?_map, List.getElem?_range (by omega)] at hy
        simpa using hy.symm
      subst hy'
      simp -implicitDefEqProofs (maxSteps := 2000000) only [push_cast, Nat.reduceEqDiff, Nat.reduceLT, Nat.reduceLeDiff, Nat.reduceAdd, Nat.reduceMul, Nat.reduceSub, Nat.reduceBEq, ↓reduceIte, reduceCtorEq]
      refine ⟨by unfold inI64; omega, ?_⟩
      refine Callx.closed (mapsClone (ks := (fullM gs g.parent.toNat).map fun p => eK p.1) (vs := (fullM gs g.parent.toNat).map fun p => T.s p.2) ?_ ?_ ?_) rfl rfl (.inl rfl) ?_
      · exact flats_map fun _ => rfl
      · exact flats_map fun _ => rfl
      · rintro x hx
        obtain ⟨q, _, rfl⟩ := List.mem_map.1 hx
        rfl
      simp -implicitDefEqProofs (maxSteps := 2000000) only [push_cast, Nat.reduceEqDiff, Nat.reduceLT, Nat.reduceLeDiff, Nat.reduceAdd, Nat.reduceMul, Nat.reduceSub, Nat.reduceBEq, ↓reduceIte, reduceCtorEq]
      have hip := fullM_is g.parent.toNat (fun j hj => hu j (by omega)) p hgp hk.hi hk.ord fun hn => hk.base (by have := hk.lo; omega)
      have hfl := hk.full
      rw [← hip.len] at hfl
      refine Callx.hand [5] (livePatch (fullM gs g.parent.toNat) g.sets (by omega)) (by decide) (by simp only [push_cast, Nat.reduceEqDiff, Nat.reduceLT, Nat.reduceLeDiff, Nat.reduceAdd, Nat.reduceMul, Nat.reduceSub, Nat.reduceBEq, ↓reduceIte, reduceCtorEq]) rfl rfl (by simp only [push_cast, Nat.reduceEqDiff, Nat.reduceLT, Nat.reduceLeDiff, Nat.reduceAdd, Nat.reduceMul, Nat.reduceSub, Nat.reduceBEq, ↓reduceIte, reduceCtorEq] <;> rfl) rfl (.inr ⟨rfl, by simp only [push_cast, Nat.reduceEqDiff, Nat.reduceLT, Nat.reduceLeDiff, Nat.reduceAdd, Nat.reduceMul, Nat.reduceSub, Nat.reduceBEq, ↓reduceIte, reduceCtorEq]⟩) ?_
      have hle := linksOf_eq hg
      rw [if_pos (by omega)] at hle
      have hfe := fullM_eq hg
      rw [if_pos (by omega)] at hfe
      have hoi := hc.2
      have hli := hc.1
      have hbi : g.parent < 0 → stateOk g.sets = true := fun hh => absurd hh (by omega)
      simp -implicitDefEqProofs (maxSteps := 2000000) only [push_cast, Nat.reduceEqDiff, Nat.reduceLT, Nat.reduceLeDiff, Nat.reduceAdd, Nat.reduceMul, Nat.reduceSub, Nat.reduceBEq, ↓reduceIte, reduceCtorEq]
      split
      · rename_i h6
        rw [hno g hg fun h => absurd h.links (by omega)]; rfl
      rename_i h6
      intro _
      split
      · rename_i h7
        rw [hno g hg fun h => ?_]
        · rfl
        have hq := (fullM_is i hu g hg (by omega) hoi hbi).len
        have := h.full
        rw [hfe] at hq
        omega
      rename_i h7
      have hei := (fullM_is i hu g hg (by omega) hoi hbi).len
      rw [hfe] at hei
      have hne := nodeOf_eq hg
      have hle' : ((linksOf gs i : Nat) : Int) = (linksOf gs g.parent.toNat : Int) + 1 := by omega
      rw [if_pos (by omega), hup, hfe, hle'] at hne
      refine ⟨rfl, by omega, rfl, by omega, by omega, by unfold inI64; omega, i + 1, ⟨by omega, fun j hj x hx => ?_⟩, by omega, Keep.wk (ids := [some 0, some 7]) ?_⟩
      · rcases Nat.lt_or_ge j i with hj' | hj'
        · exact hu j hj' x hx
        · have hji : j = i := by omega
          subst hji
          rw [hg] at hx; cases hx
          exact ⟨by omega, by omega, hli, hoi, fun hh => hbi (by omega), by omega, by omega⟩
      · have hsn : nodesT gs (i + 1) = nodesT gs i ++ [nodeOf gs i] := by simp [nodesT, List.range_succ]
        rw [hsn, hne]
        simp only [push_cast, Nat.reduceEqDiff, Nat.reduceLT, Nat.reduceLeDiff, Nat.reduceAdd, Nat.reduceMul, Nat.reduceSub, Nat.reduceBEq, ↓reduceIte, reduceCtorEq, eStore, lvT, List.map_nil] <;> rfl
    · rename_i h1
      have hpe : g.parent = -1 := by omega
      refine Callx.closed (implStateOk g.sets) rfl rfl (.inl rfl) ?_
      simp -implicitDefEqProofs (maxSteps := 2000000) only [push_cast, Nat.reduceEqDiff, Nat.reduceLT, Nat.reduceLeDiff, Nat.reduceAdd, Nat.reduceMul, Nat.reduceSub, Nat.reduceBEq, ↓reduceIte, reduceCtorEq]
      split
      · rename_i h3
        rw [hno g hg fun h => ?_]
        · rfl
        rw [h.base hpe] at h3
        simp at h3
      rename_i h3
      have hst : stateOk g.sets = true := by simpa using h3
      obtain ⟨hoi, hl3, _⟩ := stateOk_ord hst
      have hli : g.sets.length ≤ 600 := by omega
      have hbi : g.parent < 0 → stateOk g.sets = true := fun _ => hst
      have hle := linksOf_eq hg
      rw [if_neg (by omega)] at hle
      have hfe := fullM_eq hg
      rw [if_neg (by omega)] at hfe
      have hnl : (nodesT gs i).length = i := by simp [nodesT]
      refine Callx.hand [3] (livePatch [] g.sets (by simp only [List.length_nil]; omega)) (by decide) (by simp only [push_cast, Nat.reduceEqDiff, Nat.reduceLT, Nat.reduceLeDiff, Nat.reduceAdd, Nat.reduceMul, Nat.reduceSub, Nat.reduceBEq, ↓reduceIte, reduceCtorEq]) rfl rfl (by simp only [push_cast, Nat.reduceEqDiff, Nat.reduceLT, Nat.reduceLeDiff, Nat.reduceAdd, Nat.reduceMul, Nat.reduceSub, Nat.reduceBEq, ↓reduceIte, reduceCtorEq] <;> rfl) rfl (.inr ⟨rfl, by simp only [push_cast, Nat.reduceEqDiff, Nat.reduceLT, Nat.reduceLeDiff, Nat.reduceAdd, Nat.reduceMul, Nat.reduceSub, Nat.reduceBEq, ↓reduceIte, reduceCtorEq]⟩) ?_
      simp -implicitDefEqProofs (maxSteps := 2000000) only [push_cast, Nat.reduceEqDiff, Nat.reduceLT, Nat.reduceLeDiff, Nat.reduceAdd, Nat.reduceMul, Nat.reduceSub, Nat.reduceBEq, ↓reduceIte, reduceCtorEq]
      split
      · rename_i h6
        rw [hno g hg fun h => absurd h.links (by omega)]; rfl
      rename_i h6
      intro _
      split
      · rename_i h7
        rw [hno g hg fun h => ?_]
        · rfl
        have hq := (fullM_is i hu g hg (by omega) hoi hbi).len
        have := h.full
        rw [hfe] at hq
        omega
      rename_i h7
      have hei := (fullM_is i hu g hg (by omega) hoi hbi).len
      rw [hfe] at hei
      have hne := nodeOf_eq hg
      rw [if_neg (by omega), hfe, hle] at hne
      refine ⟨rfl, by omega, rfl, by omega, by omega, by unfold inI64; omega, i + 1, ⟨by omega, fun j hj x hx => ?_⟩, by omega, Keep.wk (ids := [some 0, some 6]) ?_⟩
      · rcases Nat.lt_or_ge j i with hj' | hj'
        · exact hu j hj' x hx
        · have hji : j = i := by omega
          subst hji
          rw [hg] at hx; cases hx
          exact ⟨by omega, by omega, hli, hoi, fun hh => hbi (by omega), by omega, by omega⟩
      · have hsn : nodesT gs (i + 1) = nodesT gs i ++ [nodeOf gs i] := by simp [nodesT, List.range_succ]
        rw [hsn, hne]
        simp only [push_cast, Nat.reduceEqDiff, Nat.reduceLT, Nat.reduceLeDiff, Nat.reduceAdd, Nat.reduceMul, Nat.reduceSub, Nat.reduceBEq, ↓reduceIte, reduceCtorEq, eStore, lvT, List.map_nil] <;> rfl

theorem implStoreOk (gs : List Group) (hB : Bd.B ≤ 2147483648) : Con P0 22 [eStore ⟨gs⟩] (.t (.b (storeOk gs))) [] := by
  refine Con.intro (fn := Try.f22) [.tmp 2] (fun _ => (0, [])) mixed (by kernel_rfl) rfl (by decide) rfl (by rfl) (by kernel_rfl) ?_
  simp -implicitDefEqProofs (maxSteps := 2000000) only [push_cast, Nat.reduceEqDiff, Nat.reduceLT, Nat.reduceLeDiff, Nat.reduceAdd, Nat.reduceMul, Nat.reduceSub, Nat.reduceBEq, ↓reduceIte, reduceCtorEq, eStore]
  refine Callx.closed (nodesOf gs hB) rfl rfl (.inl rfl) ?_
  simp -implicitDefEqProofs (maxSteps := 2000000) only [push_cast, Nat.reduceEqDiff, Nat.reduceLT, Nat.reduceLeDiff, Nat.reduceAdd, Nat.reduceMul, Nat.reduceSub, Nat.reduceBEq, ↓reduceIte, reduceCtorEq]

end Go.Proofs.Ythhgcklidfilfaa.BX
