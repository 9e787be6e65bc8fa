/-
  States as lists in order, and as maps: the plain law of sets and patches.
-/
import Derived.Test.YthhgcklidfilfaaFi
namespace Go.Proofs.Ythhgcklidfilfaa.BX
set_option linter.unusedSectionVars false
set_option linter.unusedSimpArgs false
set_option linter.unusedVariables false
open Go Go.RowKit

def Entry.pair (e : Entry) : SlotK × List UInt8 := (e.slot, e.id)
/-- in order -/
def Ordered (s : List Entry) : Prop := s.Pairwise fun a b => before a b = true
theorem ordered_of {s : List Entry} (h : inOrd s = true) : Ordered s := by
  refine List.pairwise_iff_getElem.2 fun i j hi hj hij => ?_
  refine inOrd_far h (j - (i + 1)) i _ _ (List.getElem?_eq_getElem hi) ?_
  rw [show i + 1 + (j - (i + 1)) = j by omega]
  exact List.getElem?_eq_getElem hj
theorem inOrd_of {s : List Entry} (h : Ordered s) : inOrd s = true := by
  unfold inOrd
  refine @decide_eq_true _ (Classical.propDecidable _) fun i a b ha hb => ?_
  obtain ⟨hi, rfl⟩ := List.getElem?_eq_some_iff.1 ha
  obtain ⟨hj, rfl⟩ := List.getElem?_eq_some_iff.1 hb
  exact List.pairwise_iff_getElem.1 h i (i + 1) hi hj (by omega)
theorem before_asymm {a b : Entry} (h : before a b = true) : before b a = false := by
  cases hb : before b a with
  | false => rfl
  | true => exact absurd rfl (before_slot (before_trans h hb))
theorem before_total {a b : Entry} (h : before a b = false) : a.slot = b.slot ∨ before b a = true := by
  unfold before at *
  by_cases h1 : a.typ = b.typ
  · simp only [h1, not_true, if_false] at h ⊢
    cases h2 : Op.bytesLess b.key a.key with
    | true => exact .inr rfl
    | false => exact .inl (by simp only [Entry.slot, h1, less_total h h2])
  · have h1' : ¬ b.typ = a.typ := fun e => h1 e.symm
    simp only [h1, h1', not_false_eq_true, if_true] at h ⊢
    cases h2 : Op.bytesLess b.typ a.typ with
    | true => exact .inr rfl
    | false => exact absurd (less_total h h2) h1
theorem before_same {a b c : Entry} (h : a.slot = b.slot) : before a c = before b c ∧ before c a = before c b := by
  simp only [Entry.slot, Prod.mk.injEq] at h
  unfold before
  rw [h.1, h.2]
  exact ⟨rfl, rfl⟩

/-- one slot set anew, or taken out -/
def setL (s : List Entry) (e : Entry) (keep : Bool) : List Entry := s.takeWhile (fun x => before x e) ++ ((if (keep || decide (¬ e.id = [])) = true then [e] else []) ++ s.filter fun x => before e x)
theorem setL_mem {s : List Entry} {e : Entry} {keep : Bool} {y : Entry} (h : y ∈ setL s e keep) : y ∈ s ∨ y = e := by
  unfold setL at h
  rcases List.mem_append.1 h with h | h
  · exact .inl ((List.takeWhile_prefix _).subset h)
  · rcases List.mem_append.1 h with h | h
    · split at h
      · exact .inr (by simpa using h)
      · cases h
    · exact .inl (List.mem_filter.1 h).1
theorem setL_len {s : List Entry} {e : Entry} {keep : Bool} : (setL s e keep).length ≤ 2 * s.length + 1 := by
  unfold setL
  simp only [List.length_append]
  have h1 := (List.takeWhile_prefix (p := fun x => before x e) (l := s)).length_le
  have h2 := List.length_filter_le (fun x => before e x) s
  split <;> simp <;> omega

theorem setL_spec {e : Entry} {keep : Bool} : ∀ {s : List Entry}, Ordered s → Ordered (setL s e keep) ∧
    ((keep || decide (¬ e.id = [])) = true → List.Perm ((setL s e keep).map Entry.pair) (aset e.slot e.id (s.map Entry.pair))) ∧
    ((keep || decide (¬ e.id = [])) = false → List.Perm ((setL s e keep).map Entry.pair) (adel e.slot (s.map Entry.pair)))
  | [], _ => by
    refine ⟨?_, fun h => ?_, fun h => ?_⟩
    · unfold setL; split <;> simp [Ordered]
    · unfold setL; rw [if_pos h]; simp [aset, Entry.pair]
    · unfold setL; rw [if_neg (by rw [h]; simp)]; simp [adel]
  | x :: r, hs => by
    have hs' := hs
    unfold Ordered at hs'
    rw [List.pairwise_cons] at hs'
    obtain ⟨hx, hr⟩ := hs'
    have ih := setL_spec (e := e) (keep := keep) (s := r) hr
    by_cases h1 : before x e = true
    · have hcons : setL (x :: r) e keep = x :: setL r e keep := by
        unfold setL
        rw [List.takeWhile_cons_of_pos (p := fun x => before x e) h1, List.filter_cons_of_neg (p := fun x => before e x) (by rw [before_asymm h1]; simp)]
        simp
      have hne : x.pair.1 ≠ e.slot := before_slot h1
      rw [hcons]
      refine ⟨?_, fun h => ?_, fun h => ?_⟩
      · unfold Ordered
        rw [List.pairwise_cons]
        exact ⟨fun y hy => (setL_mem hy).elim (hx y) (fun h => h ▸ h1), ih.1⟩
      · simp only [List.map_cons, aset]
        rw [if_neg hne]
        exact (ih.2.1 h).cons _
      · simp only [List.map_cons, adel]
        rw [if_neg hne]
        exact (ih.2.2 h).cons _
    · have h1' : before x e = false := by simpa using h1
      have htw : (x :: r).takeWhile (fun x => before x e) = [] := List.takeWhile_cons_of_neg (p := fun x => before x e) h1
      rcases before_total h1' with h2 | h2
      · have hr2 : ∀ y ∈ r, before e y = true := fun y hy => by rw [← (before_same (c := y) h2).1]; exact hx y hy
        have hf : (x :: r).filter (fun x => before e x) = r := by
          rw [List.filter_cons_of_neg (p := fun x => before e x) (by rw [← (before_same (c := x) h2).1]; have := before_slot (a := x) (b := x); intro hh; exact this hh rfl)]
          exact List.filter_eq_self.2 hr2
        unfold setL
        rw [htw, hf, List.nil_append]
        refine ⟨?_, fun h => ?_, fun h => ?_⟩
        · split
          · unfold Ordered; rw [List.singleton_append, List.pairwise_cons]; exact ⟨hr2, hr⟩
          · exact hr
        · rw [if_pos h]
          simp only [List.map_cons, List.singleton_append, aset]
          rw [if_pos (show x.pair.1 = e.slot from h2)]
          simp [Entry.pair, h2]
        · rw [if_neg (by rw [h]; simp)]
          simp only [List.map_cons, List.nil_append, adel]
          rw [if_pos (show x.pair.1 = e.slot from h2)]
      · have hr2 : ∀ y ∈ x :: r, before e y = true := fun y hy => by
          rcases List.mem_cons.1 hy with rfl | hy
          · exact h2
          · exact before_trans h2 (hx y hy)
        have hf : (x :: r).filter (fun x => before e x) = x :: r := List.filter_eq_self.2 hr2
        have hni : e.slot ∉ ((x :: r).map Entry.pair).map (·.1) := by
          intro hm
          obtain ⟨p, hp, hpe⟩ := List.mem_map.1 hm
          obtain ⟨y, hy, rfl⟩ := List.mem_map.1 hp
          exact before_slot (hr2 y hy) hpe.symm
        unfold setL
        rw [htw, hf, List.nil_append]
        refine ⟨?_, fun h => ?_, fun h => ?_⟩
        · split
          · unfold Ordered; rw [List.singleton_append, List.pairwise_cons]; exact ⟨hr2, hs⟩
          · exact hs
        · rw [if_pos h, aset_new hni, List.singleton_append]
          exact List.perm_append_comm (l₁ := [e.pair])
        · rw [if_neg (by rw [h]; simp), adel_new hni]
          exact List.Perm.refl _

theorem adel_filter {κ β : Type} [DecidableEq κ] {k : κ} : ∀ {m : List (κ × β)}, (m.map (·.1)).Nodup → adel k m = m.filter fun p => decide (p.1 ≠ k)
  | [], _ => rfl
  | p :: r, h => by
    simp only [List.map_cons, List.nodup_cons] at h
    simp only [adel]
    split
    · rename_i hp
      rw [List.filter_cons_of_neg (p := fun p : κ × β => decide (p.1 ≠ k)) (by simp [hp])]
      refine (List.filter_eq_self.2 fun q hq => ?_).symm
      simp only [decide_eq_true_eq]
      rintro rfl
      exact h.1 (hp ▸ List.mem_map_of_mem hq)
    · rename_i hp
      rw [List.filter_cons_of_pos (p := fun p : κ × β => decide (p.1 ≠ k)) (by simp [hp]), adel_filter h.2]
theorem aset_perm {κ β : Type} [DecidableEq κ] {k : κ} {v : β} : ∀ {m : List (κ × β)}, List.Perm (aset k v m) ((k, v) :: adel k m)
  | [] => List.Perm.refl _
  | p :: r => by
    simp only [aset, adel]
    split
    · rename_i h; rw [h]
    · exact (aset_perm.cons p).trans (List.Perm.swap ..)

/-- the map is this state -/
def Is (m : List (SlotK × List UInt8)) (s : List Entry) : Prop := List.Perm m (s.map Entry.pair) ∧ Ordered s
theorem Is.len {m : List (SlotK × List UInt8)} {s : List Entry} (h : Is m s) : m.length = s.length := by simpa using h.1.length_eq
theorem ordered_keys {s : List Entry} (h : Ordered s) : ((s.map Entry.pair).map (·.1)).Nodup := by
  have := inOrd_nodup (inOrd_of h)
  rw [List.map_map]
  exact this
theorem Is.keys {m : List (SlotK × List UInt8)} {s : List Entry} (h : Is m s) : (m.map (·.1)).Nodup := (h.1.map _).nodup_iff.2 (ordered_keys h.2)
/-- one change -/
def chM (m : List (SlotK × List UInt8)) (e : Entry) : List (SlotK × List UInt8) := if e.id = [] then adel e.slot m else aset e.slot e.id m
theorem Is.set {m : List (SlotK × List UInt8)} {s : List Entry} (h : Is m s) (e : Entry) : Is (chM m e) (setL s e false) := by
  obtain ⟨h1, h2, h3⟩ := setL_spec (e := e) (keep := false) h.2
  have hd : List.Perm (adel e.slot m) (adel e.slot (s.map Entry.pair)) := by
    rw [adel_filter h.keys, adel_filter (ordered_keys h.2)]
    exact h.1.filter _
  refine ⟨?_, h1⟩
  unfold chM
  split
  · rename_i he
    exact hd.trans (h3 (by simp [he])).symm
  · rename_i he
    exact (aset_perm.trans ((hd.cons _).trans aset_perm.symm)).trans (h2 (by simp [he])).symm
def patchM (m : List (SlotK × List UInt8)) (ch : List Entry) : List (SlotK × List UInt8) := ch.foldl chM m
def patchL (s : List Entry) (ch : List Entry) : List Entry := ch.foldl (fun o e => setL o e false) s
theorem Is.patch {ch : List Entry} : ∀ {m : List (SlotK × List UInt8)} {s : List Entry}, Is m s → Is (patchM m ch) (patchL s ch) := by
  induction ch with
  | nil => intro m s h; exact h
  | cons e ch ih => intro m s h; exact ih (h.set e)
theorem patchM_live {s : List Entry} (h : ∀ e ∈ s, e.id ≠ []) : patchM [] s = live s := by
  unfold patchM live
  suffices ∀ (s : List Entry) (m : List (SlotK × List UInt8)), (∀ e ∈ s, e.id ≠ []) → s.foldl chM m = s.foldl (fun m e => aset e.slot e.id m) m from this s [] h
  intro s
  induction s with
  | nil => intro m _; rfl
  | cons e s ih =>
    intro m h
    simp only [List.foldl_cons]
    have : chM m e = aset e.slot e.id m := by unfold chM; rw [if_neg (h e (by simp))]
    rw [this]
    exact ih _ fun x hx => h x (by simp [hx])
theorem Is.base {s : List Entry} (h : stateOk s = true) : Is (patchM [] s) s := by
  obtain ⟨h1, _, h3⟩ := stateOk_ord h
  refine ⟨?_, ordered_of h1⟩
  rw [patchM_live h3, live_map (inOrd_nodup h1)]
  exact List.Perm.refl _

end Go.Proofs.Ythhgcklidfilfaa.BX
