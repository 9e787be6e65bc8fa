/-
  Lists that are filled one by one, and other small laws on lists.
-/
import Derived.Test.YthhgcklidfilfaaFa
namespace Go.Proofs.Ythhgcklidfilfaa.BX
set_option linter.unusedSectionVars false
set_option linter.unusedSimpArgs false
set_option linter.unusedVariables false
open Go Go.RowKit

theorem iteI {p : Prop} [Decidable p] {A B : Prop} (h1 : p → A) (h2 : ¬ p → B) : if p then A else B := by
  by_cases h : p
  · rw [if_pos h]; exact h1 h
  · rw [if_neg h]; exact h2 h

/-- the first i are laid, the others are zero -/
def filled {α : Type} (f : α → T) (z : T) (xs : List α) (i : Nat) : List T := (xs.take i).map f ++ List.replicate (xs.length - i) z

section
variable {α : Type} {f : α → T} {z : T} {xs : List α} {i : Nat}
theorem filled_len (h : i ≤ xs.length) : (filled f z xs i).length = xs.length := by simp [filled]; omega
theorem filled_zero : filled f z xs 0 = List.replicate xs.length z := by simp [filled]
theorem filled_all : filled f z xs xs.length = xs.map f := by simp [filled]
theorem filled_at (h : i < xs.length) {K : T → Prop} : allAt (filled f z xs i) i K = K z := by
  have : (filled f z xs i)[i]? = some z := by
    unfold filled
    rw [List.getElem?_append_right (by rw [List.length_map, List.length_take]; omega), List.length_map, List.length_take, List.getElem?_replicate, if_pos (by omega)]
  simp only [allAt, this, Option.some.injEq, forall_eq']
theorem filled_set {a : α} (h : xs[i]? = some a) : (filled f z xs i).set i (f a) = filled f z xs (i + 1) := by
  have hi : i < xs.length := (List.getElem?_eq_some_iff.1 h).1
  unfold filled
  rw [List.set_append_right _ _ (by rw [List.length_map, List.length_take]; omega)]
  have : xs.length - i = (xs.length - (i + 1)) + 1 := by omega
  rw [this, List.replicate_succ, List.take_add_one, h]
  simp
  rw [Nat.min_eq_left (by omega), Nat.sub_self, List.set_cons_zero]
end

mutual
/-- a value's size: the lengths of its lists and texts -/
def T.wt : T → Nat
  | .s x => x.length
  | .ag cs => wts cs
  | .tp cs => wts cs
  | .sl es => es.length + wts es
  | _ => 0
def wts : List T → Nat
  | [] => 0
  | x :: xs => x.wt + wts xs
end

def szR (w : Nat) (n : Int) : Int := if (w : Int) ≤ n then n - w else -1
theorem szR_pos {w : Nat} {n : Int} (h : (w : Int) ≤ n) : szR w n = n - w := if_pos h
theorem szR_neg {w : Nat} {n : Int} (h : n < (w : Int)) : szR w n = -1 := if_neg (by omega)
theorem szR_cases (w : Nat) (n : Int) : ((w : Int) ≤ n ∧ szR w n = n - w) ∨ (n < (w : Int) ∧ szR w n = -1) := by
  by_cases h : (w : Int) ≤ n
  · exact .inl ⟨h, szR_pos h⟩
  · exact .inr ⟨by omega, szR_neg (by omega)⟩

theorem wts_append : ∀ (xs ys : List T), wts (xs ++ ys) = wts xs + wts ys
  | [], ys => by simp [wts]
  | x :: xs, ys => by simp only [List.cons_append, wts, wts_append xs ys]; omega
theorem wts_zero {α : Type} {f : α → T} (h : ∀ a, (f a).wt = 0) : ∀ {xs : List α}, wts (xs.map f) = 0
  | [] => rfl
  | x :: xs => by simp only [List.map_cons, wts, h, wts_zero h]
theorem wts_take {α : Type} {f : α → T} {xs : List α} {i : Nat} {a : α} (h : xs[i]? = some a) : wts ((xs.take (i + 1)).map f) = wts ((xs.take i).map f) + (f a).wt := by
  rw [List.take_add_one, h, List.map_append, wts_append]
  simp [wts]
theorem wts_take_le {α : Type} {f : α → T} (xs : List α) (i : Nat) : wts ((xs.take i).map f) ≤ wts (xs.map f) := by
  conv => rhs; rw [← List.take_append_drop i xs, List.map_append, wts_append]
  omega

theorem erase_mapU {α β : Type} {f : α → β} : ∀ (l : List α) (i : Nat), (l.map f).eraseIdx i = (l.eraseIdx i).map f
  | [], i => by simp
  | x :: xs, 0 => by simp
  | x :: xs, i + 1 => by simp [erase_mapU xs i]

theorem allLen_map {α : Type} {f : α → T} {m : Nat} (h : ∀ a, (f a).cells.length = m) : ∀ {xs : List α}, allLen m (xs.map f) = true
  | [] => rfl
  | x :: r => by simp only [List.map_cons, allLen, h, allLen_map h, decide_true, Bool.and_self]
theorem fitsAll_map {α : Type} {f : α → T} {s : Sh} (h : ∀ a, fits s (f a) = true) : ∀ {xs : List α}, fitsAll s (xs.map f) = true
  | [] => rfl
  | x :: r => by simp only [List.map_cons, fitsAll, h, fitsAll_map h, Bool.and_self]

/-! ### maps as lists of pairs -/
section
variable {κ β : Type} [DecidableEq κ]
def aget (k : κ) : List (κ × β) → Option β
  | [] => none
  | p :: r => if p.1 = k then some p.2 else aget k r
def aset (k : κ) (v : β) : List (κ × β) → List (κ × β)
  | [] => [(k, v)]
  | p :: r => if p.1 = k then (p.1, v) :: r else p :: aset k v r
def adel (k : κ) : List (κ × β) → List (κ × β)
  | [] => []
  | p :: r => if p.1 = k then r else p :: adel k r
theorem aset_keys {k : κ} {v : β} : ∀ {l : List (κ × β)}, (aset k v l).map (·.1) = if k ∈ l.map (·.1) then l.map (·.1) else l.map (·.1) ++ [k]
  | [] => by simp [aset]
  | p :: r => by
    simp only [aset]
    split
    · rename_i h; simp [h]
    · rename_i h
      have : ¬ k = p.1 := fun e => h e.symm
      rw [List.map_cons, aset_keys (l := r)]
      simp only [List.map_cons, List.mem_cons, this, false_or]
      split <;> rfl
theorem aset_nodup {k : κ} {v : β} {l : List (κ × β)} (h : (l.map (·.1)).Nodup) : ((aset k v l).map (·.1)).Nodup := by
  rw [aset_keys]
  split
  · exact h
  · rename_i hk
    rw [List.nodup_append]
    exact ⟨h, by simp, fun a ha b hb => by simp only [List.mem_singleton] at hb; subst hb; rintro rfl; exact hk ha⟩
theorem aset_len {k : κ} {v : β} : ∀ {l : List (κ × β)}, l.length ≤ (aset k v l).length ∧ (aset k v l).length ≤ l.length + 1
  | [] => by simp [aset]
  | p :: r => by
    simp only [aset]
    have := aset_len (k := k) (v := v) (l := r)
    split <;> simp <;> omega
theorem adel_sub {k : κ} : ∀ {l : List (κ × β)}, (adel k l).Sublist l
  | [] => by simp [adel]
  | p :: r => by
    simp only [adel]
    split
    · exact List.sublist_cons_self ..
    · exact adel_sub.cons_cons p
theorem adel_nodup {k : κ} {l : List (κ × β)} (h : (l.map (·.1)).Nodup) : ((adel k l).map (·.1)).Nodup := h.sublist (adel_sub.map _)
theorem aget_set {k k' : κ} {v : β} : ∀ {l : List (κ × β)}, aget k' (aset k v l) = if k = k' then some v else aget k' l
  | [] => by simp [aset, aget]
  | p :: r => by
    simp only [aset]
    split
    · rename_i h
      simp only [aget, h]
      split <;> rfl
    · rename_i h
      simp only [aget, aget_set (l := r)]
      by_cases h1 : p.1 = k'
      · simp only [h1, if_true]
        rw [if_neg (fun e => h (h1.trans e.symm))]
      · simp only [h1, if_false]
theorem aget_none {k : κ} : ∀ {l : List (κ × β)}, aget k l = none ↔ k ∉ l.map (·.1)
  | [] => by simp [aget]
  | p :: r => by
    simp only [aget, List.map_cons, List.mem_cons, not_or]
    split
    · rename_i h; simp [h]
    · rename_i h; rw [aget_none (l := r)]; exact ⟨fun hh => ⟨fun e => h e.symm, hh⟩, fun hh => hh.2⟩
theorem aget_del {k k' : κ} : ∀ {l : List (κ × β)}, (l.map (·.1)).Nodup → aget k' (adel k l) = if k = k' then none else aget k' l
  | [], _ => by simp [adel, aget]
  | p :: r, hn => by
    simp only [List.map_cons, List.nodup_cons] at hn
    simp only [adel]
    split
    · rename_i h
      subst h
      simp only [aget]
      split
      · rename_i h; subst h; exact aget_none.2 hn.1
      · rfl
    · rename_i h
      simp only [aget, aget_del hn.2]
      by_cases h1 : p.1 = k'
      · simp only [h1, if_true]
        rw [if_neg (fun e => h (h1.trans e.symm))]
      · simp only [h1, if_false]

variable {ek : κ → T} {ev : β → T} (hinj : ∀ a b, ek a = ek b → a = b)
include hinj
theorem place_assoc {k : κ} : ∀ {l : List (κ × β)} {i : Nat}, (placeT (ek k) (l.map fun p => ek p.1) i = none ∧ k ∉ l.map (·.1)) ∨ ∃ (j : Nat) (p : κ × β), placeT (ek k) (l.map fun p => ek p.1) i = some (i + j) ∧ l[j]? = some p ∧ p.1 = k ∧ k ∉ (l.take j).map (·.1)
  | [], i => .inl ⟨rfl, by simp⟩
  | p :: r, i => by
    simp only [List.map_cons, placeT]
    by_cases h : p.1 = k
    · subst h
      exact .inr ⟨0, p, by simp, rfl, rfl, by simp⟩
    · have h' : ¬ ek k = ek p.1 := fun e => h (hinj _ _ e).symm
      rw [if_neg h']
      rcases place_assoc (k := k) (l := r) (i := i + 1) with ⟨h1, h2⟩ | ⟨j, q, h1, h2, h3, h4⟩
      · exact .inl ⟨h1, by simp only [List.mem_cons, not_or]; exact ⟨fun e => h e.symm, h2⟩⟩
      · refine .inr ⟨j + 1, q, by rw [h1]; congr 1; omega, by simpa using h2, h3, ?_⟩
        simp only [List.take_succ_cons, List.map_cons, List.mem_cons, not_or]
        exact ⟨fun e => h e.symm, h4⟩
omit hinj in
theorem aset_at {k : κ} {v : β} : ∀ {l : List (κ × β)} {j : Nat} {p : κ × β}, l[j]? = some p → p.1 = k → k ∉ (l.take j).map (·.1) → aset k v l = l.set j (k, v)
  | [], j, p, h, _, _ => by simp at h
  | q :: r, 0, p, h, hk, _ => by simp at h; subst h; simp [aset, hk]
  | q :: r, j + 1, p, h, hk, hn => by
    simp only [List.getElem?_cons_succ] at h
    simp only [List.take_succ_cons, List.map_cons, List.mem_cons, not_or] at hn
    simp only [aset, List.set_cons_succ]
    rw [if_neg (fun e => hn.1 e.symm), aset_at h hk hn.2]
omit hinj in
theorem aset_new {k : κ} {v : β} : ∀ {l : List (κ × β)}, k ∉ l.map (·.1) → aset k v l = l ++ [(k, v)]
  | [], _ => rfl
  | q :: r, hn => by
    simp only [List.map_cons, List.mem_cons, not_or] at hn
    simp only [aset, List.cons_append]
    rw [if_neg (fun e => hn.1 e.symm), aset_new hn.2]
omit hinj in
theorem adel_at {k : κ} : ∀ {l : List (κ × β)} {j : Nat} {p : κ × β}, l[j]? = some p → p.1 = k → k ∉ (l.take j).map (·.1) → adel k l = l.eraseIdx j
  | [], j, p, h, _, _ => by simp at h
  | q :: r, 0, p, h, hk, _ => by simp at h; subst h; simp [adel, hk]
  | q :: r, j + 1, p, h, hk, hn => by
    simp only [List.getElem?_cons_succ] at h
    simp only [List.take_succ_cons, List.map_cons, List.mem_cons, not_or] at hn
    simp only [adel, List.eraseIdx_cons_succ]
    rw [if_neg (fun e => hn.1 e.symm), adel_at h hk hn.2]
omit hinj in
theorem adel_new {k : κ} : ∀ {l : List (κ × β)}, k ∉ l.map (·.1) → adel k l = l
  | [], _ => rfl
  | q :: r, hn => by
    simp only [List.map_cons, List.mem_cons, not_or] at hn
    simp only [adel]
    rw [if_neg (fun e => hn.1 e.symm), adel_new hn.2]
theorem upd_assoc {k : κ} {v : β} {l : List (κ × β)} : updK (l.map fun p => ek p.1) (ek k) = (aset k v l).map (fun p => ek p.1) ∧ updV (l.map fun p => ek p.1) (l.map fun p => ev p.2) (ek k) (ev v) = (aset k v l).map fun p => ev p.2 := by
  unfold updK updV
  rcases place_assoc hinj (k := k) (l := l) (i := 0) with ⟨h1, h2⟩ | ⟨j, p, h1, h2, h3, h4⟩
  · rw [h1, aset_new h2]; simp
  · rw [h1, aset_at h2 h3 h4]
    simp only [Nat.zero_add, List.map_set, and_true]
    refine List.ext_getElem? fun i => ?_
    rw [List.getElem?_set]
    split
    · rename_i hi
      subst hi
      have := (List.getElem?_eq_some_iff.1 h2).1
      rw [List.getElem?_map, h2]
      simp [h3, this]
    · rfl
theorem del_assoc {k : κ} {l : List (κ × β)} : delK (l.map fun p => ek p.1) (ek k) = (adel k l).map (fun p => ek p.1) ∧ delV (l.map fun p => ek p.1) (l.map fun p => ev p.2) (ek k) = (adel k l).map fun p => ev p.2 := by
  unfold delK delV
  rcases place_assoc hinj (k := k) (l := l) (i := 0) with ⟨h1, h2⟩ | ⟨j, p, h1, h2, h3, h4⟩
  · rw [h1, adel_new h2]; simp
  · rw [h1, adel_at h2 h3 h4]
    simp only [Nat.zero_add]
    rw [erase_mapU, erase_mapU]
    exact ⟨rfl, rfl⟩
omit hinj in
theorem aget_at {k : κ} : ∀ {l : List (κ × β)} {i : Nat} {p : κ × β}, (l.map (·.1)).Nodup → l[i]? = some p → p.1 = k → aget k l = some p.2
  | [], i, p, _, h, _ => by simp at h
  | q :: r, 0, p, _, h, hk => by simp at h; subst h; simp [aget, hk]
  | q :: r, i + 1, p, hn, h, hk => by
    simp only [List.map_cons, List.nodup_cons] at hn
    simp only [List.getElem?_cons_succ] at h
    simp only [aget]
    rw [if_neg ?_, aget_at hn.2 h hk]
    rintro rfl
    exact hn.1 (hk ▸ List.mem_map_of_mem (List.mem_of_getElem? h))
/-- a lookup in such a map -/
theorem look_assoc {s : Bool × List Lay} {z : Value} {k : κ} {ok : Bool} {kd : Kind} {K : AV → Prop} {l : List (κ × β)} (hn : (l.map (·.1)).Nodup) (hk : ∀ p ∈ l, isKey s (ek p.1)) (h1 : ∀ v, aget k l = some v → K (if ok = true then .tp [kd.look (ev v), .t (.b true)] else kd.look (ev v))) (h2 : aget k l = none → K (if ok = true then .tp [ofV z, .t (.b false)] else ofV z)) :
    lookM s z (ek k) ok kd (l.map fun p => ek p.1) (l.map fun p => ev p.2) K := by
  refine ⟨?_, fun i v hi hv => ?_, fun hh => h2 (aget_none.2 fun hm => hh ?_)⟩
  · intro y hy
    obtain ⟨p, hp, rfl⟩ := List.mem_map.1 hy
    exact hk p hp
  · rw [List.getElem?_map, Option.map_eq_some_iff] at hi hv
    obtain ⟨p, hp, hpk⟩ := hi
    obtain ⟨q, hq, rfl⟩ := hv
    rw [hp] at hq
    cases hq
    exact h1 p.2 (aget_at hn hp (hinj _ _ hpk))
  · obtain ⟨p, hp, rfl⟩ := List.mem_map.1 hm
    exact List.mem_map.2 ⟨p, hp, rfl⟩
end

end Go.Proofs.Ythhgcklidfilfaa.BX
