/-
  Part 5 of what LFnExactSplit leans on: its texts, merged by a program (prune.py), with what it needs alone.
-/
import Derived.Test.YtmgdkkhnjkepiaaQ4
import Derived.Carry
import Derived.OpenShut
import Derived.WalkKit
import Derived.ProofKit
import Derived.Laws.Externs
import Derived.Laws.Runes
import Derived.Test.YtmgdkkhnjkepiaaSm
import Derived.Shelf.Sort.Plain
import Derived.Shelf.Slices.In.SortNone
import Derived.Test.YtmgdkkhnjkepiaaSl
import Derived.Shelf.SlSortCmp.NoneTotal
import Derived.Test.YtmgdkkhnjkepiaaSi
import Derived.MapKept
namespace Go.Proofs.Ytmgdkkhnjkepiaa.BX
set_option linter.unusedSectionVars false
set_option linter.unusedSimpArgs false
set_option linter.unusedVariables false
open Go Go.RowKit
theorem iteI {p : Prop} [Decidable p] {A B : Prop} (h1 : p → A) (h2 : ¬ p → B) : if p then A else B := by
  by_cases h : p
  · rw [if_pos h]; exact h1 h
  · rw [if_neg h]; exact h2 h
def filled {α : Type} (f : α → T) (z : T) (xs : List α) (i : Nat) : List T := (xs.take i).map f ++ List.replicate (xs.length - i) z
section
variable {α : Type} {f : α → T} {z : T} {xs : List α} {i : Nat}
theorem filled_len (h : i ≤ xs.length) : (filled f z xs i).length = xs.length := by simp [filled]; omega
theorem filled_zero : filled f z xs 0 = List.replicate xs.length z := by simp [filled]
theorem filled_all : filled f z xs xs.length = xs.map f := by simp [filled]
theorem filled_at (h : i < xs.length) {K : T → Prop} : allAt (filled f z xs i) i K = K z := by
  have : (filled f z xs i)[i]? = some z := by
    unfold filled
    rw [List.getElem?_append_right (by rw [List.length_map, List.length_take]; omega), List.length_map, List.length_take, List.getElem?_replicate, if_pos (by omega)]
  simp only [allAt, this, Option.some.injEq, forall_eq']
theorem filled_set {a : α} (h : xs[i]? = some a) : (filled f z xs i).set i (f a) = filled f z xs (i + 1) := by
  have hi : i < xs.length := (List.getElem?_eq_some_iff.1 h).1
  unfold filled
  rw [List.set_append_right _ _ (by rw [List.length_map, List.length_take]; omega)]
  have : xs.length - i = (xs.length - (i + 1)) + 1 := by omega
  rw [this, List.replicate_succ, List.take_add_one, h]
  simp
  rw [Nat.min_eq_left (by omega), Nat.sub_self, List.set_cons_zero]
end
mutual
def T.wt : T → Nat
  | .s x => x.length
  | .ag cs => wts cs
  | .tp cs => wts cs
  | .sl es => es.length + wts es
  | _ => 0
def wts : List T → Nat
  | [] => 0
  | x :: xs => x.wt + wts xs
end
def szR (w : Nat) (n : Int) : Int := if (w : Int) ≤ n then n - w else -1
theorem szR_pos {w : Nat} {n : Int} (h : (w : Int) ≤ n) : szR w n = n - w := if_pos h
theorem szR_neg {w : Nat} {n : Int} (h : n < (w : Int)) : szR w n = -1 := if_neg (by omega)
theorem szR_cases (w : Nat) (n : Int) : ((w : Int) ≤ n ∧ szR w n = n - w) ∨ (n < (w : Int) ∧ szR w n = -1) := by
  by_cases h : (w : Int) ≤ n
  · exact .inl ⟨h, szR_pos h⟩
  · exact .inr ⟨by omega, szR_neg (by omega)⟩
theorem wts_append : ∀ (xs ys : List T), wts (xs ++ ys) = wts xs + wts ys
  | [], ys => by simp [wts]
  | x :: xs, ys => by simp only [List.cons_append, wts, wts_append xs ys]; omega
theorem wts_zero {α : Type} {f : α → T} (h : ∀ a, (f a).wt = 0) : ∀ {xs : List α}, wts (xs.map f) = 0
  | [] => rfl
  | x :: xs => by simp only [List.map_cons, wts, h, wts_zero h]
theorem wts_take {α : Type} {f : α → T} {xs : List α} {i : Nat} {a : α} (h : xs[i]? = some a) : wts ((xs.take (i + 1)).map f) = wts ((xs.take i).map f) + (f a).wt := by
  rw [List.take_add_one, h, List.map_append, wts_append]
  simp [wts]
theorem wts_take_le {α : Type} {f : α → T} (xs : List α) (i : Nat) : wts ((xs.take i).map f) ≤ wts (xs.map f) := by
  conv => rhs; rw [← List.take_append_drop i xs, List.map_append, wts_append]
  omega
theorem fitsAll_map {α : Type} {f : α → T} {s : Sh} (h : ∀ a, fits s (f a) = true) : ∀ {xs : List α}, fitsAll s (xs.map f) = true
  | [] => rfl
  | x :: r => by simp only [List.map_cons, fitsAll, h, fitsAll_map h, Bool.and_self]
section
variable {κ β : Type} [DecidableEq κ]
def aget (k : κ) : List (κ × β) → Option β
  | [] => none
  | p :: r => if p.1 = k then some p.2 else aget k r
def aset (k : κ) (v : β) : List (κ × β) → List (κ × β)
  | [] => [(k, v)]
  | p :: r => if p.1 = k then (p.1, v) :: r else p :: aset k v r
def adel (k : κ) : List (κ × β) → List (κ × β)
  | [] => []
  | p :: r => if p.1 = k then r else p :: adel k r
theorem aset_keys {k : κ} {v : β} : ∀ {l : List (κ × β)}, (aset k v l).map (·.1) = if k ∈ l.map (·.1) then l.map (·.1) else l.map (·.1) ++ [k]
  | [] => by simp [aset]
  | p :: r => by
    simp only [aset]
    split
    · rename_i h; simp [h]
    · rename_i h
      have : ¬ k = p.1 := fun e => h e.symm
      rw [List.map_cons, aset_keys (l := r)]
      simp only [List.map_cons, List.mem_cons, this, false_or]
      split <;> rfl
theorem aset_nodup {k : κ} {v : β} {l : List (κ × β)} (h : (l.map (·.1)).Nodup) : ((aset k v l).map (·.1)).Nodup := by
  rw [aset_keys]
  split
  · exact h
  · rename_i hk
    rw [List.nodup_append]
    exact ⟨h, by simp, fun a ha b hb => by simp only [List.mem_singleton] at hb; subst hb; rintro rfl; exact hk ha⟩
theorem aset_len {k : κ} {v : β} : ∀ {l : List (κ × β)}, l.length ≤ (aset k v l).length ∧ (aset k v l).length ≤ l.length + 1
  | [] => by simp [aset]
  | p :: r => by
    simp only [aset]
    have := aset_len (k := k) (v := v) (l := r)
    split <;> simp <;> omega
theorem adel_sub {k : κ} : ∀ {l : List (κ × β)}, (adel k l).Sublist l
  | [] => by simp [adel]
  | p :: r => by
    simp only [adel]
    split
    · exact List.sublist_cons_self ..
    · exact adel_sub.cons_cons p
theorem aget_set {k k' : κ} {v : β} : ∀ {l : List (κ × β)}, aget k' (aset k v l) = if k = k' then some v else aget k' l
  | [] => by simp [aset, aget]
  | p :: r => by
    simp only [aset]
    split
    · rename_i h
      simp only [aget, h]
      split <;> rfl
    · rename_i h
      simp only [aget, aget_set (l := r)]
      by_cases h1 : p.1 = k'
      · simp only [h1, if_true]
        rw [if_neg (fun e => h (h1.trans e.symm))]
      · simp only [h1, if_false]
theorem aget_none {k : κ} : ∀ {l : List (κ × β)}, aget k l = none ↔ k ∉ l.map (·.1)
  | [] => by simp [aget]
  | p :: r => by
    simp only [aget, List.map_cons, List.mem_cons, not_or]
    split
    · rename_i h; simp [h]
    · rename_i h; rw [aget_none (l := r)]; exact ⟨fun hh => ⟨fun e => h e.symm, hh⟩, fun hh => hh.2⟩
theorem aget_del {k k' : κ} : ∀ {l : List (κ × β)}, (l.map (·.1)).Nodup → aget k' (adel k l) = if k = k' then none else aget k' l
  | [], _ => by simp [adel, aget]
  | p :: r, hn => by
    simp only [List.map_cons, List.nodup_cons] at hn
    simp only [adel]
    split
    · rename_i h
      subst h
      simp only [aget]
      split
      · rename_i h; subst h; exact aget_none.2 hn.1
      · rfl
    · rename_i h
      simp only [aget, aget_del hn.2]
      by_cases h1 : p.1 = k'
      · simp only [h1, if_true]
        rw [if_neg (fun e => h (h1.trans e.symm))]
      · simp only [h1, if_false]
variable {ek : κ → T} {ev : β → T} (hinj : ∀ a b, ek a = ek b → a = b)
include hinj
theorem place_assoc {k : κ} : ∀ {l : List (κ × β)} {i : Nat}, (placeT (ek k) (l.map fun p => ek p.1) i = none ∧ k ∉ l.map (·.1)) ∨ ∃ (j : Nat) (p : κ × β), placeT (ek k) (l.map fun p => ek p.1) i = some (i + j) ∧ l[j]? = some p ∧ p.1 = k ∧ k ∉ (l.take j).map (·.1)
  | [], i => .inl ⟨rfl, by simp⟩
  | p :: r, i => by
    simp only [List.map_cons, placeT]
    by_cases h : p.1 = k
    · subst h
      exact .inr ⟨0, p, by simp, rfl, rfl, by simp⟩
    · have h' : ¬ ek k = ek p.1 := fun e => h (hinj _ _ e).symm
      rw [if_neg h']
      rcases place_assoc (k := k) (l := r) (i := i + 1) with ⟨h1, h2⟩ | ⟨j, q, h1, h2, h3, h4⟩
      · exact .inl ⟨h1, by simp only [List.mem_cons, not_or]; exact ⟨fun e => h e.symm, h2⟩⟩
      · refine .inr ⟨j + 1, q, by rw [h1]; congr 1; omega, by simpa using h2, h3, ?_⟩
        simp only [List.take_succ_cons, List.map_cons, List.mem_cons, not_or]
        exact ⟨fun e => h e.symm, h4⟩
omit hinj in
theorem aset_at {k : κ} {v : β} : ∀ {l : List (κ × β)} {j : Nat} {p : κ × β}, l[j]? = some p → p.1 = k → k ∉ (l.take j).map (·.1) → aset k v l = l.set j (k, v)
  | [], j, p, h, _, _ => by simp at h
  | q :: r, 0, p, h, hk, _ => by simp at h; subst h; simp [aset, hk]
  | q :: r, j + 1, p, h, hk, hn => by
    simp only [List.getElem?_cons_succ] at h
    simp only [List.take_succ_cons, List.map_cons, List.mem_cons, not_or] at hn
    simp only [aset, List.set_cons_succ]
    rw [if_neg (fun e => hn.1 e.symm), aset_at h hk hn.2]
omit hinj in
theorem aset_new {k : κ} {v : β} : ∀ {l : List (κ × β)}, k ∉ l.map (·.1) → aset k v l = l ++ [(k, v)]
  | [], _ => rfl
  | q :: r, hn => by
    simp only [List.map_cons, List.mem_cons, not_or] at hn
    simp only [aset, List.cons_append]
    rw [if_neg (fun e => hn.1 e.symm), aset_new hn.2]
omit hinj in
theorem adel_new {k : κ} : ∀ {l : List (κ × β)}, k ∉ l.map (·.1) → adel k l = l
  | [], _ => rfl
  | q :: r, hn => by
    simp only [List.map_cons, List.mem_cons, not_or] at hn
    simp only [adel]
    rw [if_neg (fun e => hn.1 e.symm), adel_new hn.2]
theorem upd_assoc {k : κ} {v : β} {l : List (κ × β)} : updK (l.map fun p => ek p.1) (ek k) = (aset k v l).map (fun p => ek p.1) ∧ updV (l.map fun p => ek p.1) (l.map fun p => ev p.2) (ek k) (ev v) = (aset k v l).map fun p => ev p.2 := by
  unfold updK updV
  rcases place_assoc hinj (k := k) (l := l) (i := 0) with ⟨h1, h2⟩ | ⟨j, p, h1, h2, h3, h4⟩
  · rw [h1, aset_new h2]; simp
  · rw [h1, aset_at h2 h3 h4]
    simp only [Nat.zero_add, List.map_set, and_true]
    refine List.ext_getElem? fun i => ?_
    rw [List.getElem?_set]
    split
    · rename_i hi
      subst hi
      have := (List.getElem?_eq_some_iff.1 h2).1
      rw [List.getElem?_map, h2]
      simp [h3, this]
    · rfl
omit hinj in
theorem aget_in {k : κ} {v : β} : ∀ {l : List (κ × β)}, aget k l = some v → (k, v) ∈ l
  | [], h => by cases h
  | p :: r, h => by
    unfold aget at h
    split at h
    · rename_i e
      cases h
      exact List.mem_cons.2 (.inl (by rw [← e]))
    · exact List.mem_cons_of_mem _ (aget_in h)
omit hinj in
theorem aget_at {k : κ} : ∀ {l : List (κ × β)} {i : Nat} {p : κ × β}, (l.map (·.1)).Nodup → l[i]? = some p → p.1 = k → aget k l = some p.2
  | [], i, p, _, h, _ => by simp at h
  | q :: r, 0, p, _, h, hk => by simp at h; subst h; simp [aget, hk]
  | q :: r, i + 1, p, hn, h, hk => by
    simp only [List.map_cons, List.nodup_cons] at hn
    simp only [List.getElem?_cons_succ] at h
    simp only [aget]
    rw [if_neg ?_, aget_at hn.2 h hk]
    rintro rfl
    exact hn.1 (hk ▸ List.mem_map_of_mem (List.mem_of_getElem? h))
omit hinj in
theorem aset_twice {k : κ} {v v' : β} : ∀ {l : List (κ × β)}, aset k v' (aset k v l) = aset k v' l
  | [] => by simp [aset]
  | q :: r => by
    by_cases h : q.1 = k
    · simp [aset, h]
    · simp [aset, h, aset_twice (l := r)]
omit hinj in
theorem aset_keys2 {k : κ} {v v' : β} {l : List (κ × β)} : (aset k v l).map (·.1) = (aset k v' l).map (·.1) := by rw [aset_keys, aset_keys]
theorem getV_assoc {k : κ} {z : β} {l : List (κ × β)} (hn : (l.map (·.1)).Nodup) : getV (l.map fun p => ek p.1) (l.map fun p => ev p.2) (ek k) (ev z) = some (ev ((aget k l).getD z)) := by
  unfold getV
  rcases place_assoc hinj (k := k) (l := l) (i := 0) with ⟨h1, h2⟩ | ⟨j, p, h1, h2, h3, h4⟩
  · rw [h1, aget_none.2 h2]; rfl
  · rw [h1, aget_at hn h2 h3]
    simp only [Nat.zero_add]
    rw [List.getElem?_map, h2]
    rfl
theorem look_assoc {s : Bool × List Lay} {z : Value} {k : κ} {ok : Bool} {kd : Kind} {K : AV → Prop} {l : List (κ × β)} (hn : (l.map (·.1)).Nodup) (hk : ∀ p ∈ l, isKey s (ek p.1)) (h1 : ∀ v, aget k l = some v → K (if ok = true then .tp [kd.look (ev v), .t (.b true)] else kd.look (ev v))) (h2 : aget k l = none → K (if ok = true then .tp [ofV z, .t (.b false)] else ofV z)) :
    lookM s z (ek k) ok kd (l.map fun p => ek p.1) (l.map fun p => ev p.2) K := by
  refine ⟨?_, fun i v hi hv => ?_, fun hh => h2 (aget_none.2 fun hm => hh ?_)⟩
  · intro y hy
    obtain ⟨p, hp, rfl⟩ := List.mem_map.1 hy
    exact hk p hp
  · rw [List.getElem?_map, Option.map_eq_some_iff] at hi hv
    obtain ⟨p, hp, hpk⟩ := hi
    obtain ⟨q, hq, rfl⟩ := hv
    rw [hp] at hq
    cases hq
    exact h1 p.2 (aget_at hn hp (hinj _ _ hpk))
  · obtain ⟨p, hp, rfl⟩ := List.mem_map.1 hm
    exact List.mem_map.2 ⟨p, hp, rfl⟩
end
end Go.Proofs.Ytmgdkkhnjkepiaa.BX
namespace Go.Proofs.Ytmgdkkhnjkepiaa.BX
set_option linter.unusedSectionVars false
set_option linter.unusedSimpArgs false
set_option linter.unusedVariables false
open Go Go.RowKit Go.ChangeShapes Go.WideShapes
mutual
def T.mx : T → Nat
  | .s x => x.length
  | .ag cs => mxs cs
  | .sl es => max es.length (mxs es)
  | _ => 0
def mxs : List T → Nat
  | [] => 0
  | x :: xs => max x.mx (mxs xs)
end
mutual
def T.wfi : T → Bool
  | .i k n => (Lit.int k n).wf
  | .ag cs => wfis cs
  | .sl es => wfis es
  | _ => true
def wfis : List T → Bool
  | [] => true
  | x :: xs => x.wfi && wfis xs
end
mutual
theorem mx_le_wt : ∀ x : T, x.mx ≤ x.wt
  | .s x => Nat.le_refl _
  | .ag cs => by simpa only [T.mx, T.wt] using mxs_le_wts cs
  | .sl es => by simp only [T.mx, T.wt]; have := mxs_le_wts es; omega
  | .b _ | .i _ _ | .tp _ | .po _ _ | .np | .nm | .ni | .ifc _ _ | .mp _ _ | .fn _ _ => by simp [T.mx]
theorem mxs_le_wts : ∀ xs : List T, mxs xs ≤ wts xs
  | [] => by simp [mxs]
  | x :: xs => by simp only [mxs, wts]; have := mx_le_wt x; have := mxs_le_wts xs; omega
end
theorem mx_of {x : T} {n : Nat} (h : x.wt ≤ n) : x.mx ≤ n := Nat.le_trans (mx_le_wt x) h
theorem mxs_nil {n : Nat} : mxs [] ≤ n := Nat.zero_le _
theorem mxs_cons {x : T} {xs : List T} {n : Nat} (h : x.mx ≤ n) (k : mxs xs ≤ n) : mxs (x :: xs) ≤ n := by simp only [mxs]; omega
@[reducible] def big : Bd := ⟨9223372036854775808, by omega, by omega, False⟩
@[reducible] def small : Bd := ⟨2147483648, by omega, by omega, False⟩
def Sees (w : World) (x : T) (v : Value) (L : List Nat) : Prop := x.mx < 9223372036854775808 ∧ x.wfi = true ∧ (∀ bd : Bd, x.mx < bd.B → @footT bd w x v L) ∧ ∀ b ∈ L, b < w.heap.size
def SeesL (w : World) (xs : List T) (vs : List Value) (L : List Nat) : Prop := mxs xs < 9223372036854775808 ∧ wfis xs = true ∧ (∀ bd : Bd, mxs xs < bd.B → @footTs bd w xs vs L) ∧ ∀ b ∈ L, b < w.heap.size
theorem SeesL.nil (w : World) : SeesL w [] [] [] := ⟨by simp [mxs], rfl, fun bd _ => by simp [footTs], by simp⟩
theorem SeesL.cons {w : World} {x : T} {xs : List T} {v : Value} {vs : List Value} {L M : List Nat} (h : Sees w x v L) (k : SeesL w xs vs M) : SeesL w (x :: xs) (v :: vs) (L ++ M) := by
  obtain ⟨h1, h2, h3, h4⟩ := h
  obtain ⟨k1, k2, k3, k4⟩ := k
  refine ⟨by simp only [mxs]; omega, by simp only [wfis, h2, k2, Bool.and_self], fun bd hb => ?_, fun b hb => (List.mem_append.1 hb).elim (h4 b) (k4 b)⟩
  simp only [mxs] at hb
  simp only [footTs]
  exact ⟨v, vs, L, M, rfl, rfl, h3 bd (by omega), k3 bd (by omega)⟩
theorem SeesL.append {w : World} {ys : List T} {us : List Value} {M : List Nat} (k : SeesL w ys us M) : ∀ {xs : List T} {vs : List Value} {L : List Nat}, SeesL w xs vs L → SeesL w (xs ++ ys) (vs ++ us) (L ++ M) := by
  have hmx : ∀ xs : List T, mxs (xs ++ ys) = max (mxs xs) (mxs ys) := by
    intro xs
    induction xs with
    | nil => simp [mxs]
    | cons x xs ih => simp only [List.cons_append, mxs, ih]; omega
  have hwf : ∀ xs : List T, wfis (xs ++ ys) = (wfis xs && wfis ys) := by
    intro xs
    induction xs with
    | nil => simp [wfis]
    | cons x xs ih => simp only [List.cons_append, wfis, ih, Bool.and_assoc]
  intro xs vs L h
  obtain ⟨h1, h2, h3, h4⟩ := h
  obtain ⟨k1, k2, k3, k4⟩ := k
  refine ⟨by rw [hmx]; omega, by rw [hwf, h2, k2]; rfl, fun bd hb => ?_, fun b hb => (List.mem_append.1 hb).elim (h4 b) (k4 b)⟩
  rw [hmx] at hb
  exact @footTs_append bd _ _ _ _ _ _ _ (h3 bd (by omega)) (k3 bd (by omega))
theorem SeesL.of {w : World} {α : Type} {h : α → T} : ∀ (l : List (α × Value × List Nat)), (∀ p ∈ l, Sees w (h p.1) p.2.1 p.2.2) → SeesL w (l.map fun p => h p.1) (l.map fun p => p.2.1) (l.flatMap fun p => p.2.2)
  | [], _ => .nil w
  | p :: l, hp => by
    simp only [List.map_cons, List.flatMap_cons]
    exact .cons (hp p (List.mem_cons_self ..)) (SeesL.of l fun q hq => hp q (List.mem_cons_of_mem _ hq))
theorem Sees.cells {w : World} {x : T} {v : Value} {L : List Nat} (h : Sees w x v L) : ∃ L', SeesL w x.cells v.cells.toList L' := by
  obtain ⟨h1, h2, h3, h4⟩ := h
  have hb := h3 big h1
  have one : v.cells = #[v] → x.cells = [x] → ∃ L', SeesL w x.cells v.cells.toList L' := by
    intro e1 e2
    rw [e1, e2]
    exact ⟨L ++ [], SeesL.cons ⟨h1, h2, h3, h4⟩ (SeesL.nil w)⟩
  cases x with
  | ag cs =>
    refine ⟨L, h1, h2, fun bd hbd => ?_, h4⟩
    have := h3 bd hbd
    simp only [footT] at this
    obtain ⟨vs, rfl, h⟩ := this
    simpa [Value.cells, T.cells] using h
  | b => simp only [footT] at hb; obtain ⟨rfl, _⟩ := hb; exact one rfl rfl
  | i => simp only [footT] at hb; obtain ⟨rfl, _⟩ := hb; exact one rfl rfl
  | s => simp only [footT] at hb; obtain ⟨rfl, _⟩ := hb; exact one rfl rfl
  | np => simp only [footT] at hb; obtain ⟨rfl, _⟩ := hb; exact one rfl rfl
  | nm => simp only [footT] at hb; obtain ⟨rfl, _⟩ := hb; exact one rfl rfl
  | ni => simp only [footT] at hb; obtain ⟨rfl, _⟩ := hb; exact one rfl rfl
  | tp cs => simp only [footT] at hb; obtain ⟨_, rfl, _⟩ := hb; exact one rfl rfl
  | sl es => simp only [footT] at hb; obtain ⟨_, _, rfl, _⟩ := hb; exact one rfl rfl
  | po => simp only [footT] at hb; obtain ⟨_, _, _, _, rfl, _⟩ := hb; exact one rfl rfl
  | ifc => simp only [footT] at hb; obtain ⟨_, rfl, _⟩ := hb; exact one rfl rfl
  | mp => simp only [footT] at hb; obtain ⟨_, _, _, _, _, _, rfl, _⟩ := hb; exact one rfl rfl
  | fn => simp only [footT] at hb; obtain ⟨_, rfl, _⟩ := hb; exact one rfl rfl
def Reads (P : Program) (t : TypeId) {α : Type} (g : α → T) : Prop :=
  ∀ {H : Type} (enc : TypeId × Value → H) (w : World) (base : Nat) (spare : Nat → Bool) (held : Bool) (fuel : Nat) (cs : List Value) (x : DataW H × List MemPlace), DataW.trod enc P w base spare held fuel t cs = some x →
    ∃ (a : α) (v : Value) (L : List Nat), v.cells.toList = cs ∧ ones cs ∧ Sees w (g a) v L
section
variable {P : Program} {t : TypeId}
theorem Reads.map {α β : Type} {g : α → T} {g' : β → T} (h : Reads P t g) (k : ∀ a, ∃ b, g a = g' b) : Reads P t g' := by
  intro H enc w base spare held fuel cs x hx
  obtain ⟨a, v, L, h1, h2, h3⟩ := h enc w base spare held fuel cs x hx
  obtain ⟨b, hb⟩ := k a
  exact ⟨b, v, L, h1, h2, hb ▸ h3⟩
theorem Reads.str (ht : P.underlying t = some .string) : Reads P t T.s := by
  intro H enc w base spare held fuel cs x hx
  obtain ⟨s, rfl, _, hw⟩ := DataW.trod_string ht hx
  have hl : s.data.toList.length ≤ 9223372036854775807 := by
    have : s.size = s.data.toList.length := by cases s; simp [ByteArray.size]
    rw [← this]
    exact hw
  refine ⟨s.data.toList, .string s, [], rfl, by simp [ones, Value.oneCell'], by simp only [T.mx]; omega, rfl, fun bd hb => ?_, by simp⟩
  simp only [footT]
  exact ⟨by cases s; first | rfl | trivial, trivial, hb⟩
theorem choose_list {β : Type} {R : Nat → β → Prop} : ∀ (n : Nat), (∀ i, i < n → ∃ b, R i b) → ∃ l : List β, l.length = n ∧ ∀ (i : Nat) (b : β), l[i]? = some b → R i b
  | 0, _ => ⟨[], rfl, by simp⟩
  | n + 1, h => by
    obtain ⟨l, h1, h2⟩ := choose_list n fun i hi => h i (by omega)
    obtain ⟨b, hb⟩ := h n (by omega)
    refine ⟨l ++ [b], by simp [h1], fun i c hc => ?_⟩
    rcases @app_get big _ _ _ _ _ hc with ⟨_, hc⟩ | ⟨hi, rfl⟩
    · exact h2 i c hc
    · rw [hi, h1]; exact hb
theorem laid_chunks {w : World} {b m : Nat} : ∀ (vs : List Value) (off : Nat), (∀ (i : Nat) (v : Value), vs[i]? = some v → v.cells.size = m ∧ ∀ k, k < m → w.cell? ⟨b, off + i * m + k, none⟩ = v.cells[k]?) → laid w b off (cellsL vs)
  | [], _, _ => by intro j v hj; simp [cellsL] at hj
  | v :: vs, off, h => by
    intro j u hj
    obtain ⟨h1, h2⟩ := h 0 v (by simp)
    simp only [cellsL, List.flatMap_cons] at hj
    rcases Nat.lt_or_ge j m with hjm | hjm
    · rw [List.getElem?_append_left (by simpa [h1] using hjm)] at hj
      have := h2 j hjm
      rw [Nat.zero_mul, Nat.add_zero] at this
      rw [this]
      simpa using hj
    · rw [List.getElem?_append_right (by simpa [h1] using hjm)] at hj
      have ih := laid_chunks vs (off + m) (fun i v hv => ⟨(h (i + 1) v (by simpa using hv)).1, fun k hk => by
        have := (h (i + 1) v (by simpa using hv)).2 k hk
        rwa [Nat.succ_mul, show off + (i * m + m) + k = off + m + i * m + k by omega] at this⟩) (j - m) u (by simpa [h1, cellsL] using hj)
      rwa [show off + m + (j - m) = off + j by omega] at ih
theorem cells?_get {w : World} {base n : Nat} {a : Addr} {cs : List Value} (h : w.cells? base a n = some cs) : cs.length = n ∧ ∀ i, i < n → w.cell? (a.add i) = cs[i]? := by
  unfold World.cells? at h
  split at h
  · exact ⟨by simpa using mapM_some_length h, fun i hi => mapM_some_get h i i (by simp [hi])⟩
  · cases h
theorem cell_lt {w : World} {a : Addr} {v : Value} (h : w.cell? a = some v) : a.block < w.heap.size := by
  unfold World.cell? at h
  rcases Nat.lt_or_ge a.block w.heap.size with h' | h'
  · exact h'
  · rw [Array.getElem?_eq_none h'] at h; cases h
theorem ones_flat {α : Type} {f : α → Value} {l : List α} (h : ∀ a ∈ l, ones (f a).cells.toList) : ones (cellsL (l.map f)) := by
  intro u hu
  simp only [cellsL, List.mem_flatMap, List.mem_map] at hu
  obtain ⟨v, ⟨a, ha, rfl⟩, hv⟩ := hu
  exact h a ha u hv
theorem Reads.slice {e : TypeId} {α : Type} {h : α → T} (ht : P.underlying t = some (.slice e)) (hm : 0 < P.cellsOf e) (he : Reads P e h) : Reads P t fun xs : List α => .sl (xs.map h) := by
  intro H enc w base spare held fuel cs x hx
  have nil : ∀ A c, ∃ L, Sees w (.sl (([] : List α).map h)) (.slice A 0 c) L := fun A c => ⟨[], by simp [T.mx, mxs], rfl, fun bd _ => by
    simp only [List.map_nil, footT]
    exact ⟨A, c, rfl, by simp, by have := bd.lo; simp; omega, .inl ⟨trivial, trivial⟩⟩, by simp⟩
  rcases DataW.trod_slice ht hx with ⟨rfl, _⟩ | ⟨a, len, cap, elems, rest, n, rfl, rfl, _, hb, hle, hcap, hlen, hel, _, _⟩
  · obtain ⟨L, hL⟩ := nil none 0
    exact ⟨[], .slice none 0 0, L, rfl, by simp [ones, Value.oneCell'], hL⟩
  by_cases h0 : len = 0
  · subst h0
    obtain ⟨L, hL⟩ := nil (some a) cap
    exact ⟨[], .slice (some a) 0 cap, L, rfl, by simp [ones, Value.oneCell'], hL⟩
  obtain ⟨b, off, spot⟩ := a
  have get : ∀ i, i < len → ∃ p : α × Value × List Nat, (p.2.1.cells.toList.length = P.cellsOf e ∧ ones p.2.1.cells.toList ∧ ∀ k, k < P.cellsOf e → w.cell? (((⟨b, off, spot⟩ : Addr).add (i * P.cellsOf e)).add k) = p.2.1.cells[k]?) ∧ Sees w (h p.1) p.2.1 p.2.2 := by
    intro i hi
    have hi' := hel i hi
    rw [List.getElem?_eq_getElem (by omega)] at hi'
    obtain ⟨cs', q1, q2⟩ := Option.bind_eq_some_iff.1 hi'
    obtain ⟨a', v, L, r1, r2, r3⟩ := he enc w base spare held n cs' _ q2
    obtain ⟨s1, s2⟩ := cells?_get q1
    refine ⟨(a', v, L), ⟨by simp only [r1, s1], by simpa only [r1] using r2, fun k hk => ?_⟩, r3⟩
    rw [s2 k hk, ← r1]
    simp
  have hspot : spot = none := by
    obtain ⟨p, ⟨h1, _, h2⟩, _⟩ := get 0 (by omega)
    have g0 := h2 0 hm
    rw [Array.getElem?_eq_getElem (by rw [← Array.length_toList]; omega)] at g0
    have := World.cell?_spot g0
    simpa [Addr.add] using this
  subst hspot
  obtain ⟨l, hl1, hl2⟩ := choose_list len get
  have hmem : ∀ p ∈ l, (p.2.1.cells.toList.length = P.cellsOf e ∧ ones p.2.1.cells.toList) ∧ Sees w (h p.1) p.2.1 p.2.2 := by
    intro p hp
    obtain ⟨i, hi⟩ := List.getElem?_of_mem hp
    obtain ⟨⟨h1, h2, _⟩, h3⟩ := hl2 i p hi
    exact ⟨⟨h1, h2⟩, h3⟩
  obtain ⟨k1, k2, k3, k4⟩ := SeesL.of (h := h) l fun p hp => (hmem p hp).2
  have hbl : b < w.heap.size := by
    obtain ⟨p, ⟨h1, _, h2⟩, _⟩ := get 0 (by omega)
    have g0 := h2 0 hm
    rw [Array.getElem?_eq_getElem (by rw [← Array.length_toList]; omega)] at g0
    have := cell_lt g0
    simpa [Addr.add] using this
  have hlen2 : len ≤ 9223372036854775807 := Nat.le_trans hle hcap
  refine ⟨l.map (·.1), .slice (some ⟨b, off, none⟩) len cap, b :: l.flatMap (fun p => p.2.2), rfl, by simp [ones, Value.oneCell'], ?_, ?_, fun bd hbd => ?_, fun c hc => ?_⟩
  · simp only [T.mx, List.map_map, List.length_map, hl1]
    simp only [Function.comp_def]
    omega
  · simp only [T.wfi, List.map_map, Function.comp_def]; exact k2
  · simp only [T.mx, List.map_map, List.length_map, hl1, Function.comp_def] at hbd
    have kk := k3 bd (by omega)
    simp only [footT, List.map_map, List.length_map, hl1, Function.comp_def]
    refine ⟨some ⟨b, off, none⟩, cap, rfl, hle, by omega, .inr ⟨b, off, l.map (fun p => p.2.1), _, P.cellsOf e, rfl, kk, fun v hv => ?_, rfl, laid_chunks (m := P.cellsOf e) _ _ fun i v hv => ?_, ones_flat fun p hp => (hmem p hp).1.2⟩⟩
    · obtain ⟨p, hp, rfl⟩ := List.mem_map.1 hv
      simpa using (hmem p hp).1.1
    · rw [List.getElem?_map, Option.map_eq_some_iff] at hv
      obtain ⟨p, hp, rfl⟩ := hv
      obtain ⟨⟨h1, _, h2⟩, _⟩ := hl2 i p hp
      refine ⟨by simpa using h1, fun k hk => ?_⟩
      have := h2 k hk
      rwa [add_plain, add_plain] at this
  · rcases List.mem_cons.1 hc with rfl | hc
    · exact hbl
    · exact k4 c hc
def fieldsAt (P : Program) (t : TypeId) : List (TypeId × Nat) := match P.underlying t with
  | some (.struct fs) => fs.toList.map fun f => (f.type, f.offset)
  | _ => []
def ReadsF (P : Program) (N : Nat) (fs : List (TypeId × Nat)) (k : Nat) {α : Type} (g : α → List T) : Prop :=
  ∀ {H : Type} (enc : TypeId × Value → H) (w : World) (base : Nat) (spare : Nat → Bool) (held : Bool) (fuel : Nat) (cs : List Value), cs.length = N →
    (∀ f ∈ fs, ∃ x, DataW.trod enc P w base spare held fuel f.1 ((cs.drop f.2).take (P.cellsOf f.1)) = some x) → ∃ a L, ones (cs.drop k) ∧ SeesL w (g a) (cs.drop k) L
theorem ReadsF.nil {N : Nat} : ReadsF P N [] N fun _ : Unit => [] := by
  intro H enc w base spare held fuel cs hcs _
  refine ⟨(), [], ?_⟩
  rw [List.drop_eq_nil_of_le (by omega)]
  exact ⟨by simp [ones], .nil w⟩
theorem ReadsF.cons {N k : Nat} {e : TypeId} {fs : List (TypeId × Nat)} {α β : Type} {h : α → T} {g : β → List T} (m : Nat) (hm : P.cellsOf e = m) (he : Reads P e h) (hf : ReadsF P N fs (k + m) g) : ReadsF P N ((e, k) :: fs) k fun p : α × β => (h p.1).cells ++ g p.2 := by
  intro H enc w base spare held fuel cs hcs hx
  obtain ⟨x, hx0⟩ := hx (e, k) (List.mem_cons_self ..)
  obtain ⟨a, v, L, h1, h2, h3⟩ := he enc w base spare held fuel _ x hx0
  obtain ⟨b, M, k1, k2⟩ := hf enc w base spare held fuel cs hcs fun f hf => hx f (List.mem_cons_of_mem _ hf)
  obtain ⟨L', hL⟩ := h3.cells
  dsimp only at h1 h2
  rw [hm] at h1 h2
  rw [h1] at hL
  have hsp : cs.drop k = (cs.drop k).take m ++ cs.drop (k + m) := by
    rw [← List.drop_drop, List.take_append_drop]
  refine ⟨(a, b), L' ++ M, ?_, ?_⟩
  · rw [hsp]
    intro u hu
    exact (List.mem_append.1 hu).elim (h2 u) (k1 u)
  · rw [hsp]
    exact SeesL.append k2 hL
theorem Reads.struct {fs : List (TypeId × Nat)} {α : Type} {g : α → List T} {N : Nat} (hN : P.cellsOf t = N) (h0 : fs ≠ []) (ht : fieldsAt P t = fs) (hf : ReadsF P N fs 0 g) : Reads P t fun a => .ag (g a) := by
  intro H enc w base spare held fuel cs x hx
  unfold fieldsAt at ht
  split at ht
  case h_2 => exact absurd ht.symm h0
  rename_i fs' hu
  obtain ⟨xs, n, rfl, _, hl, hxl, hxs⟩ := DataW.trod_struct hu hx
  obtain ⟨a, L, h1, h2⟩ := hf enc w base spare held n cs (by rw [hl, hN]) fun f hf => by
    rw [← ht, List.mem_map] at hf
    obtain ⟨f', hf', rfl⟩ := hf
    obtain ⟨i, hi⟩ := List.getElem?_of_mem hf'
    rw [Array.getElem?_toList] at hi
    have hil : i < xs.length := by rw [hxl]; exact (Array.getElem?_eq_some_iff.1 hi).1
    refine ⟨xs[i], ?_⟩
    rw [← List.getElem?_eq_getElem hil]
    exact hxs i f' hi
  rw [List.drop_zero] at h1 h2
  obtain ⟨k1, k2, k3, k4⟩ := h2
  refine ⟨a, .agg cs.toArray, L, by simp [Value.cells], h1, k1, k2, fun bd hb => ?_, k4⟩
  simp only [footT]
  exact ⟨cs, rfl, k3 bd hb⟩
def ArrT (P : Program) (t : TypeId) {α : Type} (g : α → T) : Prop :=
  ∀ {H : Type} {enc : TypeId × Value → H} {W : World} {r : Reach} {b0 base : Nat} {spare : Nat → Bool} {held : Bool} {v : Value} {d : DataW H} {p : List MemPlace}, Value.okWide P W r b0 t v → DataW.Trod enc P W base spare held t v d p → ∃ a L, Sees W (g a) v L
theorem same_val {v v' : Value} (h : v.cells.toList = v'.cells.toList) (h1 : v.oneCell' = true) (h2 : v'.oneCell' = true) : v = v' := by
  rw [@cells_of_one big _ h1, @cells_of_one big _ h2] at h
  simpa using h
theorem ArrT.of_one {α : Type} {g : α → T} (hr : Reads P t g) (hg : ∀ a, (g a).one = true) (hv : ∀ {W : World} {r : Reach} {b0 : Nat} {v : Value}, Value.okWide P W r b0 t v → v.oneCell' = true) : ArrT P t g := by
  intro H enc W r b0 base spare held v d p hval hd
  obtain ⟨fuel, hf⟩ := hd
  obtain ⟨a, v', L, h1, h2, h3⟩ := hr enc W base spare held fuel _ _ hf
  have hv' : v'.oneCell' = true := by
    have h3' := h3.2.2.1 big h3.1
    have hga := hg a
    generalize g a = x at h3' hga
    cases x <;> first | (simp [T.one] at hga; done) | skip
    all_goals (simp only [footT] at h3')
    case b => obtain ⟨rfl, _⟩ := h3'; rfl
    case i => obtain ⟨rfl, _⟩ := h3'; rfl
    case s => obtain ⟨rfl, _⟩ := h3'; rfl
    case np => obtain ⟨rfl, _⟩ := h3'; rfl
    case nm => obtain ⟨rfl, _⟩ := h3'; rfl
    case ni => obtain ⟨rfl, _⟩ := h3'; rfl
    case sl => obtain ⟨_, _, rfl, _⟩ := h3'; rfl
    case po => obtain ⟨_, _, _, _, rfl, _⟩ := h3'; rfl
    case ifc => obtain ⟨_, rfl, _⟩ := h3'; rfl
    case mp => obtain ⟨_, _, _, _, _, _, rfl, _⟩ := h3'; rfl
    case fn => obtain ⟨_, rfl, _⟩ := h3'; rfl
  exact ⟨a, L, same_val h1.symm (hv hval) hv' ▸ h3⟩
theorem ArrT.slice {e : TypeId} {α : Type} {h : α → T} (ht : P.underlying t = some (.slice e)) (hr : Reads P t fun xs : List α => .sl (xs.map h)) : ArrT P t fun xs : List α => .sl (xs.map h) := ArrT.of_one hr (fun _ => rfl) fun h => by obtain ⟨_, _, _, rfl⟩ := okWide_slice ht h; rfl
end
theorem Con.below [Bd] {P : Program} {f : FuncId} {ts : List T} (h : Con P f ts (.t (.b true)) []) {w : World} {vs : List Value} {L : List Nat} (hf : footTs w ts vs L) (hL : ∀ b ∈ L, b < w.heap.size) :
    Calls P f vs.toArray w fun e w' => e = .returned (.bool true) ∧ Below w.heap.size w w' := by
  have hS : ∀ b, b ∈ L → b < w.heap.size := hL
  have hlen : vs.length = ts.length := footTs_length hf
  have hnum : ∀ (xs : List T) (k t : Nat), getL (numA k (xs.map .t)) t = .un ∨ ∃ i x, t = k + i ∧ xs[i]? = some x ∧ getL (numA k (xs.map .t)) t = .t x := by
    intro xs
    induction xs with
    | nil => intro k t; exact .inl rfl
    | cons x xs ih =>
      intro k t
      simp only [List.map_cons, numA, getL]
      by_cases hk : t = k
      · subst hk
        exact .inr ⟨0, x, by omega, rfl, by simp⟩
      · simp only [hk, if_false]
        rcases ih (k + 1) t with h1 | ⟨i, y, h1, h2, h3⟩
        · exact .inl h1
        · exact .inr ⟨i + 1, y, by omega, by simpa using h2, h3⟩
  have hr : Rel ⟨w, fun b => b ∈ L, fun _ => False, ([] : List Ob).length, fun _ => .nilIface⟩ ⟨(ts.map AV.t).length, numA 0 (ts.map .t), []⟩ ⟨fun _ => .nilIface, fun b => b ∈ L⟩ (fun b => b ∈ L) (fun _ => []) ⟨vs.toArray, []⟩ w := by
    refine { size := by simp [hlen], defs := rfl, tm := fun t => ?_, utm := fun t => ?_, ob := fun id o hid => by simp at hid, uob := fun id o hid => by simp at hid, root := fun id o hid => by simp at hid, sep := fun i j oi oj _ hi => by simp at hi, SB := fun b hb => hb, Blt := fun b hb => hL b hb, Bin := fun b hb => .inl hb, fown := fun id o hid => by simp at hid, fsep := fun i j oi oj _ hi => by simp at hi, below := But.refl _ _ _, one := fun _ => rfl, an := Nat.le_refl _, av := fun i _ => rfl }
    · rcases hnum ts 0 t with h1 | ⟨i, x, h1, h2, h3⟩
      · rw [h1]; exact ⟨[], by simp [footA], by simp⟩
      · rw [h3]
        obtain ⟨v, L', q1, q2, q3⟩ := footTs_get hf h2
        refine ⟨L', ?_, q3⟩
        simp only [footA]
        have : (Act.tmps ⟨vs.toArray, []⟩).getD t undef = v := by
          rw [show t = i by omega]
          simp [q1]
        rw [this]; exact q2
    · rcases hnum ts 0 t with h1 | ⟨i, x, h1, h2, h3⟩
      · rw [h1]; rfl
      · rw [h3]; rfl
  refine (h.2 w (fun b => b ∈ L) (fun _ => False) vs ⟨fun _ => .nilIface, fun b => b ∈ L⟩ _ _ hr).mono fun e w' hh => ?_
  obtain ⟨v, hv', S', F', L', rfl, h1, h2, _⟩ := hh
  simp only [footA, footT] at h2
  obtain ⟨rfl, _⟩ := h2
  exact ⟨rfl, h1.below.os, h1.below.tape, h1.below.output, h1.below.size, fun k hk => h1.below.block k hk (fun h => h)⟩
theorem trodAll_stays {H : Type} {enc : TypeId × Value → H} {P : Program} (hl : laidOutB P = true) {W W' : World} (hb : Below W.heap.size W W') : ∀ {ts : List TypeId} {vs : List Value} {ds : List (DataW H)} {ps : List MemPlace}, (ts.all fun t => P.readableRec t && decide (t < P.types.size)) = true →
    DataW.TrodAll enc P W 0 (fun _ => true) true ts vs ds ps → (∀ x ∈ ps, x.block < W.heap.size) → DataW.TrodAll enc P W' 0 (fun b => decide (b < W.heap.size)) true ts vs ds ps
  | [], _, _, _, _, h, _ => by
    obtain ⟨rfl, rfl, rfl⟩ := trodAll_nil h
    exact trodAll_mk0
  | t :: ts, _, _, _, ht, h, hlt => by
    obtain ⟨v, vs, d, ds, p, q, rfl, rfl, rfl, h1, h2⟩ := trodAll_cons h
    simp only [List.all_cons, Bool.and_eq_true, decide_eq_true_eq] at ht
    exact trodAll_cons_mk (Below.trod hl ht.1.1 ht.1.2 h1 hb fun x hx => hlt x (List.mem_append_left _ hx)) (trodAll_stays hl hb (by simpa using ht.2) h2 fun x hx => hlt x (List.mem_append_right _ hx))
theorem post_of_below {H : Type} {enc : TypeId × Value → H} {P : Program} {f : Func} {s : ChangeSpec} {tb : TypeId} {apart : Bool} {W W' : World} {args : Array Value} {ds gs : List (DataW H)} {before : List MemPlace}
    (hW : DataW.Whole enc P f.params.toList s.vars apart W args.toList ds gs before) (hv : s.vars = []) (hb : Below W.heap.size W W') (hl : laidOutB P = true) (ht : (f.params.toList.all fun t => P.readableRec t && decide (t < P.types.size)) = true)
    (hr : f.resultTypes = #[tb]) (htb : P.underlying tb = some .bool) (hfn : ∀ ds, gs = [] → ds.length = f.params.size → (s.fn H (ds ++ gs)).results = [.lit (.bool true)] ∧ (s.fn H (ds ++ gs)).args = ds ∧ (s.fn H (ds ++ gs)).vars = []) :
    s.post enc P f apart true false false W args (.bool true) W' := by
  have hlt := hW.lt
  have hW' := hW
  obtain ⟨p, q, h1, h2, rfl, h3, h4⟩ := hW
  rw [hv] at h2
  obtain ⟨rfl, rfl⟩ := trodVars_none h2
  have hlen : ∀ (ts : List TypeId) (vs : List Value) (ds : List (DataW H)) (p : List MemPlace), DataW.TrodAll enc P W 0 (fun _ => true) true ts vs ds p → ds.length = ts.length := by
    intro ts
    induction ts with
    | nil => intro vs ds p h; obtain ⟨_, rfl, _⟩ := trodAll_nil h; rfl
    | cons t ts ih => intro vs ds p h; obtain ⟨v, vs, d, ds, p, q, rfl, rfl, rfl, _, h2⟩ := trodAll_cons h; simp [ih _ _ _ h2]
  obtain ⟨e1, e2, e3⟩ := hfn ds rfl (by rw [hlen _ _ _ _ h1]; simp)
  simp only [List.append_nil] at hlt
  refine ⟨ds, [], p ++ [], [], p, [], hW', ?_, ?_, ?_, ?_, fun h => by cases h⟩
  · rw [e1, hr]
    exact trodAll_cons_mk (shut_bool htb _) trodAll_mk0
  · rw [e2]
    exact trodAll_stays hl hb ht h1 hlt
  · rw [e3, hv]; exact rfl
  · exact hb.frame _
end Go.Proofs.Ytmgdkkhnjkepiaa.BX
namespace Go.Proofs.Ytmgdkkhnjkepiaa.BX
set_option linter.unusedSectionVars false
set_option linter.unusedSimpArgs false
set_option linter.unusedVariables false
open Go Go.RowKit
set_option maxRecDepth 20000
set_option maxHeartbeats 400000
abbrev eIntS (xs : List Int) : T := .sl (xs.map (T.i .i64))
abbrev eStringS (xs : List (List UInt8)) : T := .sl (xs.map T.s)
structure Entry where
  typ : List UInt8
  key : List UInt8
  id : List UInt8
  deriving DecidableEq
def eEntry (x : Entry) : T := .ag [.s x.typ, .s x.key, .s x.id]
@[push_cast] theorem eEntry_len {x : Entry} : (eEntry x).cells.length = 3 := rfl
@[push_cast] theorem eEntry_isAg {x : Entry} : (eEntry x).isAg = true := rfl
@[push_cast] theorem eEntry_ones {x : Entry} : T.allOne (eEntry x).cells = true := rfl
@[push_cast] theorem eEntry_flat {x : Entry} : (eEntry x).flat = true := rfl
@[push_cast] theorem eEntry_fits {x : Entry} : fits (.ag [.leaf, .leaf, .leaf]) (eEntry x) = true := rfl
@[push_cast] theorem eEntry_one {x : Entry} : (eEntry x).one = false := rfl
abbrev eEntryS (xs : List Entry) : T := .sl (xs.map eEntry)
abbrev eEntrySS (xs : List (List Entry)) : T := .sl (xs.map eEntryS)
end Go.Proofs.Ytmgdkkhnjkepiaa.BX
namespace Go.Proofs.Ytmgdkkhnjkepiaa.BX
set_option linter.unusedSectionVars false
set_option linter.unusedSimpArgs false
set_option linter.unusedVariables false
open Go Go.RowKit
set_option maxRecDepth 20000
set_option maxHeartbeats 400000
variable [Bd]
theorem eqStringS (xs ys : List (List UInt8)) : Con P0 18 [eStringS xs, eStringS ys] (.t (.b (decide (xs = ys)))) [] := by
  refine Con.intro (fn := Try.f18) [.tmp 4] (fun i => if i = 6 then (9, []) else (0, [])) mixed (by kernel_rfl) rfl (by decide) rfl (by rfl) (by kernel_rfl) ?_
  simp -implicitDefEqProofs (maxSteps := 2000000) only [push_cast, Nat.reduceEqDiff, Nat.reduceLT, Nat.reduceLeDiff, Nat.reduceAdd, Nat.reduceMul, Nat.reduceSub, Nat.reduceBEq, ↓reduceIte, reduceCtorEq]
  intro _ _
  split
  · rename_i h
    exact congrArg T.b (decide_eq_false (fun e => h (by rw [e]))).symm
  · rename_i h
    have h : xs.length = ys.length := by omega
    refine WL.loop (ι := Nat) (D := (fun i => if i = 6 then (9, []) else (0, []))) (fun i => i ≤ xs.length ∧ xs.take i = ys.take i) (fun i => ⟨26, [(0, .t (eStringS xs)), (1, .t (eStringS ys)), (5, .t (.i .i64 i))], []⟩) (fun i => xs.length - i) mixed (by kernel_rfl) 0 ⟨by omega, by simp⟩ (Keep.wk (ids := []) ?_) ?_
    · simp only [push_cast, Nat.reduceEqDiff, Nat.reduceLT, Nat.reduceLeDiff, Nat.reduceAdd, Nat.reduceMul, Nat.reduceSub, Nat.reduceBEq, ↓reduceIte, reduceCtorEq] <;> rfl
    · rintro i ⟨h1, h2⟩
      simp -implicitDefEqProofs (maxSteps := 2000000) only [push_cast, Nat.reduceEqDiff, Nat.reduceLT, Nat.reduceLeDiff, Nat.reduceAdd, Nat.reduceMul, Nat.reduceSub, Nat.reduceBEq, ↓reduceIte, reduceCtorEq]
      intro hB
      have := Bd.hi
      split
      · rename_i hi
        refine ⟨by omega, ?_⟩
        rw [Int.toNat_natCast]
        intro a ha
        try dsimp only
        refine ⟨by omega, ?_⟩
        intro b hb
        try dsimp only
        split
        · rename_i hne
          exact congrArg T.b (decide_eq_false (fun e => absurd hne (by rw [e, hb] at ha; simp [Option.some.inj ha]))).symm
        · rename_i he
          have he : a = b := by simpa using he
          subst he
          refine ⟨by unfold inI64; omega, i + 1, ⟨by omega, ?_⟩, by omega, Keep.wk (ids := []) ?_⟩
          · rw [List.take_add_one, List.take_add_one, h2, ha, hb]
          · simp only [push_cast, Nat.reduceEqDiff, Nat.reduceLT, Nat.reduceLeDiff, Nat.reduceAdd, Nat.reduceMul, Nat.reduceSub, Nat.reduceBEq, ↓reduceIte, reduceCtorEq] <;> rfl
      · have hi : i = xs.length := by omega
        subst hi
        rw [List.take_length, h, List.take_length] at h2
        exact congrArg T.b (decide_eq_true h2).symm
theorem eqEntry (a b : Entry) : Con P0 54 [eEntry a, eEntry b] (.t (.b (decide (a = b)))) [] := by
  refine Con.intro (fn := Try.f54) [.tmp 4] (fun _ => (0, [])) mixed (by kernel_rfl) rfl (by decide) rfl (by rfl) (by kernel_rfl) ?_
  obtain ⟨a0, a1, a2⟩ := a
  obtain ⟨b0, b1, b2⟩ := b
  simp -implicitDefEqProofs (maxSteps := 2000000) only [push_cast, Nat.reduceEqDiff, Nat.reduceLT, Nat.reduceLeDiff, Nat.reduceAdd, Nat.reduceMul, Nat.reduceSub, Nat.reduceBEq, ↓reduceIte, reduceCtorEq, eEntry]
  split
  · simp_all
  rename_i h
  have h : a0 = b0 := by simpa using h
  subst h
  split
  · simp_all
  rename_i h
  have h : a1 = b1 := by simpa using h
  subst h
  split
  · simp_all
  rename_i h
  have h : a2 = b2 := by simpa using h
  subst h
  simp
theorem eqEntryS (xs ys : List Entry) : Con P0 17 [eEntryS xs, eEntryS ys] (.t (.b (decide (xs = ys)))) [] := by
  refine Con.intro (fn := Try.f17) [.tmp 4] (fun i => if i = 6 then (10, []) else (0, [])) mixed (by kernel_rfl) rfl (by decide) rfl (by rfl) (by kernel_rfl) ?_
  simp -implicitDefEqProofs (maxSteps := 2000000) only [push_cast, Nat.reduceEqDiff, Nat.reduceLT, Nat.reduceLeDiff, Nat.reduceAdd, Nat.reduceMul, Nat.reduceSub, Nat.reduceBEq, ↓reduceIte, reduceCtorEq]
  intro _ _
  split
  · rename_i h
    exact congrArg T.b (decide_eq_false (fun e => h (by rw [e]))).symm
  · rename_i h
    have h : xs.length = ys.length := by omega
    refine WL.loop (ι := Nat) (D := (fun i => if i = 6 then (10, []) else (0, []))) (fun i => i ≤ xs.length ∧ xs.take i = ys.take i) (fun i => ⟨27, [(0, .t (eEntryS xs)), (1, .t (eEntryS ys)), (5, .t (.i .i64 i))], []⟩) (fun i => xs.length - i) mixed (by kernel_rfl) 0 ⟨by omega, by simp⟩ (Keep.wk (ids := []) ?_) ?_
    · simp only [push_cast, Nat.reduceEqDiff, Nat.reduceLT, Nat.reduceLeDiff, Nat.reduceAdd, Nat.reduceMul, Nat.reduceSub, Nat.reduceBEq, ↓reduceIte, reduceCtorEq] <;> rfl
    · rintro i ⟨h1, h2⟩
      simp -implicitDefEqProofs (maxSteps := 2000000) only [push_cast, Nat.reduceEqDiff, Nat.reduceLT, Nat.reduceLeDiff, Nat.reduceAdd, Nat.reduceMul, Nat.reduceSub, Nat.reduceBEq, ↓reduceIte, reduceCtorEq, eEntry_len, eEntry_isAg, eEntry_ones, eEntry_flat, eEntry_one]
      intro hB
      have := Bd.hi
      split
      · rename_i hi
        refine ⟨by omega, ?_⟩
        rw [Int.toNat_natCast]
        intro a ha
        try dsimp only
        refine ⟨by omega, ?_⟩
        intro b hb
        refine CallV.t (eqEntry a b) (.inl rfl) ?_
        simp -implicitDefEqProofs (maxSteps := 2000000) only [push_cast, Nat.reduceEqDiff, Nat.reduceLT, Nat.reduceLeDiff, Nat.reduceAdd, Nat.reduceMul, Nat.reduceSub, Nat.reduceBEq, ↓reduceIte, reduceCtorEq, eEntry_len, eEntry_isAg, eEntry_ones, eEntry_flat, eEntry_one]
        split
        · rename_i hne
          exact congrArg T.b (decide_eq_false (fun e => absurd hne (by rw [e, hb] at ha; simp [Option.some.inj ha]))).symm
        · rename_i he
          have he : a = b := by simpa using he
          subst he
          refine ⟨by unfold inI64; omega, i + 1, ⟨by omega, ?_⟩, by omega, Keep.wk (ids := []) ?_⟩
          · rw [List.take_add_one, List.take_add_one, h2, ha, hb]
          · simp only [push_cast, Nat.reduceEqDiff, Nat.reduceLT, Nat.reduceLeDiff, Nat.reduceAdd, Nat.reduceMul, Nat.reduceSub, Nat.reduceBEq, ↓reduceIte, reduceCtorEq] <;> rfl
      · have hi : i = xs.length := by omega
        subst hi
        rw [List.take_length, h, List.take_length] at h2
        exact congrArg T.b (decide_eq_true h2).symm
theorem eqEntrySS (xs ys : List (List Entry)) : Con P0 19 [eEntrySS xs, eEntrySS ys] (.t (.b (decide (xs = ys)))) [] := by
  refine Con.intro (fn := Try.f19) [.tmp 4] (fun i => if i = 6 then (10, []) else (0, [])) mixed (by kernel_rfl) rfl (by decide) rfl (by rfl) (by kernel_rfl) ?_
  simp -implicitDefEqProofs (maxSteps := 2000000) only [push_cast, Nat.reduceEqDiff, Nat.reduceLT, Nat.reduceLeDiff, Nat.reduceAdd, Nat.reduceMul, Nat.reduceSub, Nat.reduceBEq, ↓reduceIte, reduceCtorEq]
  intro _ _
  split
  · rename_i h
    exact congrArg T.b (decide_eq_false (fun e => h (by rw [e]))).symm
  · rename_i h
    have h : xs.length = ys.length := by omega
    refine WL.loop (ι := Nat) (D := (fun i => if i = 6 then (10, []) else (0, []))) (fun i => i ≤ xs.length ∧ xs.take i = ys.take i) (fun i => ⟨27, [(0, .t (eEntrySS xs)), (1, .t (eEntrySS ys)), (5, .t (.i .i64 i))], []⟩) (fun i => xs.length - i) mixed (by kernel_rfl) 0 ⟨by omega, by simp⟩ (Keep.wk (ids := []) ?_) ?_
    · simp only [push_cast, Nat.reduceEqDiff, Nat.reduceLT, Nat.reduceLeDiff, Nat.reduceAdd, Nat.reduceMul, Nat.reduceSub, Nat.reduceBEq, ↓reduceIte, reduceCtorEq] <;> rfl
    · rintro i ⟨h1, h2⟩
      simp -implicitDefEqProofs (maxSteps := 2000000) only [push_cast, Nat.reduceEqDiff, Nat.reduceLT, Nat.reduceLeDiff, Nat.reduceAdd, Nat.reduceMul, Nat.reduceSub, Nat.reduceBEq, ↓reduceIte, reduceCtorEq]
      intro hB
      have := Bd.hi
      split
      · rename_i hi
        refine ⟨by omega, ?_⟩
        rw [Int.toNat_natCast]
        intro a ha
        try dsimp only
        refine ⟨by omega, fun b hb => CallV.t (eqEntryS a b) (.inl rfl) ?_⟩
        simp -implicitDefEqProofs (maxSteps := 2000000) only [push_cast, Nat.reduceEqDiff, Nat.reduceLT, Nat.reduceLeDiff, Nat.reduceAdd, Nat.reduceMul, Nat.reduceSub, Nat.reduceBEq, ↓reduceIte, reduceCtorEq]
        split
        · rename_i hne
          exact congrArg T.b (decide_eq_false (fun e => absurd hne (by rw [e, hb] at ha; simp [Option.some.inj ha]))).symm
        · rename_i he
          have he : a = b := by simpa using he
          subst he
          refine ⟨by unfold inI64; omega, i + 1, ⟨by omega, ?_⟩, by omega, Keep.wk (ids := []) ?_⟩
          · rw [List.take_add_one, List.take_add_one, h2, ha, hb]
          · simp only [push_cast, Nat.reduceEqDiff, Nat.reduceLT, Nat.reduceLeDiff, Nat.reduceAdd, Nat.reduceMul, Nat.reduceSub, Nat.reduceBEq, ↓reduceIte, reduceCtorEq] <;> rfl
      · have hi : i = xs.length := by omega
        subst hi
        rw [List.take_length, h, List.take_length] at h2
        exact congrArg T.b (decide_eq_true h2).symm
end Go.Proofs.Ytmgdkkhnjkepiaa.BX
namespace Go.Proofs.Ytmgdkkhnjkepiaa.BX
set_option linter.unusedSectionVars false
set_option linter.unusedSimpArgs false
set_option linter.unusedVariables false
open Go Go.RowKit
set_option maxRecDepth 20000
set_option maxHeartbeats 400000
variable [Bd] (hB : Bd.B ≤ 2147483648)
include hB
theorem toEntry (x : Entry) : Con P0 75 [eEntry x] (.t (eEntry x)) [] := by
  refine Con.intro (fn := Try.f75) [.cell 2 38] (fun _ => (0, [])) mixed (by kernel_rfl) rfl (by decide) rfl (by rfl) (by kernel_rfl) ?_
  simp -implicitDefEqProofs (maxSteps := 2000000) only [push_cast, Nat.reduceEqDiff, Nat.reduceLT, Nat.reduceLeDiff, Nat.reduceAdd, Nat.reduceMul, Nat.reduceSub, Nat.reduceBEq, ↓reduceIte, reduceCtorEq, eEntry]
theorem toEntryS (xs : List Entry) : Con P0 49 [eEntryS xs] (.sr 0) [.arr 38 3 (.own (.ag [.leaf, .leaf, .leaf])) (xs.map eEntry)] := by
  refine Con.intro (fn := Try.f49) [.tmp 2] (fun _ => (0, [])) mixed (by kernel_rfl) rfl (by decide) rfl (by rfl) (by kernel_rfl) ?_
  simp -implicitDefEqProofs (maxSteps := 2000000) only [push_cast, Nat.reduceEqDiff, Nat.reduceLT, Nat.reduceLeDiff, Nat.reduceAdd, Nat.reduceMul, Nat.reduceSub, Nat.reduceBEq, ↓reduceIte, reduceCtorEq]
  intro hl
  refine ⟨by omega, by omega, by omega, ?_⟩
  refine WL.loop (ι := Nat) (D := (fun _ => (0, []))) (fun i => i ≤ xs.length) (fun i => ⟨23, [(0, .t (eEntryS xs)), (3, .sr 0), (4, .t (.i .i64 i))], [.arr 38 3 (.own (.ag [.leaf, .leaf, .leaf])) (filled eEntry (.ag [.s [], .s [], .s []]) xs i)]⟩) (fun i => xs.length - i) mixed (by kernel_rfl) 0 (by omega) (Keep.wk (ids := [some 0]) ?_) ?_
  · simp only [push_cast, Nat.reduceEqDiff, Nat.reduceLT, Nat.reduceLeDiff, Nat.reduceAdd, Nat.reduceMul, Nat.reduceSub, Nat.reduceBEq, ↓reduceIte, reduceCtorEq, Int.toNat_natCast, filled_zero] <;> trivial
  · intro i hi
    simp -implicitDefEqProofs (maxSteps := 2000000) only [push_cast, Nat.reduceEqDiff, Nat.reduceLT, Nat.reduceLeDiff, Nat.reduceAdd, Nat.reduceMul, Nat.reduceSub, Nat.reduceBEq, ↓reduceIte, reduceCtorEq, eEntry_len, eEntry_isAg, eEntry_ones, eEntry_flat, eEntry_one]
    intro _
    split
    · rename_i h
      have h : i < xs.length := by omega
      refine ⟨by omega, ?_⟩
      rw [Int.toNat_natCast]
      intro a ha
      try dsimp only
      refine Callx.closed (toEntry hB a) rfl rfl (.inl rfl) ?_
      simp -implicitDefEqProofs (maxSteps := 2000000) only [push_cast, Nat.reduceEqDiff, Nat.reduceLT, Nat.reduceLeDiff, Nat.reduceAdd, Nat.reduceMul, Nat.reduceSub, Nat.reduceBEq, ↓reduceIte, reduceCtorEq, eEntry_len, eEntry_isAg, eEntry_ones, eEntry_flat, eEntry_one]
      simp -implicitDefEqProofs (maxSteps := 2000000) only [push_cast, Nat.reduceEqDiff, Nat.reduceLT, Nat.reduceLeDiff, Nat.reduceAdd, Nat.reduceMul, Nat.reduceSub, Nat.reduceBEq, ↓reduceIte, reduceCtorEq, Int.toNat_natCast, filled_len hi, filled_at h, filled_set ha]
      refine ⟨by omega, h, by unfold inI64; have := Bd.hi; omega, i + 1, by omega, by omega, Keep.wk (ids := [some 0]) ?_⟩
      simp only [push_cast, Nat.reduceEqDiff, Nat.reduceLT, Nat.reduceLeDiff, Nat.reduceAdd, Nat.reduceMul, Nat.reduceSub, Nat.reduceBEq, ↓reduceIte, reduceCtorEq, Int.natCast_add, Int.cast_ofNat_Int, filled_set ha]
    · have hi : i = xs.length := by omega
      subst hi
      rw [filled_all]
      exact Close.of [some 0] rfl rfl rfl rfl (by simp only [push_cast, Nat.reduceEqDiff, Nat.reduceLT, Nat.reduceLeDiff, Nat.reduceAdd, Nat.reduceMul, Nat.reduceSub, Nat.reduceBEq, ↓reduceIte, reduceCtorEq] <;> rfl)
theorem toEntrySS (xs : List (List Entry)) : Con P0 15 [eEntrySS xs] (.sr 0) [.arr 26 1 (.own (.sl 38 3 (.ag [.leaf, .leaf, .leaf]))) (xs.map eEntryS)] := by
  refine Con.intro (fn := Try.f15) [.tmp 2] (fun _ => (0, [])) mixed (by kernel_rfl) rfl (by decide) rfl (by rfl) (by kernel_rfl) ?_
  simp -implicitDefEqProofs (maxSteps := 2000000) only [push_cast, Nat.reduceEqDiff, Nat.reduceLT, Nat.reduceLeDiff, Nat.reduceAdd, Nat.reduceMul, Nat.reduceSub, Nat.reduceBEq, ↓reduceIte, reduceCtorEq]
  intro hl
  refine ⟨by omega, by omega, by omega, ?_⟩
  refine WL.loop (ι := Nat) (D := (fun _ => (0, []))) (fun i => i ≤ xs.length) (fun i => ⟨23, [(0, .t (eEntrySS xs)), (3, .sr 0), (4, .t (.i .i64 i))], [.arr 26 1 (.own (.sl 38 3 (.ag [.leaf, .leaf, .leaf]))) (filled eEntryS (.sl []) xs i)]⟩) (fun i => xs.length - i) mixed (by kernel_rfl) 0 (by omega) (Keep.wk (ids := [some 0]) ?_) ?_
  · simp only [push_cast, Nat.reduceEqDiff, Nat.reduceLT, Nat.reduceLeDiff, Nat.reduceAdd, Nat.reduceMul, Nat.reduceSub, Nat.reduceBEq, ↓reduceIte, reduceCtorEq, Int.toNat_natCast, filled_zero] <;> trivial
  · intro i hi
    simp -implicitDefEqProofs (maxSteps := 2000000) only [push_cast, Nat.reduceEqDiff, Nat.reduceLT, Nat.reduceLeDiff, Nat.reduceAdd, Nat.reduceMul, Nat.reduceSub, Nat.reduceBEq, ↓reduceIte, reduceCtorEq]
    intro _
    split
    · rename_i h
      have h : i < xs.length := by omega
      refine ⟨by omega, ?_⟩
      rw [Int.toNat_natCast]
      intro a ha
      try dsimp only
      refine Callx.closed (toEntryS hB a) rfl rfl (.inl rfl) ?_
      simp -implicitDefEqProofs (maxSteps := 2000000) only [push_cast, Nat.reduceEqDiff, Nat.reduceLT, Nat.reduceLeDiff, Nat.reduceAdd, Nat.reduceMul, Nat.reduceSub, Nat.reduceBEq, ↓reduceIte, reduceCtorEq]
      simp -implicitDefEqProofs (maxSteps := 2000000) only [push_cast, Nat.reduceEqDiff, Nat.reduceLT, Nat.reduceLeDiff, Nat.reduceAdd, Nat.reduceMul, Nat.reduceSub, Nat.reduceBEq, ↓reduceIte, reduceCtorEq, Int.toNat_natCast, filled_len hi, filled_at h, filled_set ha]
      refine ⟨by omega, h, by unfold inI64; have := Bd.hi; omega, i + 1, by omega, by omega, Keep.wk (ids := [some 0]) ?_⟩
      simp only [push_cast, Nat.reduceEqDiff, Nat.reduceLT, Nat.reduceLeDiff, Nat.reduceAdd, Nat.reduceMul, Nat.reduceSub, Nat.reduceBEq, ↓reduceIte, reduceCtorEq, Int.natCast_add, Int.cast_ofNat_Int, filled_set ha]
    · have hi : i = xs.length := by omega
      subst hi
      rw [filled_all]
      exact Close.of [some 0] rfl rfl rfl rfl (by simp only [push_cast, Nat.reduceEqDiff, Nat.reduceLT, Nat.reduceLeDiff, Nat.reduceAdd, Nat.reduceMul, Nat.reduceSub, Nat.reduceBEq, ↓reduceIte, reduceCtorEq] <;> rfl)
end Go.Proofs.Ytmgdkkhnjkepiaa.BX
namespace Go.Proofs.Ytmgdkkhnjkepiaa.BX
set_option linter.unusedSectionVars false
set_option linter.unusedSimpArgs false
set_option linter.unusedVariables false
open Go Go.RowKit
set_option maxRecDepth 20000
set_option maxHeartbeats 400000
variable [Bd]
theorem szEntry (x : Entry) (n : Int) (h0 : 0 ≤ n) (hn : n ≤ 1048576) : Con P0 73 [eEntry x, .i .i64 n] (.t (.i .i64 (szR (eEntry x).wt n))) [] := by
  refine Con.intro (fn := Try.f73) [.tmp 4] (fun _ => (0, [])) mixed (by kernel_rfl) rfl (by decide) rfl (by rfl) (by kernel_rfl) ?_
  have hw : (eEntry x).wt = x.typ.length + x.key.length + x.id.length := by simp only [eEntry, T.wt, wts] <;> omega
  rw [hw]
  have := Bd.hi
  simp -implicitDefEqProofs (maxSteps := 2000000) only [push_cast, Nat.reduceEqDiff, Nat.reduceLT, Nat.reduceLeDiff, Nat.reduceAdd, Nat.reduceMul, Nat.reduceSub, Nat.reduceBEq, ↓reduceIte, reduceCtorEq, eEntry]
  intro _
  refine ⟨by unfold inI64; omega, ?_⟩
  split
  · exact congrArg (T.i .i64) (szR_neg (by omega)).symm
  intro _
  refine ⟨by unfold inI64; omega, ?_⟩
  split
  · exact congrArg (T.i .i64) (szR_neg (by omega)).symm
  intro _
  refine ⟨by unfold inI64; omega, ?_⟩
  split
  · exact congrArg (T.i .i64) (szR_neg (by omega)).symm
  first | trivial | exact congrArg (T.i .i64) (by rw [szR_pos (by omega)] <;> omega)
theorem szEntryS (x : List Entry) (n : Int) (h0 : 0 ≤ n) (hn : n ≤ 1048576) : Con P0 46 [eEntryS x, .i .i64 n] (.t (.i .i64 (szR (eEntryS x).wt n))) [] := by
  refine Con.intro (fn := Try.f46) [.tmp 4] (fun _ => (0, [])) mixed (by kernel_rfl) rfl (by decide) rfl (by rfl) (by kernel_rfl) ?_
  have hw : (eEntryS x).wt = x.length + wts (x.map eEntry) := by simp only [eEntryS, T.wt, List.length_map]
  simp -implicitDefEqProofs (maxSteps := 2000000) only [push_cast, Nat.reduceEqDiff, Nat.reduceLT, Nat.reduceLeDiff, Nat.reduceAdd, Nat.reduceMul, Nat.reduceSub, Nat.reduceBEq, ↓reduceIte, reduceCtorEq]
  intro hl
  have := Bd.hi
  refine ⟨by unfold inI64; omega, ?_⟩
  split
  · rename_i h
    exact congrArg (T.i .i64) (szR_neg (by rw [hw]; omega)).symm
  rename_i h
  refine WL.loop (ι := Nat) (D := (fun _ => (0, []))) (fun i => i ≤ x.length ∧ (x.length : Int) + wts ((x.take i).map eEntry) ≤ n) (fun i => ⟨27, [(0, .t (eEntryS x)), (1, .t (.i .i64 (n - x.length - wts ((x.take i).map eEntry)))), (5, .t (.i .i64 i))], []⟩) (fun i => x.length - i) mixed (by kernel_rfl) 0 ⟨by omega, by simp [wts]; omega⟩ (Keep.wk (ids := []) ?_) ?_
  · simp only [push_cast, Nat.reduceEqDiff, Nat.reduceLT, Nat.reduceLeDiff, Nat.reduceAdd, Nat.reduceMul, Nat.reduceSub, Nat.reduceBEq, ↓reduceIte, reduceCtorEq, List.take_zero, wts]; simp
  · rintro i ⟨hi, hc⟩
    simp -implicitDefEqProofs (maxSteps := 2000000) only [push_cast, Nat.reduceEqDiff, Nat.reduceLT, Nat.reduceLeDiff, Nat.reduceAdd, Nat.reduceMul, Nat.reduceSub, Nat.reduceBEq, ↓reduceIte, reduceCtorEq, eEntry_len, eEntry_isAg, eEntry_ones, eEntry_flat, eEntry_one]
    intro _
    split
    · rename_i h
      refine ⟨by omega, ?_⟩
      rw [Int.toNat_natCast]
      intro a ha
      try dsimp only
      have hstep := wts_take (f := eEntry) ha
      have hle := wts_take_le (f := eEntry) x (i + 1)
      refine Callx.closed (szEntry a _ (by omega) (by omega)) rfl rfl (.inl rfl) ?_
      simp -implicitDefEqProofs (maxSteps := 2000000) only [push_cast, Nat.reduceEqDiff, Nat.reduceLT, Nat.reduceLeDiff, Nat.reduceAdd, Nat.reduceMul, Nat.reduceSub, Nat.reduceBEq, ↓reduceIte, reduceCtorEq]
      rcases szR_cases (eEntry a).wt (n - x.length - wts ((x.take i).map eEntry)) with ⟨g1, g2⟩ | ⟨g1, g2⟩
      · simp only [g2]
        rw [if_neg (by omega)]
        refine ⟨by unfold inI64; omega, i + 1, ⟨by omega, by omega⟩, by omega, Keep.wk (ids := []) ?_⟩
        simp only [push_cast, Nat.reduceEqDiff, Nat.reduceLT, Nat.reduceLeDiff, Nat.reduceAdd, Nat.reduceMul, Nat.reduceSub, Nat.reduceBEq, ↓reduceIte, reduceCtorEq, T.i.injEq, AV.t.injEq]
        first | exact ⟨by omega, by omega⟩ | omega
      · simp only [g2]
        rw [if_pos (by omega)]
        exact congrArg (T.i .i64) (szR_neg (by rw [hw]; omega)).symm
    · have hi : i = x.length := by omega
      subst hi
      rw [List.take_length] at hc ⊢
      exact congrArg (T.i .i64) (by rw [hw, szR_pos (by omega)] <;> omega)
theorem szEntrySS (x : List (List Entry)) (n : Int) (h0 : 0 ≤ n) (hn : n ≤ 1048576) : Con P0 13 [eEntrySS x, .i .i64 n] (.t (.i .i64 (szR (eEntrySS x).wt n))) [] := by
  refine Con.intro (fn := Try.f13) [.tmp 4] (fun _ => (0, [])) mixed (by kernel_rfl) rfl (by decide) rfl (by rfl) (by kernel_rfl) ?_
  have hw : (eEntrySS x).wt = x.length + wts (x.map eEntryS) := by simp only [eEntrySS, T.wt, List.length_map]
  simp -implicitDefEqProofs (maxSteps := 2000000) only [push_cast, Nat.reduceEqDiff, Nat.reduceLT, Nat.reduceLeDiff, Nat.reduceAdd, Nat.reduceMul, Nat.reduceSub, Nat.reduceBEq, ↓reduceIte, reduceCtorEq]
  intro hl
  have := Bd.hi
  refine ⟨by unfold inI64; omega, ?_⟩
  split
  · rename_i h
    exact congrArg (T.i .i64) (szR_neg (by rw [hw]; omega)).symm
  rename_i h
  refine WL.loop (ι := Nat) (D := (fun _ => (0, []))) (fun i => i ≤ x.length ∧ (x.length : Int) + wts ((x.take i).map eEntryS) ≤ n) (fun i => ⟨27, [(0, .t (eEntrySS x)), (1, .t (.i .i64 (n - x.length - wts ((x.take i).map eEntryS)))), (5, .t (.i .i64 i))], []⟩) (fun i => x.length - i) mixed (by kernel_rfl) 0 ⟨by omega, by simp [wts]; omega⟩ (Keep.wk (ids := []) ?_) ?_
  · simp only [push_cast, Nat.reduceEqDiff, Nat.reduceLT, Nat.reduceLeDiff, Nat.reduceAdd, Nat.reduceMul, Nat.reduceSub, Nat.reduceBEq, ↓reduceIte, reduceCtorEq, List.take_zero, wts]; simp
  · rintro i ⟨hi, hc⟩
    simp -implicitDefEqProofs (maxSteps := 2000000) only [push_cast, Nat.reduceEqDiff, Nat.reduceLT, Nat.reduceLeDiff, Nat.reduceAdd, Nat.reduceMul, Nat.reduceSub, Nat.reduceBEq, ↓reduceIte, reduceCtorEq]
    intro _
    split
    · rename_i h
      refine ⟨by omega, ?_⟩
      rw [Int.toNat_natCast]
      intro a ha
      try dsimp only
      have hstep := wts_take (f := eEntryS) ha
      have hle := wts_take_le (f := eEntryS) x (i + 1)
      refine Callx.closed (szEntryS a _ (by omega) (by omega)) rfl rfl (.inl rfl) ?_
      simp -implicitDefEqProofs (maxSteps := 2000000) only [push_cast, Nat.reduceEqDiff, Nat.reduceLT, Nat.reduceLeDiff, Nat.reduceAdd, Nat.reduceMul, Nat.reduceSub, Nat.reduceBEq, ↓reduceIte, reduceCtorEq]
      rcases szR_cases (eEntryS a).wt (n - x.length - wts ((x.take i).map eEntryS)) with ⟨g1, g2⟩ | ⟨g1, g2⟩
      · simp only [g2]
        rw [if_neg (by omega)]
        refine ⟨by unfold inI64; omega, i + 1, ⟨by omega, by omega⟩, by omega, Keep.wk (ids := []) ?_⟩
        simp only [push_cast, Nat.reduceEqDiff, Nat.reduceLT, Nat.reduceLeDiff, Nat.reduceAdd, Nat.reduceMul, Nat.reduceSub, Nat.reduceBEq, ↓reduceIte, reduceCtorEq, T.i.injEq, AV.t.injEq]
        first | exact ⟨by omega, by omega⟩ | omega
      · simp only [g2]
        rw [if_pos (by omega)]
        exact congrArg (T.i .i64) (szR_neg (by rw [hw]; omega)).symm
    · have hi : i = x.length := by omega
      subst hi
      rw [List.take_length] at hc ⊢
      exact congrArg (T.i .i64) (by rw [hw, szR_pos (by omega)] <;> omega)
end Go.Proofs.Ytmgdkkhnjkepiaa.BX
namespace Go.Proofs.Ytmgdkkhnjkepiaa.BX
set_option linter.unusedSectionVars false
set_option linter.unusedSimpArgs false
set_option linter.unusedVariables false
open Go Go.RowKit
set_option maxRecDepth 20000
set_option maxHeartbeats 400000
theorem bytesLess_eq : ∀ (x y : List UInt8), Op.bytesLess x y = decide (x < y)
  | [], [] => by simp [Op.bytesLess]
  | _ :: _, [] => by simp [Op.bytesLess]
  | [], _ :: _ => by simp [Op.bytesLess]
  | a :: x, b :: y => by
    rw [Op.bytesLess, bytesLess_eq x y]
    simp only [List.cons_lt_cons_iff]
    by_cases h1 : a < b <;> by_cases h2 : a = b <;> by_cases h3 : x < y <;> simp [h1, h2, h3]
theorem less_irrefl (x : List UInt8) : Op.bytesLess x x = false := by
  rw [bytesLess_eq]; simp [List.lt_irrefl]
theorem less_asymm {x y : List UInt8} (h : Op.bytesLess x y = true) : Op.bytesLess y x = false := by
  rw [bytesLess_eq] at h ⊢
  simp only [decide_eq_true_eq, decide_eq_false_iff_not] at h ⊢
  exact List.lt_asymm h
theorem less_trans {x y z : List UInt8} (h : Op.bytesLess x y = true) (k : Op.bytesLess y z = true) : Op.bytesLess x z = true := by
  rw [bytesLess_eq] at h k ⊢
  simp only [decide_eq_true_eq] at h k ⊢
  exact List.lt_trans h k
theorem less_total {x y : List UInt8} (h : Op.bytesLess x y = false) (k : Op.bytesLess y x = false) : x = y := by
  rw [bytesLess_eq] at h k
  simp only [decide_eq_false_iff_not] at h k
  exact List.le_antisymm k h
def before (a b : Entry) : Bool := if ¬ a.typ = b.typ then Op.bytesLess a.typ b.typ else Op.bytesLess a.key b.key
open Classical in
noncomputable def inOrd (s : List Entry) : Bool := decide (∀ (i : Nat) (a b : Entry), s[i]? = some a → s[i + 1]? = some b → before a b = true)
noncomputable def stateOk (s : List Entry) : Bool := decide (∀ e ∈ s, e.id ≠ []) && (decide ((s.length : Int) ≤ 300) && inOrd s)
def cmpS (x y : List UInt8) : Int := if Op.bytesLess x y = true then -1 else if Op.bytesLess y x = true then 1 else 0
def cmpE (a b : Entry) : Int := if cmpS a.typ b.typ ≠ 0 then cmpS a.typ b.typ else cmpS a.key b.key
theorem inOrd_false {s : List Entry} {i : Nat} {a b : Entry} (h1 : s[i]? = some a) (h2 : s[i + 1]? = some b) (h : before a b = false) : inOrd s = false := by
  unfold inOrd
  rw [decide_eq_false_iff_not]
  intro hh
  rw [hh i a b h1 h2] at h
  cases h
theorem cmpS_neg {x y : List UInt8} : cmpS x y < 0 ↔ Op.bytesLess x y = true := by
  unfold cmpS
  split
  · simp [*]
  · split <;> simp_all
theorem cmpS_zero {x y : List UInt8} : cmpS x y = 0 ↔ x = y := by
  unfold cmpS
  split
  · rename_i h
    refine ⟨fun h => by omega, fun e => ?_⟩
    subst e; rw [less_irrefl] at h; cases h
  · split
    · rename_i _ h
      refine ⟨fun h => by omega, fun e => ?_⟩
      subst e; rw [less_irrefl] at h; cases h
    · rename_i h k
      exact ⟨fun _ => less_total (by simpa using h) (by simpa using k), fun _ => rfl⟩
theorem cmpE_neg {a b : Entry} : (0 ≤ cmpE a b) ↔ before a b = false := by
  unfold cmpE before
  by_cases h : a.typ = b.typ
  · have h0 := cmpS_zero.2 h
    have := @cmpS_neg a.key b.key
    simp only [h0, not_true, if_false, ne_eq, h]
    rw [if_neg (by simp [h0, ← h, cmpS_zero])]
    rw [← Bool.not_eq_true, ← this]; omega
  · have h0 : cmpS a.typ b.typ ≠ 0 := fun e => h (cmpS_zero.1 e)
    have := @cmpS_neg a.typ b.typ
    simp only [h0, h, not_false_eq_true, if_true, ne_eq]
    rw [← Bool.not_eq_true, ← this]; omega
theorem toNat_s {i : Nat} : ((i : Int) + 1).toNat = i + 1 := by omega
theorem toNat_sp {i : Nat} : ((i : Int) + 1 - 1).toNat = i := by omega
variable [Bd]
theorem l4Before (a b : Entry) : Con P0 62 [eEntry a, eEntry b] (.t (.b (before a b))) [] := by
  refine Con.intro (fn := Try.f62) [.tmp 4] (fun _ => (0, [])) mixed (by kernel_rfl) rfl (by decide) rfl (by rfl) (by kernel_rfl) ?_
  simp -implicitDefEqProofs (maxSteps := 2000000) only [push_cast, Nat.reduceEqDiff, Nat.reduceLT, Nat.reduceLeDiff, Nat.reduceAdd, Nat.reduceMul, Nat.reduceSub, Nat.reduceBEq, ↓reduceIte, reduceCtorEq, eEntry]
  unfold before
  split <;> rfl
theorem l4InOrder (s : List Entry) : Con P0 64 [eEntryS s] (.t (.b (inOrd s))) [] := by
  refine Con.intro (fn := Try.f64) [.tmp 2] (fun i => if i = 4 then (11, []) else (0, [])) mixed (by kernel_rfl) rfl (by decide) rfl (by rfl) (by kernel_rfl) ?_
  simp -implicitDefEqProofs (maxSteps := 2000000) only [push_cast, Nat.reduceEqDiff, Nat.reduceLT, Nat.reduceLeDiff, Nat.reduceAdd, Nat.reduceMul, Nat.reduceSub, Nat.reduceBEq, ↓reduceIte, reduceCtorEq]
  refine WL.loop (ι := Nat) (D := (fun i => if i = 4 then (11, []) else (0, []))) (fun i => (s = [] ∨ i + 1 ≤ s.length) ∧ ∀ (j : Nat) (a b : Entry), j < i → s[j]? = some a → s[j + 1]? = some b → before a b = true) (fun i => ⟨21, [(0, .t (eEntryS s)), (3, .t (.i .i64 (i + 1 : Nat)))], []⟩) (fun i => s.length - i) mixed (by kernel_rfl) 0 ⟨by cases s <;> simp, fun j a b hj => absurd hj (by omega)⟩ (Keep.wk (ids := []) ?_) ?_
  · simp only [push_cast, Nat.reduceEqDiff, Nat.reduceLT, Nat.reduceLeDiff, Nat.reduceAdd, Nat.reduceMul, Nat.reduceSub, Nat.reduceBEq, ↓reduceIte, reduceCtorEq] <;> rfl
  · rintro i ⟨hi, hc⟩
    simp -implicitDefEqProofs (maxSteps := 2000000) only [push_cast, Nat.reduceEqDiff, Nat.reduceLT, Nat.reduceLeDiff, Nat.reduceAdd, Nat.reduceMul, Nat.reduceSub, Nat.reduceBEq, ↓reduceIte, reduceCtorEq, eEntry_len, eEntry_isAg, eEntry_ones, eEntry_one]
    intro hl
    have := Bd.hi
    split
    · rename_i h
      refine ⟨by unfold inI64; omega, by omega, fun a ha => ⟨by omega, fun b hb => CallV.t (l4Before a b) (.inl rfl) ?_⟩⟩
      rw [toNat_sp] at ha
      rw [toNat_s] at hb
      simp -implicitDefEqProofs (maxSteps := 2000000) only [push_cast, Nat.reduceEqDiff, Nat.reduceLT, Nat.reduceLeDiff, Nat.reduceAdd, Nat.reduceMul, Nat.reduceSub, Nat.reduceBEq, ↓reduceIte, reduceCtorEq]
      cases hab : before a b with
      | false => exact congrArg T.b (inOrd_false ha hb hab).symm
      | true =>
        simp only [Bool.not_true, Bool.false_eq_true, if_false]
        refine ⟨by unfold inI64; omega, i + 1, ⟨by omega, fun j a' b' hj h1 h2 => ?_⟩, by omega, Keep.wk (ids := []) ?_⟩
        · rcases Nat.lt_or_ge j i with hj' | hj'
          · exact hc j a' b' hj' h1 h2
          · have : j = i := by omega
            subst this
            rw [h1] at ha; rw [h2] at hb
            cases ha; cases hb; exact hab
        · simp only [push_cast, Nat.reduceEqDiff, Nat.reduceLT, Nat.reduceLeDiff, Nat.reduceAdd, Nat.reduceMul, Nat.reduceSub, Nat.reduceBEq, ↓reduceIte, reduceCtorEq] <;> first | rfl | (push_cast; rfl) | trivial
    · refine congrArg T.b (Eq.symm ?_)
      unfold inOrd
      refine @decide_eq_true _ (Classical.propDecidable _) ?_
      intro j a b h1 h2
      refine hc j a b ?_ h1 h2
      have := (List.getElem?_eq_some_iff.1 h2).1
      omega
theorem specStateOk (s : List Entry) : Con P0 34 [eEntryS s] (.t (.b (stateOk s))) [] := by
  refine Con.intro (fn := Try.f34) [.tmp 2] (fun _ => (0, [])) mixed (by kernel_rfl) rfl (by decide) rfl (by rfl) (by kernel_rfl) ?_
  simp -implicitDefEqProofs (maxSteps := 2000000) only [push_cast, Nat.reduceEqDiff, Nat.reduceLT, Nat.reduceLeDiff, Nat.reduceAdd, Nat.reduceMul, Nat.reduceSub, Nat.reduceBEq, ↓reduceIte, reduceCtorEq]
  refine WL.loop (ι := Nat) (D := (fun _ => (0, []))) (fun i => i ≤ s.length ∧ ∀ e ∈ s.take i, e.id ≠ []) (fun i => ⟨23, [(0, .t (eEntryS s)), (3, .t (.i .i64 i))], []⟩) (fun i => s.length - i) mixed (by kernel_rfl) 0 ⟨by omega, by simp⟩ (Keep.wk (ids := []) ?_) ?_
  · simp only [push_cast, Nat.reduceEqDiff, Nat.reduceLT, Nat.reduceLeDiff, Nat.reduceAdd, Nat.reduceMul, Nat.reduceSub, Nat.reduceBEq, ↓reduceIte, reduceCtorEq] <;> rfl
  · rintro i ⟨hi, hc⟩
    simp -implicitDefEqProofs (maxSteps := 2000000) only [push_cast, Nat.reduceEqDiff, Nat.reduceLT, Nat.reduceLeDiff, Nat.reduceAdd, Nat.reduceMul, Nat.reduceSub, Nat.reduceBEq, ↓reduceIte, reduceCtorEq, eEntry_len, eEntry_isAg, eEntry_ones, eEntry_one]
    intro hl
    have := Bd.hi
    split
    · rename_i h
      refine ⟨by omega, fun a ha => ?_⟩
      rw [Int.toNat_natCast] at ha
      simp -implicitDefEqProofs (maxSteps := 2000000) only [push_cast, Nat.reduceEqDiff, Nat.reduceLT, Nat.reduceLeDiff, Nat.reduceAdd, Nat.reduceMul, Nat.reduceSub, Nat.reduceBEq, ↓reduceIte, reduceCtorEq, eEntry]
      have hm : a ∈ s := List.mem_of_getElem? ha
      split
      · rename_i hid
        refine congrArg T.b (Eq.symm ?_)
        unfold stateOk
        rw [decide_eq_false (fun hh => hh a hm hid)]
        rfl
      · rename_i hid
        refine ⟨by unfold inI64; omega, i + 1, ⟨by omega, fun e he => ?_⟩, by omega, Keep.wk (ids := []) ?_⟩
        · rw [List.take_add_one, ha] at he
          rcases List.mem_append.1 he with he | he
          · exact hc e he
          · simp at he; subst he; exact hid
        · simp only [push_cast, Nat.reduceEqDiff, Nat.reduceLT, Nat.reduceLeDiff, Nat.reduceAdd, Nat.reduceMul, Nat.reduceSub, Nat.reduceBEq, ↓reduceIte, reduceCtorEq] <;> rfl
    · have hi : i = s.length := by omega
      subst hi
      rw [List.take_length] at hc
      intro _
      unfold stateOk
      rw [decide_eq_true hc, Bool.true_and]
      split
      · rename_i h3
        refine Callx.closed (l4InOrder s) rfl rfl (.inl rfl) ?_
        simp -implicitDefEqProofs (maxSteps := 2000000) only [push_cast, Nat.reduceEqDiff, Nat.reduceLT, Nat.reduceLeDiff, Nat.reduceAdd, Nat.reduceMul, Nat.reduceSub, Nat.reduceBEq, ↓reduceIte, reduceCtorEq]
        rw [decide_eq_true h3, Bool.true_and]
      · rename_i h3
        rw [decide_eq_false h3, Bool.false_and]
theorem isNaN (x : List UInt8) : Con P0 96 [.s x] (.t (.b false)) [] := by
  refine Con.intro (fn := Try.f96) [.tmp 2] (fun _ => (0, [])) mixed (by kernel_rfl) rfl (by decide) rfl (by rfl) (by kernel_rfl) ?_
  simp -implicitDefEqProofs (maxSteps := 2000000) only [push_cast, Nat.reduceEqDiff, Nat.reduceLT, Nat.reduceLeDiff, Nat.reduceAdd, Nat.reduceMul, Nat.reduceSub, Nat.reduceBEq, ↓reduceIte, reduceCtorEq]
theorem compareS (x y : List UInt8) : Con P0 79 [.s x, .s y] (.t (.i .i64 (cmpS x y))) [] := by
  refine Con.intro (fn := Try.f79) [.tmp 4] (fun _ => (0, [])) mixed (by kernel_rfl) rfl (by decide) rfl (by rfl) (by kernel_rfl) ?_
  simp -implicitDefEqProofs (maxSteps := 2000000) only [push_cast, Nat.reduceEqDiff, Nat.reduceLT, Nat.reduceLeDiff, Nat.reduceAdd, Nat.reduceMul, Nat.reduceSub, Nat.reduceBEq, ↓reduceIte, reduceCtorEq]
  refine Callx.closed (isNaN x) rfl rfl (.inl rfl) ?_
  simp -implicitDefEqProofs (maxSteps := 2000000) only [push_cast, Nat.reduceEqDiff, Nat.reduceLT, Nat.reduceLeDiff, Nat.reduceAdd, Nat.reduceMul, Nat.reduceSub, Nat.reduceBEq, ↓reduceIte, reduceCtorEq]
  refine Callx.closed (isNaN y) rfl rfl (.inl rfl) ?_
  simp -implicitDefEqProofs (maxSteps := 2000000) only [push_cast, Nat.reduceEqDiff, Nat.reduceLT, Nat.reduceLeDiff, Nat.reduceAdd, Nat.reduceMul, Nat.reduceSub, Nat.reduceBEq, ↓reduceIte, reduceCtorEq]
  unfold cmpS
  split
  · rfl
  rename_i h
  split
  · rename_i k
    refine congrArg (T.i .i64) (if_pos ?_).symm
    cases hyx : Op.bytesLess y x with
    | true => rfl
    | false =>
      have := less_total (by simpa using h) hyx
      simp [this] at k
  · rename_i k
    refine congrArg (T.i .i64) (if_neg ?_).symm
    intro hyx
    refine k ?_
    have hne : ¬ x = y := by rintro rfl; rw [less_irrefl] at hyx; cases hyx
    simp [h, hne]
def firstNz : List Int → Int
  | [] => 0
  | x :: xs => if x ≠ 0 then x else firstNz xs
theorem firstNz_at {xs : List Int} : ∀ {i : Nat} {a : Int}, xs[i]? = some a → (∀ x ∈ xs.take i, x = 0) → a ≠ 0 → firstNz xs = a := by
  induction xs with
  | nil => intro i a h; simp at h
  | cons x xs ih =>
    intro i a h h0 ha
    cases i with
    | zero => simp at h; subst h; simp [firstNz, ha]
    | succ i =>
      simp only [List.getElem?_cons_succ] at h
      have hx : x = 0 := h0 x (by simp)
      simp only [firstNz, hx, ne_eq, not_true, if_false]
      exact ih h (fun y hy => h0 y (by simp [hy])) ha
theorem firstNz_all {xs : List Int} (h : ∀ x ∈ xs, x = 0) : firstNz xs = 0 := by
  induction xs with
  | nil => rfl
  | cons x xs ih => simp only [firstNz, h x (by simp), ne_eq, not_true, if_false]; exact ih fun y hy => h y (by simp [hy])
theorem cmpOr (xs : List Int) : Con P0 78 [eIntS xs] (.t (.i .i64 (firstNz xs))) [] := by
  refine Con.intro (fn := Try.f78) [.tmp 2] (fun _ => (0, [])) mixed (by kernel_rfl) rfl (by decide) rfl (by rfl) (by kernel_rfl) ?_
  simp -implicitDefEqProofs (maxSteps := 2000000) only [push_cast, Nat.reduceEqDiff, Nat.reduceLT, Nat.reduceLeDiff, Nat.reduceAdd, Nat.reduceMul, Nat.reduceSub, Nat.reduceBEq, ↓reduceIte, reduceCtorEq]
  intro hl
  have := Bd.hi
  refine WL.loop (ι := Nat) (D := (fun _ => (0, []))) (fun i => i ≤ xs.length ∧ ∀ x ∈ xs.take i, x = 0) (fun i => ⟨18, [(8, .t (.i .i64 i)), (7, .t (.i .i64 xs.length)), (6, .t (eIntS xs)), (3, .t (.i .i64 0))], []⟩) (fun i => xs.length - i) mixed (by kernel_rfl) 0 ⟨by omega, by simp⟩ (Keep.wk (ids := []) ?_) ?_
  · simp only [push_cast, Nat.reduceEqDiff, Nat.reduceLT, Nat.reduceLeDiff, Nat.reduceAdd, Nat.reduceMul, Nat.reduceSub, Nat.reduceBEq, ↓reduceIte, reduceCtorEq] <;> rfl
  · rintro i ⟨hi, hc⟩
    simp -implicitDefEqProofs (maxSteps := 2000000) only [push_cast, Nat.reduceEqDiff, Nat.reduceLT, Nat.reduceLeDiff, Nat.reduceAdd, Nat.reduceMul, Nat.reduceSub, Nat.reduceBEq, ↓reduceIte, reduceCtorEq]
    split
    · rename_i h
      refine ⟨by omega, fun a ha => ?_⟩
      rw [Int.toNat_natCast] at ha
      split
      · rename_i hne
        exact congrArg (T.i .i64) (firstNz_at ha hc hne).symm
      · rename_i h0
        refine ⟨by unfold inI64; omega, i + 1, ⟨by omega, fun e he => ?_⟩, by omega, Keep.wk (ids := []) ?_⟩
        · rw [List.take_add_one, ha] at he
          rcases List.mem_append.1 he with he | he
          · exact hc e he
          · simp at he; subst he; omega
        · simp only [push_cast, Nat.reduceEqDiff, Nat.reduceLT, Nat.reduceLeDiff, Nat.reduceAdd, Nat.reduceMul, Nat.reduceSub, Nat.reduceBEq, ↓reduceIte, reduceCtorEq] <;> rfl
    · have hi : i = xs.length := by omega
      subst hi
      rw [List.take_length] at hc
      exact congrArg (T.i .i64) (firstNz_all hc).symm
theorem compareEntries (a b : Entry) : Con P0 51 [eEntry a, eEntry b] (.t (.i .i64 (cmpE a b))) [] := by
  refine Con.intro (fn := Try.f51) [.tmp 4] (fun i => if i = 1 then (10, []) else (0, [])) mixed (by kernel_rfl) rfl (by decide) rfl (by rfl) (by kernel_rfl) ?_
  simp -implicitDefEqProofs (maxSteps := 2000000) only [push_cast, Nat.reduceEqDiff, Nat.reduceLT, Nat.reduceLeDiff, Nat.reduceAdd, Nat.reduceMul, Nat.reduceSub, Nat.reduceBEq, ↓reduceIte, reduceCtorEq, eEntry]
  refine CallV.t (compareS _ _) (.inl rfl) ?_
  simp -implicitDefEqProofs (maxSteps := 2000000) only [push_cast, Nat.reduceEqDiff, Nat.reduceLT, Nat.reduceLeDiff, Nat.reduceAdd, Nat.reduceMul, Nat.reduceSub, Nat.reduceBEq, ↓reduceIte, reduceCtorEq, eEntry]
  refine CallV.t (compareS _ _) (.inl rfl) ?_
  simp -implicitDefEqProofs (maxSteps := 2000000) only [push_cast, Nat.reduceEqDiff, Nat.reduceLT, Nat.reduceLeDiff, Nat.reduceAdd, Nat.reduceMul, Nat.reduceSub, Nat.reduceBEq, ↓reduceIte, reduceCtorEq, eEntry]
  refine ⟨rfl, by have := Bd.lo; omega, ?_⟩
  refine Callx.closed (cmpOr [cmpS a.typ b.typ, cmpS a.key b.key]) rfl rfl (.inr ⟨rfl, rfl⟩) ?_
  simp -implicitDefEqProofs (maxSteps := 2000000) only [push_cast, Nat.reduceEqDiff, Nat.reduceLT, Nat.reduceLeDiff, Nat.reduceAdd, Nat.reduceMul, Nat.reduceSub, Nat.reduceBEq, ↓reduceIte, reduceCtorEq, eEntry]
  refine congrArg (T.i .i64) ?_
  unfold cmpE firstNz firstNz firstNz
  split
  · rfl
  · split
    · rfl
    · omega
theorem implInOrder (s : List Entry) : Con P0 70 [eEntryS s] (.t (.b (inOrd s))) [] := by
  refine Con.intro (fn := Try.f70) [.tmp 2] (fun i => if i = 4 then (11, []) else (0, [])) mixed (by kernel_rfl) rfl (by decide) rfl (by rfl) (by kernel_rfl) ?_
  simp -implicitDefEqProofs (maxSteps := 2000000) only [push_cast, Nat.reduceEqDiff, Nat.reduceLT, Nat.reduceLeDiff, Nat.reduceAdd, Nat.reduceMul, Nat.reduceSub, Nat.reduceBEq, ↓reduceIte, reduceCtorEq]
  refine WL.loop (ι := Nat) (D := (fun i => if i = 4 then (11, []) else (0, []))) (fun i => (s = [] ∨ i + 1 ≤ s.length) ∧ ∀ (j : Nat) (a b : Entry), j < i → s[j]? = some a → s[j + 1]? = some b → before a b = true) (fun i => ⟨21, [(0, .t (eEntryS s)), (3, .t (.i .i64 (i + 1 : Nat)))], []⟩) (fun i => s.length - i) mixed (by kernel_rfl) 0 ⟨by cases s <;> simp, fun j a b hj => absurd hj (by omega)⟩ (Keep.wk (ids := []) ?_) ?_
  · simp only [push_cast, Nat.reduceEqDiff, Nat.reduceLT, Nat.reduceLeDiff, Nat.reduceAdd, Nat.reduceMul, Nat.reduceSub, Nat.reduceBEq, ↓reduceIte, reduceCtorEq] <;> rfl
  · rintro i ⟨hi, hc⟩
    simp -implicitDefEqProofs (maxSteps := 2000000) only [push_cast, Nat.reduceEqDiff, Nat.reduceLT, Nat.reduceLeDiff, Nat.reduceAdd, Nat.reduceMul, Nat.reduceSub, Nat.reduceBEq, ↓reduceIte, reduceCtorEq, eEntry_len, eEntry_isAg, eEntry_ones, eEntry_one]
    intro hl
    have := Bd.hi
    split
    · rename_i h
      refine ⟨by unfold inI64; omega, by omega, fun a ha => ⟨by omega, fun b hb => CallV.t (compareEntries a b) (.inl rfl) ?_⟩⟩
      rw [toNat_sp] at ha
      rw [toNat_s] at hb
      simp -implicitDefEqProofs (maxSteps := 2000000) only [push_cast, Nat.reduceEqDiff, Nat.reduceLT, Nat.reduceLeDiff, Nat.reduceAdd, Nat.reduceMul, Nat.reduceSub, Nat.reduceBEq, ↓reduceIte, reduceCtorEq]
      cases hab : before a b with
      | false =>
        rw [if_pos (cmpE_neg.2 hab)]
        exact congrArg T.b (inOrd_false ha hb hab).symm
      | true =>
        rw [if_neg (fun hh => by rw [cmpE_neg.1 hh] at hab; cases hab)]
        refine ⟨by unfold inI64; omega, i + 1, ⟨by omega, fun j a' b' hj h1 h2 => ?_⟩, by omega, Keep.wk (ids := []) ?_⟩
        · rcases Nat.lt_or_ge j i with hj' | hj'
          · exact hc j a' b' hj' h1 h2
          · have : j = i := by omega
            subst this
            rw [h1] at ha; rw [h2] at hb
            cases ha; cases hb; exact hab
        · simp only [push_cast, Nat.reduceEqDiff, Nat.reduceLT, Nat.reduceLeDiff, Nat.reduceAdd, Nat.reduceMul, Nat.reduceSub, Nat.reduceBEq, ↓reduceIte, reduceCtorEq] <;> first | rfl | (push_cast; rfl) | trivial
    · refine congrArg T.b (Eq.symm ?_)
      unfold inOrd
      refine @decide_eq_true _ (Classical.propDecidable _) ?_
      intro j a b h1 h2
      refine hc j a b ?_ h1 h2
      have := (List.getElem?_eq_some_iff.1 h2).1
      omega
theorem noId (e : Entry) : Con P0 72 [eEntry e] (.t (.b (decide (e.id = [])))) [] := by
  refine Con.intro (fn := Try.f72) [.tmp 2] (fun _ => (0, [])) mixed (by kernel_rfl) rfl (by decide) rfl (by rfl) (by kernel_rfl) ?_
  simp -implicitDefEqProofs (maxSteps := 2000000) only [push_cast, Nat.reduceEqDiff, Nat.reduceLT, Nat.reduceLeDiff, Nat.reduceAdd, Nat.reduceMul, Nat.reduceSub, Nat.reduceBEq, ↓reduceIte, reduceCtorEq, eEntry]
def firstAt {α : Type} (p : α → Bool) : List α → Int → Int
  | [], _ => -1
  | x :: xs, i => if p x = true then i else firstAt p xs (i + 1)
theorem firstAt_at {α : Type} {p : α → Bool} {xs : List α} : ∀ {i : Nat} {a : α} {k : Int}, xs[i]? = some a → (∀ x ∈ xs.take i, p x = false) → p a = true → firstAt p xs k = k + i := by
  induction xs with
  | nil => intro i a k h; simp at h
  | cons x xs ih =>
    intro i a k h h0 ha
    cases i with
    | zero => simp at h; subst h; simp [firstAt, ha]
    | succ i =>
      simp only [List.getElem?_cons_succ] at h
      have hx : p x = false := h0 x (by simp)
      simp only [firstAt, hx, Bool.false_eq_true, if_false]
      rw [ih h (fun y hy => h0 y (by simp [hy])) ha]
      omega
theorem firstAt_all {α : Type} {p : α → Bool} {xs : List α} : ∀ {k : Int}, (∀ x ∈ xs, p x = false) → firstAt p xs k = -1 := by
  induction xs with
  | nil => intro k _; rfl
  | cons x xs ih => intro k h; simp only [firstAt, h x (by simp), Bool.false_eq_true, if_false]; exact ih fun y hy => h y (by simp [hy])
theorem firstAt_nn {α : Type} {p : α → Bool} {xs : List α} : ∀ {k : Int}, 0 ≤ k → (0 ≤ firstAt p xs k ↔ ∃ x ∈ xs, p x = true) := by
  induction xs with
  | nil => intro k hk; simp [firstAt]
  | cons x xs ih =>
    intro k hk
    simp only [firstAt]
    split
    · rename_i h; simp [h, hk]
    · rename_i h
      rw [ih (by omega)]
      simp [h]
theorem indexNoId (s : List Entry) : Con P0 85 [eEntryS s, .fn 72 []] (.t (.i .i64 (firstAt (fun e => decide (e.id = [])) s 0))) [] := by
  refine Con.intro (fn := Try.f85) [.tmp 4] (fun _ => (0, [])) mixed (by kernel_rfl) rfl (by decide) rfl (by rfl) (by kernel_rfl) ?_
  simp -implicitDefEqProofs (maxSteps := 2000000) only [push_cast, Nat.reduceEqDiff, Nat.reduceLT, Nat.reduceLeDiff, Nat.reduceAdd, Nat.reduceMul, Nat.reduceSub, Nat.reduceBEq, ↓reduceIte, reduceCtorEq]
  intro hl
  have := Bd.hi
  refine WL.loop (ι := Nat) (D := (fun _ => (0, []))) (fun i => i ≤ s.length ∧ ∀ x ∈ s.take i, decide (x.id = []) = false) (fun i => ⟨19, [(8, .t (.i .i64 i)), (7, .t (.i .i64 s.length)), (0, .t (eEntryS s)), (1, .t (.fn 72 []))], []⟩) (fun i => s.length - i) mixed (by kernel_rfl) 0 ⟨by omega, by simp⟩ (Keep.wk (ids := []) ?_) ?_
  · simp only [push_cast, Nat.reduceEqDiff, Nat.reduceLT, Nat.reduceLeDiff, Nat.reduceAdd, Nat.reduceMul, Nat.reduceSub, Nat.reduceBEq, ↓reduceIte, reduceCtorEq] <;> rfl
  · rintro i ⟨hi, hc⟩
    simp -implicitDefEqProofs (maxSteps := 2000000) only [push_cast, Nat.reduceEqDiff, Nat.reduceLT, Nat.reduceLeDiff, Nat.reduceAdd, Nat.reduceMul, Nat.reduceSub, Nat.reduceBEq, ↓reduceIte, reduceCtorEq, eEntry_len, eEntry_isAg, eEntry_ones, eEntry_one]
    split
    · rename_i h
      refine ⟨by omega, fun a ha => ?_⟩
      rw [Int.toNat_natCast] at ha
      refine Callx.closed (noId a) rfl rfl (.inl rfl) ?_
      simp -implicitDefEqProofs (maxSteps := 2000000) only [push_cast, Nat.reduceEqDiff, Nat.reduceLT, Nat.reduceLeDiff, Nat.reduceAdd, Nat.reduceMul, Nat.reduceSub, Nat.reduceBEq, ↓reduceIte, reduceCtorEq]
      split
      · rename_i hne
        refine congrArg (T.i .i64) ?_
        rw [firstAt_at ha hc (by simpa using hne)]; omega
      · rename_i h0
        refine ⟨by unfold inI64; omega, i + 1, ⟨by omega, fun e he => ?_⟩, by omega, Keep.wk (ids := []) ?_⟩
        · rw [List.take_add_one, ha] at he
          rcases List.mem_append.1 he with he | he
          · exact hc e he
          · simp at he; subst he; simpa using h0
        · simp only [push_cast, Nat.reduceEqDiff, Nat.reduceLT, Nat.reduceLeDiff, Nat.reduceAdd, Nat.reduceMul, Nat.reduceSub, Nat.reduceBEq, ↓reduceIte, reduceCtorEq] <;> rfl
    · have hi : i = s.length := by omega
      subst hi
      rw [List.take_length] at hc
      exact congrArg (T.i .i64) (firstAt_all hc).symm
theorem containsNoId (s : List Entry) : Con P0 71 [eEntryS s, .fn 72 []] (.t (.b (decide (0 ≤ firstAt (fun e => decide (e.id = [])) s 0)))) [] := by
  refine Con.intro (fn := Try.f71) [.tmp 4] (fun _ => (0, [])) mixed (by kernel_rfl) rfl (by decide) rfl (by rfl) (by kernel_rfl) ?_
  simp -implicitDefEqProofs (maxSteps := 2000000) only [push_cast, Nat.reduceEqDiff, Nat.reduceLT, Nat.reduceLeDiff, Nat.reduceAdd, Nat.reduceMul, Nat.reduceSub, Nat.reduceBEq, ↓reduceIte, reduceCtorEq]
  refine Callx.closed (indexNoId s) rfl rfl (.inl rfl) ?_
  simp -implicitDefEqProofs (maxSteps := 2000000) only [push_cast, Nat.reduceEqDiff, Nat.reduceLT, Nat.reduceLeDiff, Nat.reduceAdd, Nat.reduceMul, Nat.reduceSub, Nat.reduceBEq, ↓reduceIte, reduceCtorEq]
theorem implStateOk (s : List Entry) : Con P0 40 [eEntryS s] (.t (.b (stateOk s))) [] := by
  refine Con.intro (fn := Try.f40) [.tmp 2] (fun _ => (0, [])) mixed (by kernel_rfl) rfl (by decide) rfl (by rfl) (by kernel_rfl) ?_
  simp -implicitDefEqProofs (maxSteps := 2000000) only [push_cast, Nat.reduceEqDiff, Nat.reduceLT, Nat.reduceLeDiff, Nat.reduceAdd, Nat.reduceMul, Nat.reduceSub, Nat.reduceBEq, ↓reduceIte, reduceCtorEq]
  intro _
  split
  case isFalse h3 =>
    unfold stateOk
    rw [decide_eq_false h3]
    simp
  rename_i h3
  refine Callx.closed (implInOrder s) rfl rfl (.inl rfl) ?_
  simp -implicitDefEqProofs (maxSteps := 2000000) only [push_cast, Nat.reduceEqDiff, Nat.reduceLT, Nat.reduceLeDiff, Nat.reduceAdd, Nat.reduceMul, Nat.reduceSub, Nat.reduceBEq, ↓reduceIte, reduceCtorEq]
  split
  case isFalse h4 =>
    unfold stateOk
    simp_all
  rename_i h4
  refine Callx.closed (containsNoId s) rfl rfl (.inr ⟨rfl, rfl⟩) ?_
  simp -implicitDefEqProofs (maxSteps := 2000000) only [push_cast, Nat.reduceEqDiff, Nat.reduceLT, Nat.reduceLeDiff, Nat.reduceAdd, Nat.reduceMul, Nat.reduceSub, Nat.reduceBEq, ↓reduceIte, reduceCtorEq]
  refine congrArg T.b ?_
  unfold stateOk
  rw [decide_eq_true h3, h4, Bool.true_and, Bool.and_true, Bool.eq_iff_iff]
  simp only [Bool.not_eq_true', decide_eq_false_iff_not, decide_eq_true_eq]
  rw [firstAt_nn (by omega)]
  simp
end Go.Proofs.Ytmgdkkhnjkepiaa.BX
namespace Go.Proofs.Ytmgdkkhnjkepiaa.BX
set_option linter.unusedSectionVars false
set_option linter.unusedSimpArgs false
set_option linter.unusedVariables false
open Go Go.RowKit
set_option maxRecDepth 20000
set_option maxHeartbeats 400000
def same (a b : Entry) : Bool := decide (a.typ = b.typ) && decide (a.key = b.key)
abbrev SlotK := List UInt8 × List UInt8
def Entry.slot (e : Entry) : SlotK := (e.typ, e.key)
def live (s : List Entry) : List (SlotK × List UInt8) := s.foldl (fun m e => aset e.slot e.id m) []
theorem before_slot {a b : Entry} (h : before a b = true) : a.slot ≠ b.slot := by
  intro e
  simp only [Entry.slot, Prod.mk.injEq] at e
  unfold before at h
  rw [e.1, e.2] at h
  simp [less_irrefl] at h
theorem before_trans {a b c : Entry} (h : before a b = true) (k : before b c = true) : before a c = true := by
  unfold before at *
  by_cases h1 : a.typ = b.typ <;> by_cases h2 : b.typ = c.typ <;> simp only [h1, h2, not_true, not_false_eq_true, if_true, if_false] at h k ⊢
  · exact less_trans h k
  · exact k
  · rw [h2] at h1
    simp only [h1, not_false_eq_true, if_true] at h ⊢
    exact h
  · have h3 := less_trans h k
    by_cases h4 : a.typ = c.typ
    · rw [h4, less_irrefl] at h3; cases h3
    · simp only [h4, not_false_eq_true, if_true]; exact h3
theorem inOrd_spec {s : List Entry} (h : inOrd s = true) : ∀ (i : Nat) (a b : Entry), s[i]? = some a → s[i + 1]? = some b → before a b = true := by
  unfold inOrd at h
  exact @of_decide_eq_true _ (Classical.propDecidable _) h
theorem inOrd_far {s : List Entry} (h : inOrd s = true) : ∀ (d i : Nat) (a b : Entry), s[i]? = some a → s[i + 1 + d]? = some b → before a b = true
  | 0, i, a, b, ha, hb => inOrd_spec h i a b ha hb
  | d + 1, i, a, b, ha, hb => by
    have hl := (List.getElem?_eq_some_iff.1 hb).1
    have hm : s[i + 1 + d]? = some (s[i + 1 + d]'(by omega)) := List.getElem?_eq_getElem (by omega)
    exact before_trans (inOrd_far h d i a _ ha hm) (inOrd_spec h (i + 1 + d) _ b hm (by rw [← hb]; congr 1))
theorem inOrd_nodup {s : List Entry} (h : inOrd s = true) : (s.map Entry.slot).Nodup := by
  refine List.pairwise_iff_getElem.2 fun i j hi hj hij => ?_
  rw [List.length_map] at hi hj
  rw [List.getElem_map, List.getElem_map]
  refine before_slot (inOrd_far h (j - (i + 1)) i _ _ (List.getElem?_eq_getElem (by omega)) ?_)
  rw [show i + 1 + (j - (i + 1)) = j by omega]
  exact List.getElem?_eq_getElem hj
theorem stateOk_ord {s : List Entry} (h : stateOk s = true) : inOrd s = true ∧ (s.length : Int) ≤ 300 ∧ ∀ e ∈ s, e.id ≠ [] := by
  unfold stateOk at h
  simp only [Bool.and_eq_true, decide_eq_true_eq] at h
  exact ⟨h.2.2, h.2.1, h.1⟩
def findId (k : SlotK) : List Entry → List UInt8
  | [] => []
  | e :: r => if e.slot = k then e.id else findId k r
theorem findId_get {k : SlotK} : ∀ {s : List Entry}, (∀ e ∈ s, e.id ≠ []) → (aget k (s.map fun e => (e.slot, e.id)) = none ∧ findId k s = []) ∨ (aget k (s.map fun e => (e.slot, e.id)) = some (findId k s) ∧ findId k s ≠ [])
  | [], _ => .inl ⟨rfl, rfl⟩
  | e :: r, h => by
    simp only [List.map_cons, aget, findId]
    by_cases he : e.slot = k
    · simp only [he, if_true]
      exact .inr ⟨by first | rfl | trivial, h e (by simp)⟩
    · simp only [he, if_false]
      exact findId_get fun x hx => h x (by simp [hx])
theorem same_slot {x : Entry} {a b i : List UInt8} : same x ⟨a, b, i⟩ = decide (x.slot = (a, b)) := by
  simp [same, Entry.slot]
theorem findId_at {k : SlotK} {q : Entry → Bool} (hq : ∀ e, q e = decide (e.slot = k)) : ∀ {s : List Entry} {n : Int}, (firstAt q s n = -1 ∧ findId k s = []) ∨ ∃ (j : Nat) (e : Entry), firstAt q s n = n + j ∧ s[j]? = some e ∧ findId k s = e.id
  | [], n => .inl ⟨rfl, rfl⟩
  | e :: r, n => by
    simp only [firstAt, findId, hq]
    by_cases he : e.slot = k
    · simp only [he, decide_true, if_true]
      exact .inr ⟨0, e, by simp, rfl, rfl⟩
    · simp only [he, decide_false, Bool.false_eq_true, if_false]
      rcases findId_at hq (s := r) (n := n + 1) with h | ⟨j, x, h1, h2, h3⟩
      · exact .inl h
      · exact .inr ⟨j + 1, x, by rw [h1]; push_cast; omega, by simpa using h2, h3⟩
variable [Bd]
theorem l4Same (a b : Entry) : Con P0 83 [eEntry a, eEntry b] (.t (.b (same a b))) [] := by
  refine Con.intro (fn := Try.f83) [.tmp 4] (fun _ => (0, [])) mixed (by kernel_rfl) rfl (by decide) rfl (by rfl) (by kernel_rfl) ?_
  simp -implicitDefEqProofs (maxSteps := 2000000) only [push_cast, Nat.reduceEqDiff, Nat.reduceLT, Nat.reduceLeDiff, Nat.reduceAdd, Nat.reduceMul, Nat.reduceSub, Nat.reduceBEq, ↓reduceIte, reduceCtorEq, eEntry]
  unfold same
  split <;> simp [*]
theorem l4At (s : List Entry) (e : Entry) : Con P0 66 [eEntryS s, eEntry e] (.t (.i .i64 (firstAt (fun x => same x e) s 0))) [] := by
  refine Con.intro (fn := Try.f66) [.tmp 4] (fun i => if i = 4 then (6, []) else (0, [])) mixed (by kernel_rfl) rfl (by decide) rfl (by rfl) (by kernel_rfl) ?_
  simp -implicitDefEqProofs (maxSteps := 2000000) only [push_cast, Nat.reduceEqDiff, Nat.reduceLT, Nat.reduceLeDiff, Nat.reduceAdd, Nat.reduceMul, Nat.reduceSub, Nat.reduceBEq, ↓reduceIte, reduceCtorEq]
  refine WL.loop (ι := Nat) (D := (fun i => if i = 4 then (6, []) else (0, []))) (fun i => i ≤ s.length ∧ ∀ x ∈ s.take i, same x e = false) (fun i => ⟨19, [(0, .t (eEntryS s)), (3, .rf 0 0), (5, .t (.i .i64 i))], [.box (.t (eEntry e))]⟩) (fun i => s.length - i) mixed (by kernel_rfl) 0 ⟨by omega, by simp⟩ (Keep.wk (ids := [some 0]) ?_) ?_
  · simp only [push_cast, Nat.reduceEqDiff, Nat.reduceLT, Nat.reduceLeDiff, Nat.reduceAdd, Nat.reduceMul, Nat.reduceSub, Nat.reduceBEq, ↓reduceIte, reduceCtorEq] <;> rfl
  · rintro i ⟨hi, hc⟩
    simp -implicitDefEqProofs (maxSteps := 2000000) only [push_cast, Nat.reduceEqDiff, Nat.reduceLT, Nat.reduceLeDiff, Nat.reduceAdd, Nat.reduceMul, Nat.reduceSub, Nat.reduceBEq, ↓reduceIte, reduceCtorEq, eEntry_len, eEntry_isAg, eEntry_ones, eEntry_one]
    intro hl
    have := Bd.hi
    split
    · rename_i h
      refine ⟨by omega, fun a ha => CallV.t (l4Same a e) (.inl rfl) ?_⟩
      rw [Int.toNat_natCast] at ha
      simp -implicitDefEqProofs (maxSteps := 2000000) only [push_cast, Nat.reduceEqDiff, Nat.reduceLT, Nat.reduceLeDiff, Nat.reduceAdd, Nat.reduceMul, Nat.reduceSub, Nat.reduceBEq, ↓reduceIte, reduceCtorEq]
      split
      · rename_i hne
        refine congrArg (T.i .i64) ?_
        rw [firstAt_at ha hc hne]; omega
      · rename_i h0
        refine ⟨by unfold inI64; omega, i + 1, ⟨by omega, fun x hx => ?_⟩, by omega, Keep.wk (ids := [some 0]) ?_⟩
        · rw [List.take_add_one, ha] at hx
          rcases List.mem_append.1 hx with hx | hx
          · exact hc x hx
          · simp at hx; subst hx; simpa using h0
        · simp only [push_cast, Nat.reduceEqDiff, Nat.reduceLT, Nat.reduceLeDiff, Nat.reduceAdd, Nat.reduceMul, Nat.reduceSub, Nat.reduceBEq, ↓reduceIte, reduceCtorEq] <;> rfl
    · have hi : i = s.length := by omega
      subst hi
      rw [List.take_length] at hc
      exact congrArg (T.i .i64) (firstAt_all hc).symm
theorem l4Find (s : List Entry) (a b : List UInt8) : Con P0 65 [eEntryS s, .s a, .s b] (.t (.s (findId (a, b) s))) [] := by
  refine Con.intro (fn := Try.f65) [.tmp 6] (fun _ => (0, [])) mixed (by kernel_rfl) rfl (by decide) rfl (by rfl) (by kernel_rfl) ?_
  simp -implicitDefEqProofs (maxSteps := 2000000) only [push_cast, Nat.reduceEqDiff, Nat.reduceLT, Nat.reduceLeDiff, Nat.reduceAdd, Nat.reduceMul, Nat.reduceSub, Nat.reduceBEq, ↓reduceIte, reduceCtorEq]
  refine Callx.closed (l4At s ⟨a, b, []⟩) rfl rfl (.inl rfl) ?_
  simp -implicitDefEqProofs (maxSteps := 2000000) only [push_cast, Nat.reduceEqDiff, Nat.reduceLT, Nat.reduceLeDiff, Nat.reduceAdd, Nat.reduceMul, Nat.reduceSub, Nat.reduceBEq, ↓reduceIte, reduceCtorEq]
  rcases findId_at (k := (a, b)) (fun e => same_slot (x := e) (a := a) (b := b) (i := [])) (s := s) (n := 0) with ⟨h1, h2⟩ | ⟨j, e, h1, h2, h3⟩
  · simp only [h1, h2]
    rw [if_pos (by omega)]
    trivial
  · simp only [h1, h3]
    have hj := (List.getElem?_eq_some_iff.1 h2).1
    rw [if_neg (by omega)]
    refine ⟨by omega, fun x hx => ?_⟩
    have hx2 : x = e := by
      rw [show ((0 : Int) + j).toNat = j by omega, h2] at hx
      exact (Option.some.inj hx).symm
    subst hx2
    simp -implicitDefEqProofs (maxSteps := 2000000) only [push_cast, Nat.reduceEqDiff, Nat.reduceLT, Nat.reduceLeDiff, Nat.reduceAdd, Nat.reduceMul, Nat.reduceSub, Nat.reduceBEq, ↓reduceIte, reduceCtorEq, eEntry]
end Go.Proofs.Ytmgdkkhnjkepiaa.BX
namespace Go.Proofs.Ytmgdkkhnjkepiaa.BX
set_option linter.unusedSectionVars false
set_option linter.unusedSimpArgs false
set_option linter.unusedVariables false
open Go Go.RowKit
set_option maxRecDepth 20000
set_option maxHeartbeats 400000
variable [Bd]
theorem take_snoc {α : Type} {p : α → Prop} {s : List α} {i : Nat} {a : α} (ha : s[i]? = some a) (hc : ∀ c ∈ s.take i, p c) (h : p a) : ∀ c ∈ s.take (i + 1), p c := by
  intro e he
  rw [List.take_add_one, ha] at he
  rcases List.mem_append.1 he with he | he
  · exact hc e he
  · simp at he; subst he; exact h
end Go.Proofs.Ytmgdkkhnjkepiaa.BX
namespace Go.Proofs.Ytmgdkkhnjkepiaa.BX
set_option linter.unusedSectionVars false
set_option linter.unusedSimpArgs false
set_option linter.unusedVariables false
open Go Go.RowKit
set_option maxRecDepth 20000
set_option maxHeartbeats 400000
variable [Bd]
theorem l1Has (xs : List (List UInt8)) (s : List UInt8) : Con P0 74 [eStringS xs, .s s] (.t (.b (decide (s ∈ xs)))) [] := by
  refine Con.intro (fn := Try.f74) [.tmp 4] (fun _ => (0, [])) mixed (by kernel_rfl) rfl (by decide) rfl (by rfl) (by kernel_rfl) ?_
  simp -implicitDefEqProofs (maxSteps := 2000000) only [push_cast, Nat.reduceEqDiff, Nat.reduceLT, Nat.reduceLeDiff, Nat.reduceAdd, Nat.reduceMul, Nat.reduceSub, Nat.reduceBEq, ↓reduceIte, reduceCtorEq]
  refine WL.loop (ι := Nat) (D := (fun _ => (0, []))) (fun i => i ≤ xs.length ∧ ∀ c ∈ xs.take i, c ≠ s) (fun i => ⟨18, [(0, .t (eStringS xs)), (1, .t (.s s)), (5, .t (.i .i64 i))], []⟩) (fun i => xs.length - i) mixed (by kernel_rfl) 0 ⟨by omega, by simp⟩ (Keep.wk (ids := []) ?_) ?_
  · simp only [push_cast, Nat.reduceEqDiff, Nat.reduceLT, Nat.reduceLeDiff, Nat.reduceAdd, Nat.reduceMul, Nat.reduceSub, Nat.reduceBEq, ↓reduceIte, reduceCtorEq] <;> rfl
  · rintro i ⟨hi, hc⟩
    simp -implicitDefEqProofs (maxSteps := 2000000) only [push_cast, Nat.reduceEqDiff, Nat.reduceLT, Nat.reduceLeDiff, Nat.reduceAdd, Nat.reduceMul, Nat.reduceSub, Nat.reduceBEq, ↓reduceIte, reduceCtorEq]
    intro _
    have := Bd.hi
    split
    · rename_i h
      refine ⟨by omega, fun a ha => ?_⟩
      rw [Int.toNat_natCast] at ha
      split
      · rename_i he
        exact congrArg T.b (decide_eq_true (he ▸ List.mem_of_getElem? ha)).symm
      · rename_i he
        refine ⟨by unfold inI64; omega, i + 1, ⟨by omega, take_snoc ha hc he⟩, by omega, Keep.wk (ids := []) ?_⟩
        simp only [push_cast, Nat.reduceEqDiff, Nat.reduceLT, Nat.reduceLeDiff, Nat.reduceAdd, Nat.reduceMul, Nat.reduceSub, Nat.reduceBEq, ↓reduceIte, reduceCtorEq] <;> rfl
    · rw [List.take_of_length_le (by omega)] at hc
      exact congrArg T.b (decide_eq_false fun hm => hc s hm rfl).symm
end Go.Proofs.Ytmgdkkhnjkepiaa.BX
namespace Go.Proofs.Ytmgdkkhnjkepiaa.BX
set_option linter.unusedSectionVars false
set_option linter.unusedSimpArgs false
set_option linter.unusedVariables false
open Go Go.RowKit
set_option maxRecDepth 20000
set_option maxHeartbeats 400000
theorem s_inj : ∀ a b : List UInt8, T.s a = T.s b → a = b := fun _ _ h => by cases h; rfl
variable [Bd]
end Go.Proofs.Ytmgdkkhnjkepiaa.BX
namespace Go.Proofs.Ytmgdkkhnjkepiaa.BX
set_option linter.unusedSectionVars false
set_option linter.unusedSimpArgs false
set_option linter.unusedVariables false
open Go Go.RowKit Go.Shelf Go.Sort
set_option maxRecDepth 20000
set_option maxHeartbeats 400000
def srt (l : List (List UInt8)) : List (List UInt8) := l.mergeSort fun x y => decide (x ≤ y)
theorem srt_perm {l : List (List UInt8)} : List.Perm (srt l) l := List.mergeSort_perm ..
section
variable [Bd]
theorem foot_texts {w : World} : ∀ {l : List (List UInt8)} {vs : List Value} {L : List Nat}, footTs w (l.map T.s) vs L → vs = l.map encStr ∧ ∀ x ∈ l, x.length < Bd.B
  | [], vs, L, h => by simp only [List.map_nil, footTs] at h; exact ⟨h.1, by simp⟩
  | e :: l, vs, L, h => by
    simp only [List.map_cons, footTs, footT] at h
    obtain ⟨v, vs', L1, L2, rfl, _, ⟨rfl, _, h1⟩, h2⟩ := h
    obtain ⟨rfl, h3⟩ := foot_texts h2
    exact ⟨rfl, by simpa using ⟨h1, h3⟩⟩
theorem texts_foot {w : World} : ∀ {l : List (List UInt8)}, (∀ x ∈ l, x.length < Bd.B) → footTs w (l.map T.s) (l.map encStr) []
  | [], _ => by simp [footTs]
  | x :: l, h => by
    simp only [List.map_cons, footTs, footT]
    exact ⟨_, _, [], [], rfl, rfl, ⟨rfl, rfl, h x (by simp)⟩, texts_foot fun y hy => h y (by simp [hy])⟩
theorem cellsL_texts {l : List (List UInt8)} : cellsL (l.map encStr) = l.map encStr := by
  induction l with
  | nil => rfl
  | cons x l ih => simp only [cellsL, List.map_cons, List.flatMap_cons] at ih ⊢; rw [ih]; rfl
end
end Go.Proofs.Ytmgdkkhnjkepiaa.BX
namespace Go.Proofs.Ytmgdkkhnjkepiaa.BX
set_option linter.unusedSectionVars false
set_option linter.unusedSimpArgs false
set_option linter.unusedVariables false
open Go Go.RowKit
set_option maxRecDepth 20000
set_option maxHeartbeats 400000
def Asc (l : List (List UInt8)) : Prop := l.Pairwise (· < ·)
theorem asc_nodup {l : List (List UInt8)} (h : Asc l) : l.Nodup := h.imp fun hab he => by subst he; exact List.lt_irrefl _ hab
theorem asc_perm {l m : List (List UInt8)} (hl : Asc l) (hm : Asc m) (hp : List.Perm l m) : l = m := by
  refine List.Perm.eq_of_pairwise (le := fun a b => a ≤ b) ?_ (hl.imp List.le_of_lt) (hm.imp List.le_of_lt) hp
  intro a b _ _ h1 h2
  exact List.le_antisymm h1 h2
theorem srt_asc {l : List (List UInt8)} (h : l.Nodup) : Asc (srt l) := by
  have h1 : (srt l).Pairwise (fun a b => decide (a ≤ b) = true) := by
    refine List.pairwise_mergeSort ?_ ?_ _
    · intro a b c h1 h2
      simp only [decide_eq_true_eq] at *
      exact List.le_trans h1 h2
    · intro a b
      simp only [Bool.or_eq_true, decide_eq_true_eq]
      exact List.le_total a b
  have h2 : (srt l).Nodup := srt_perm.nodup_iff.2 h
  refine (h1.and h2).imp fun ⟨hab, hne⟩ => ?_
  simp only [decide_eq_true_eq] at hab
  rcases List.le_iff_lt_or_eq.1 hab with h | h
  · exact h
  · exact absurd h hne
def insS (x : List UInt8) (l : List (List UInt8)) : List (List UInt8) := if x ∈ l then l else l.takeWhile (fun y => decide (y < x)) ++ x :: l.dropWhile (fun y => decide (y < x))
def sset (l : List (List UInt8)) : List (List UInt8) := l.foldl (fun o x => insS x o) []
theorem sset_snoc {l : List (List UInt8)} {i : Nat} {x : List UInt8} (h : l[i]? = some x) : sset (l.take (i + 1)) = insS x (sset (l.take i)) := by
  unfold sset
  rw [List.take_add_one, h, List.foldl_append]
  rfl
theorem takeWhile_all {l : List (List UInt8)} {x y : List UInt8} (h : y ∈ l.takeWhile (fun y => decide (y < x))) : y < x := by
  have := List.all_takeWhile (p := fun y => decide (y < x)) (l := l)
  rw [List.all_eq_true] at this
  simpa using this y h
theorem dropWhile_all {l : List (List UInt8)} (hl : Asc l) {x : List UInt8} (hx : x ∉ l) : ∀ y ∈ l.dropWhile (fun y => decide (y < x)), x < y := by
  induction l with
  | nil => simp
  | cons z l ih =>
    simp only [List.mem_cons, not_or] at hx
    rw [Asc, List.pairwise_cons] at hl
    rw [List.dropWhile_cons]
    split
    · exact ih hl.2 hx.2
    · rename_i h
      have hzx : x < z := by
        have h : ¬ z < x := by simpa using h
        rcases List.le_iff_lt_or_eq.1 (List.not_lt.1 h) with h | h
        · exact h
        · exact absurd h hx.1
      intro y hy
      rcases List.mem_cons.1 hy with rfl | hy
      · exact hzx
      · exact List.lt_trans hzx (hl.1 y hy)
theorem insS_asc {l : List (List UInt8)} {x : List UInt8} (hl : Asc l) : Asc (insS x l) := by
  unfold insS
  split
  · exact hl
  rename_i hx
  refine List.pairwise_append.2 ⟨?_, List.pairwise_cons.2 ⟨dropWhile_all hl hx, ?_⟩, fun a ha b hb => ?_⟩
  · exact List.Pairwise.sublist (List.takeWhile_sublist _) hl
  · exact List.Pairwise.sublist (List.dropWhile_sublist _) hl
  · have h1 := takeWhile_all ha
    rcases List.mem_cons.1 hb with rfl | hb
    · exact h1
    · exact List.lt_trans h1 (dropWhile_all hl hx b hb)
theorem insS_perm {l : List (List UInt8)} {x : List UInt8} (hx : x ∉ l) : List.Perm (insS x l) (x :: l) := by
  unfold insS
  rw [if_neg hx]
  refine List.perm_middle.trans (List.Perm.cons x ?_)
  rw [List.takeWhile_append_dropWhile]
theorem insS_mem {l : List (List UInt8)} {x y : List UInt8} : y ∈ insS x l ↔ y = x ∨ y ∈ l := by
  by_cases hx : x ∈ l
  · unfold insS
    rw [if_pos hx]
    exact ⟨.inr, fun h => h.elim (fun h => h ▸ hx) id⟩
  · rw [(insS_perm hx).mem_iff, List.mem_cons]
theorem insS_at {l : List (List UInt8)} {x : List UInt8} {k : Nat} (hl : Asc l) (hx : x ∉ l) (h1 : ∀ y ∈ l.drop k, x < y) (h2 : ∀ y, 0 < k → l[k - 1]? = some y → ¬ x < y) (hk : k ≤ l.length) : insS x l = l.take k ++ x :: l.drop k := by
  have ht : ∀ y ∈ l.take k, y < x := by
    intro y hy
    obtain ⟨j, hj, rfl⟩ := List.getElem_of_mem hy
    have hj' : j < k ∧ j < l.length := by rw [List.length_take] at hj; omega
    have hlast : l[k - 1]'(by omega) < x := by
      have h := h2 _ (by omega) (List.getElem?_eq_getElem (by omega))
      rcases List.le_iff_lt_or_eq.1 (List.not_lt.1 h) with h | h
      · exact h
      · exact absurd (h ▸ List.getElem_mem (by omega)) hx
    rw [List.getElem_take]
    by_cases he : j = k - 1
    · subst he; exact hlast
    · exact List.lt_trans (List.pairwise_iff_getElem.1 hl j (k - 1) hj'.2 (by omega) (by omega)) hlast
  refine asc_perm (insS_asc hl) ?_ ((insS_perm hx).trans ?_)
  · refine List.pairwise_append.2 ⟨hl.sublist (List.take_sublist _ _), List.pairwise_cons.2 ⟨h1, hl.sublist (List.drop_sublist _ _)⟩, fun a ha b hb => ?_⟩
    rcases List.mem_cons.1 hb with rfl | hb
    · exact ht a ha
    · exact List.lt_trans (ht a ha) (h1 b hb)
  · refine List.Perm.trans ?_ List.perm_middle.symm
    rw [List.take_append_drop]
theorem foldl_asc : ∀ {l o : List (List UInt8)}, Asc o → Asc (l.foldl (fun o x => insS x o) o)
  | [], _, h => h
  | _ :: l, _, h => foldl_asc (l := l) (insS_asc h)
theorem foldl_mem {y : List UInt8} : ∀ {l o : List (List UInt8)}, y ∈ l.foldl (fun o x => insS x o) o ↔ y ∈ l ∨ y ∈ o
  | [], _ => by simp
  | x :: l, o => by
    rw [List.foldl_cons, foldl_mem, insS_mem, List.mem_cons, or_left_comm, or_assoc]
theorem foldl_len : ∀ {l o : List (List UInt8)}, (l.foldl (fun o x => insS x o) o).length ≤ o.length + l.length
  | [], _ => by simp
  | x :: l, o => by
    have h : (insS x o).length ≤ o.length + 1 := by
      by_cases hx : x ∈ o
      · unfold insS; rw [if_pos hx]; omega
      · rw [(insS_perm hx).length_eq]; simp
    have := foldl_len (l := l) (o := insS x o)
    simp only [List.foldl_cons, List.length_cons]
    omega
theorem sset_len {l : List (List UInt8)} : (sset l).length ≤ l.length := by
  have := foldl_len (l := l) (o := [])
  simpa [sset] using this
theorem sset_asc {l : List (List UInt8)} : Asc (sset l) := foldl_asc List.Pairwise.nil
theorem sset_mem {l : List (List UInt8)} {y : List UInt8} : y ∈ sset l ↔ y ∈ l := by unfold sset; rw [foldl_mem]; simp
theorem asc_same {l m : List (List UInt8)} (hl : Asc l) (hm : Asc m) (h : ∀ x, x ∈ l ↔ x ∈ m) : l = m :=
  asc_perm hl hm ((List.perm_ext_iff_of_nodup (asc_nodup hl) (asc_nodup hm)).2 h)
theorem sset_srt {l : List (List UInt8)} (h : l.Nodup) : sset l = srt l :=
  asc_same sset_asc (srt_asc h) fun x => by rw [sset_mem, srt_perm.mem_iff]
theorem setMapS {xs : List (List UInt8)} {i : Nat} {v : List UInt8} : (List.map T.s xs).set i (T.s v) = List.map T.s (xs.set i v) := List.map_set.symm
theorem mid_at {out : List (List UInt8)} {a : List UInt8} {j : Nat} (hj : j ≤ out.length) : (out.take j ++ a :: out.drop j)[j]? = some a := by
  rw [List.getElem?_append_right (by rw [List.length_take]; omega), List.length_take, show j - min j out.length = 0 by omega]; rfl
theorem mid_before {out : List (List UInt8)} {a : List UInt8} {j : Nat} (hj : j ≤ out.length) (h0 : 0 < j) : (out.take j ++ a :: out.drop j)[j - 1]? = out[j - 1]? := by
  rw [List.getElem?_append_left (by rw [List.length_take]; omega), List.getElem?_take_of_lt (by omega)]
theorem mid_swap {out : List (List UInt8)} {a b : List UInt8} {j : Nat} (hj : j ≤ out.length) (h0 : 0 < j) (hb : out[j - 1]? = some b) : ((out.take j ++ a :: out.drop j).set j b).set (j - 1) a = out.take (j - 1) ++ a :: out.drop (j - 1) := by
  obtain ⟨k, rfl⟩ : ∃ k, j = k + 1 := ⟨j - 1, by omega⟩
  simp only [Nat.add_sub_cancel] at *
  obtain ⟨hk, hb⟩ := List.getElem?_eq_some_iff.1 hb
  rw [List.set_append_right _ _ (by rw [List.length_take]; omega), List.length_take, show k + 1 - min (k + 1) out.length = 0 by omega, List.set_cons_zero]
  rw [List.take_succ_eq_append_getElem hk, hb, List.append_assoc, List.set_append_right _ _ (by rw [List.length_take]; omega), List.length_take, show k - min k out.length = 0 by omega]
  rw [List.drop_eq_getElem_cons hk, hb]
  rfl
variable [Bd]
theorem l2Sorted (l : List (List UInt8)) (hB : Bd.B ≤ 2147483648) : Con P0 48 [eStringS l] (.sr 0) [.arr 9 1 (.own .leaf) ((sset l).map T.s)] := by
  refine Con.intro (fn := Try.f48) [.tmp 2] (fun i => if i = 8 then (14, []) else (0, [])) mixed (by kernel_rfl) rfl (by decide) rfl (by rfl) (by kernel_rfl) ?_
  simp -implicitDefEqProofs (maxSteps := 2000000) only [push_cast, Nat.reduceEqDiff, Nat.reduceLT, Nat.reduceLeDiff, Nat.reduceAdd, Nat.reduceMul, Nat.reduceSub, Nat.reduceBEq, ↓reduceIte, reduceCtorEq]
  have := Bd.lo
  refine ⟨rfl, by omega, ?_⟩
  refine WL.loop (ι := Nat) (D := (fun i => if i = 8 then (14, []) else (0, []))) (fun i => i ≤ l.length) (fun i => ⟨64, [(0, .t (eStringS l)), (3, .sr 0), (4, .t (.i .i64 i))], [.arr 9 1 (.own .leaf) ((sset (l.take i)).map T.s)]⟩) (fun i => l.length - i) mixed (by kernel_rfl) 0 (by omega) (Keep.wk (ids := [some 0]) ?_) ?_
  · simp only [push_cast, Nat.reduceEqDiff, Nat.reduceLT, Nat.reduceLeDiff, Nat.reduceAdd, Nat.reduceMul, Nat.reduceSub, Nat.reduceBEq, ↓reduceIte, reduceCtorEq, sset, List.take_zero, List.foldl_nil] <;> rfl
  · intro i hi
    simp -implicitDefEqProofs (maxSteps := 2000000) only [push_cast, Nat.reduceEqDiff, Nat.reduceLT, Nat.reduceLeDiff, Nat.reduceAdd, Nat.reduceMul, Nat.reduceSub, Nat.reduceBEq, ↓reduceIte, reduceCtorEq]
    intro hlen
    have hhi := Bd.hi
    refine iteI (fun h => ⟨by omega, fun a ha => ?_⟩) (fun h => ?_)
    · rw [Int.toNat_natCast] at ha
      have hsn := sset_snoc ha
      refine Callx.closed (l1Has (sset (l.take i)) a) rfl rfl (.inr ⟨rfl, rfl⟩) ?_
      simp -implicitDefEqProofs (maxSteps := 2000000) only [push_cast, Nat.reduceEqDiff, Nat.reduceLT, Nat.reduceLeDiff, Nat.reduceAdd, Nat.reduceMul, Nat.reduceSub, Nat.reduceBEq, ↓reduceIte, reduceCtorEq]
      have hso : Asc (sset (l.take i)) := sset_asc
      refine iteI (fun h1 => ?_) (fun h1 => ?_)
      · have hi1 : insS a (sset (l.take i)) = sset (l.take i) := if_pos (by simpa using h1)
        refine ⟨by unfold inI64; omega, i + 1, by omega, by omega, Keep.wk (ids := [some 0]) ?_⟩
        rw [hsn, hi1]
        simp only [push_cast, Nat.reduceEqDiff, Nat.reduceLT, Nat.reduceLeDiff, Nat.reduceAdd, Nat.reduceMul, Nat.reduceSub, Nat.reduceBEq, ↓reduceIte, reduceCtorEq] <;> rfl
      · have hol : (sset (l.take i)).length < l.length := by
          have := sset_len (l := l.take i)
          rw [List.length_take] at this
          omega
        generalize sset (l.take i) = out at *
        refine ⟨by omega, fun a' ha' => ?_⟩
        rw [Int.toNat_natCast, ha] at ha'
        cases ha'
        refine ⟨rfl, by omega, rfl, by omega, by omega, fun _ => ⟨by unfold inI64; omega, ?_⟩⟩
        refine WL.loop (ι := Nat) (D := (fun i => if i = 8 then (14, []) else (0, []))) (fun j => j ≤ out.length ∧ ∀ y ∈ out.drop j, a < y) (fun j => ⟨64, [(0, .t (eStringS l)), (3, .sr 0), (4, .t (.i .i64 i)), (5, .t (.i .i64 j))], [.arr 9 1 (.own .leaf) ((out.take j ++ a :: out.drop j).map T.s)]⟩) (fun j => j) mixed (by kernel_rfl) out.length ⟨Nat.le_refl _, by simp⟩ (Keep.wk (ids := [some 2]) ?_) ?_
        · have : ((out.length : Int) + 1 - 1) = out.length := by omega
          simp only [push_cast, Nat.reduceEqDiff, Nat.reduceLT, Nat.reduceLeDiff, Nat.reduceAdd, Nat.reduceMul, Nat.reduceSub, Nat.reduceBEq, ↓reduceIte, reduceCtorEq, this, List.take_length, List.drop_length, List.map_append, List.map_cons, List.map_nil] <;> rfl
        · rintro j ⟨hj, hja⟩
          simp -implicitDefEqProofs (maxSteps := 2000000) only [push_cast, Nat.reduceEqDiff, Nat.reduceLT, Nat.reduceLeDiff, Nat.reduceAdd, Nat.reduceMul, Nat.reduceSub, Nat.reduceBEq, ↓reduceIte, reduceCtorEq, setMapS]
          have hl : (out.take j).length + ((out.drop j).length + 1) = out.length + 1 := by rw [List.length_take, List.length_drop]; omega
          have fin : ∀ (_ : ∀ y, 0 < j → out[j - 1]? = some y → ¬ a < y), out.take j ++ a :: out.drop j = sset (l.take (i + 1)) := fun h => (hsn.trans (insS_at hso h1 hja h hj)).symm
          refine iteI (fun hp => ?_) (fun hp => ?_)
          · have e1 : (Int.toNat (j : Int)) = j := Int.toNat_natCast _
            have e2 : (Int.toNat ((j : Int) - 1)) = j - 1 := by omega
            simp only [e1, e2]
            refine ⟨by omega, by omega, fun a1 ha1 => ?_⟩
            rw [mid_at hj] at ha1
            cases ha1
            refine ⟨by unfold inI64; omega, by omega, by omega, fun b hb => ?_⟩
            have hb' := hb
            rw [mid_before hj (by omega)] at hb
            rw [Go.Proofs.bytesLess_eq]
            refine iteI (fun hl => ?_) (fun hl => ?_)
            · have hl : a < b := by simpa using hl
              refine ⟨by omega, by omega, fun a2 ha2 => ?_⟩
              rw [mid_at hj] at ha2
              cases ha2
              refine ⟨by unfold inI64; omega, by omega, by omega, fun b2 hb2 => ?_⟩
              rw [hb'] at hb2
              cases hb2
              refine ⟨by omega, by omega, fun _ _ => ⟨by unfold inI64; omega, by omega, by omega, fun _ _ => ⟨by unfold inI64; omega, j - 1, ⟨by omega, ?_⟩, by omega, Keep.wk (ids := [some 0]) ?_⟩⟩⟩
              · intro y hy
                rw [List.drop_eq_getElem_cons (by omega), List.mem_cons] at hy
                rcases hy with rfl | hy
                · rw [List.getElem?_eq_getElem (by omega)] at hb
                  cases hb; exact hl
                · rw [show j - 1 + 1 = j by omega] at hy
                  exact hja y hy
              · rw [mid_swap hj (by omega) hb]
                have e3 : ((j - 1 : Nat) : Int) = (j : Int) - 1 := by omega
                simp only [push_cast, Nat.reduceEqDiff, Nat.reduceLT, Nat.reduceLeDiff, Nat.reduceAdd, Nat.reduceMul, Nat.reduceSub, Nat.reduceBEq, ↓reduceIte, reduceCtorEq, e3] <;> rfl
            · refine ⟨by unfold inI64; omega, i + 1, by omega, by omega, Keep.wk (ids := [some 0]) ?_⟩
              rw [fin fun y _ hy => by rw [hb] at hy; cases hy; simpa using hl]
              simp only [push_cast, Nat.reduceEqDiff, Nat.reduceLT, Nat.reduceLeDiff, Nat.reduceAdd, Nat.reduceMul, Nat.reduceSub, Nat.reduceBEq, ↓reduceIte, reduceCtorEq] <;> rfl
          · refine ⟨by unfold inI64; omega, i + 1, by omega, by omega, Keep.wk (ids := [some 0]) ?_⟩
            rw [fin fun y hy => absurd hy (by omega)]
            simp only [push_cast, Nat.reduceEqDiff, Nat.reduceLT, Nat.reduceLeDiff, Nat.reduceAdd, Nat.reduceMul, Nat.reduceSub, Nat.reduceBEq, ↓reduceIte, reduceCtorEq] <;> rfl
    · rw [List.take_of_length_le (by omega)]
      exact Close.of [some 0] rfl rfl rfl rfl (by simp only [push_cast, Nat.reduceEqDiff, Nat.reduceLT, Nat.reduceLeDiff, Nat.reduceAdd, Nat.reduceMul, Nat.reduceSub, Nat.reduceBEq, ↓reduceIte, reduceCtorEq] <;> rfl)
end Go.Proofs.Ytmgdkkhnjkepiaa.BX
namespace Go.Proofs.Ytmgdkkhnjkepiaa.BX
set_option linter.unusedSectionVars false
set_option linter.unusedSimpArgs false
set_option linter.unusedVariables false
open Go Go.RowKit
def Entry.pair (e : Entry) : SlotK × List UInt8 := (e.slot, e.id)
def Ordered (s : List Entry) : Prop := s.Pairwise fun a b => before a b = true
theorem ordered_of {s : List Entry} (h : inOrd s = true) : Ordered s := by
  refine List.pairwise_iff_getElem.2 fun i j hi hj hij => ?_
  refine inOrd_far h (j - (i + 1)) i _ _ (List.getElem?_eq_getElem hi) ?_
  rw [show i + 1 + (j - (i + 1)) = j by omega]
  exact List.getElem?_eq_getElem hj
theorem inOrd_of {s : List Entry} (h : Ordered s) : inOrd s = true := by
  unfold inOrd
  refine @decide_eq_true _ (Classical.propDecidable _) fun i a b ha hb => ?_
  obtain ⟨hi, rfl⟩ := List.getElem?_eq_some_iff.1 ha
  obtain ⟨hj, rfl⟩ := List.getElem?_eq_some_iff.1 hb
  exact List.pairwise_iff_getElem.1 h i (i + 1) hi hj (by omega)
theorem before_asymm {a b : Entry} (h : before a b = true) : before b a = false := by
  cases hb : before b a with
  | false => rfl
  | true => exact absurd rfl (before_slot (before_trans h hb))
theorem before_total {a b : Entry} (h : before a b = false) : a.slot = b.slot ∨ before b a = true := by
  unfold before at *
  by_cases h1 : a.typ = b.typ
  · simp only [h1, not_true, if_false] at h ⊢
    cases h2 : Op.bytesLess b.key a.key with
    | true => exact .inr rfl
    | false => exact .inl (by simp only [Entry.slot, h1, less_total h h2])
  · have h1' : ¬ b.typ = a.typ := fun e => h1 e.symm
    simp only [h1, h1', not_false_eq_true, if_true] at h ⊢
    cases h2 : Op.bytesLess b.typ a.typ with
    | true => exact .inr rfl
    | false => exact absurd (less_total h h2) h1
theorem before_same {a b c : Entry} (h : a.slot = b.slot) : before a c = before b c ∧ before c a = before c b := by
  simp only [Entry.slot, Prod.mk.injEq] at h
  unfold before
  rw [h.1, h.2]
  exact ⟨rfl, rfl⟩
def setL (s : List Entry) (e : Entry) (keep : Bool) : List Entry := s.takeWhile (fun x => before x e) ++ ((if (keep || decide (¬ e.id = [])) = true then [e] else []) ++ s.filter fun x => before e x)
theorem setL_mem {s : List Entry} {e : Entry} {keep : Bool} {y : Entry} (h : y ∈ setL s e keep) : y ∈ s ∨ y = e := by
  unfold setL at h
  rcases List.mem_append.1 h with h | h
  · exact .inl ((List.takeWhile_prefix _).subset h)
  · rcases List.mem_append.1 h with h | h
    · split at h
      · exact .inr (by simpa using h)
      · cases h
    · exact .inl (List.mem_filter.1 h).1
theorem setL_spec {e : Entry} {keep : Bool} : ∀ {s : List Entry}, Ordered s → Ordered (setL s e keep) ∧
    ((keep || decide (¬ e.id = [])) = true → List.Perm ((setL s e keep).map Entry.pair) (aset e.slot e.id (s.map Entry.pair))) ∧
    ((keep || decide (¬ e.id = [])) = false → List.Perm ((setL s e keep).map Entry.pair) (adel e.slot (s.map Entry.pair)))
  | [], _ => by
    refine ⟨?_, fun h => ?_, fun h => ?_⟩
    · unfold setL; split <;> simp [Ordered]
    · unfold setL; rw [if_pos h]; simp [aset, Entry.pair]
    · unfold setL; rw [if_neg (by rw [h]; simp)]; simp [adel]
  | x :: r, hs => by
    have hs' := hs
    unfold Ordered at hs'
    rw [List.pairwise_cons] at hs'
    obtain ⟨hx, hr⟩ := hs'
    have ih := setL_spec (e := e) (keep := keep) (s := r) hr
    by_cases h1 : before x e = true
    · have hcons : setL (x :: r) e keep = x :: setL r e keep := by
        unfold setL
        rw [List.takeWhile_cons_of_pos (p := fun x => before x e) h1, List.filter_cons_of_neg (p := fun x => before e x) (by rw [before_asymm h1]; simp)]
        simp
      have hne : x.pair.1 ≠ e.slot := before_slot h1
      rw [hcons]
      refine ⟨?_, fun h => ?_, fun h => ?_⟩
      · unfold Ordered
        rw [List.pairwise_cons]
        exact ⟨fun y hy => (setL_mem hy).elim (hx y) (fun h => h ▸ h1), ih.1⟩
      · simp only [List.map_cons, aset]
        rw [if_neg hne]
        exact (ih.2.1 h).cons _
      · simp only [List.map_cons, adel]
        rw [if_neg hne]
        exact (ih.2.2 h).cons _
    · have h1' : before x e = false := by simpa using h1
      have htw : (x :: r).takeWhile (fun x => before x e) = [] := List.takeWhile_cons_of_neg (p := fun x => before x e) h1
      rcases before_total h1' with h2 | h2
      · have hr2 : ∀ y ∈ r, before e y = true := fun y hy => by rw [← (before_same (c := y) h2).1]; exact hx y hy
        have hf : (x :: r).filter (fun x => before e x) = r := by
          rw [List.filter_cons_of_neg (p := fun x => before e x) (by rw [← (before_same (c := x) h2).1]; have := before_slot (a := x) (b := x); intro hh; exact this hh rfl)]
          exact List.filter_eq_self.2 hr2
        unfold setL
        rw [htw, hf, List.nil_append]
        refine ⟨?_, fun h => ?_, fun h => ?_⟩
        · split
          · unfold Ordered; rw [List.singleton_append, List.pairwise_cons]; exact ⟨hr2, hr⟩
          · exact hr
        · rw [if_pos h]
          simp only [List.map_cons, List.singleton_append, aset]
          rw [if_pos (show x.pair.1 = e.slot from h2)]
          simp [Entry.pair, h2]
        · rw [if_neg (by rw [h]; simp)]
          simp only [List.map_cons, List.nil_append, adel]
          rw [if_pos (show x.pair.1 = e.slot from h2)]
      · have hr2 : ∀ y ∈ x :: r, before e y = true := fun y hy => by
          rcases List.mem_cons.1 hy with rfl | hy
          · exact h2
          · exact before_trans h2 (hx y hy)
        have hf : (x :: r).filter (fun x => before e x) = x :: r := List.filter_eq_self.2 hr2
        have hni : e.slot ∉ ((x :: r).map Entry.pair).map (·.1) := by
          intro hm
          obtain ⟨p, hp, hpe⟩ := List.mem_map.1 hm
          obtain ⟨y, hy, rfl⟩ := List.mem_map.1 hp
          exact before_slot (hr2 y hy) hpe.symm
        unfold setL
        rw [htw, hf, List.nil_append]
        refine ⟨?_, fun h => ?_, fun h => ?_⟩
        · split
          · unfold Ordered; rw [List.singleton_append, List.pairwise_cons]; exact ⟨hr2, hs⟩
          · exact hs
        · rw [if_pos h, aset_new hni, List.singleton_append]
          exact List.perm_append_comm (l₁ := [e.pair])
        · rw [if_neg (by rw [h]; simp), adel_new hni]
          exact List.Perm.refl _
theorem adel_filter {κ β : Type} [DecidableEq κ] {k : κ} : ∀ {m : List (κ × β)}, (m.map (·.1)).Nodup → adel k m = m.filter fun p => decide (p.1 ≠ k)
  | [], _ => rfl
  | p :: r, h => by
    simp only [List.map_cons, List.nodup_cons] at h
    simp only [adel]
    split
    · rename_i hp
      rw [List.filter_cons_of_neg (p := fun p : κ × β => decide (p.1 ≠ k)) (by simp [hp])]
      refine (List.filter_eq_self.2 fun q hq => ?_).symm
      simp only [decide_eq_true_eq]
      rintro rfl
      exact h.1 (hp ▸ List.mem_map_of_mem hq)
    · rename_i hp
      rw [List.filter_cons_of_pos (p := fun p : κ × β => decide (p.1 ≠ k)) (by simp [hp]), adel_filter h.2]
theorem ordered_keys {s : List Entry} (h : Ordered s) : ((s.map Entry.pair).map (·.1)).Nodup := by
  have := inOrd_nodup (inOrd_of h)
  rw [List.map_map]
  exact this
def patchL (s : List Entry) (ch : List Entry) : List Entry := ch.foldl (fun o e => setL o e false) s
theorem mem_aget {m : List (SlotK × List UInt8)} (hn : (m.map (·.1)).Nodup) {p : SlotK × List UInt8} : p ∈ m ↔ aget p.1 m = some p.2 := by
  constructor
  · intro h
    obtain ⟨i, hi⟩ := List.getElem?_of_mem h
    exact aget_at hn hi rfl
  · intro h
    induction m with
    | nil => cases h
    | cons q m ih =>
      simp only [List.map_cons, List.nodup_cons] at hn
      simp only [aget] at h
      split at h
      · rename_i hq
        have h2 : q.2 = p.2 := Option.some.inj h
        have : p = q := Prod.ext hq.symm h2.symm
        rw [this]; simp
      · exact List.mem_cons_of_mem _ (ih hn.2 h)
abbrev enO (s : List Entry) : Ob := .arr 38 3 (.own (.ag [.leaf, .leaf, .leaf])) (s.map eEntry)
end Go.Proofs.Ytmgdkkhnjkepiaa.BX
namespace Go.Proofs.Ytmgdkkhnjkepiaa.BX
set_option linter.unusedSectionVars false
set_option linter.unusedSimpArgs false
set_option linter.unusedVariables false
open Go Go.RowKit
set_option maxRecDepth 20000
set_option maxHeartbeats 400000
theorem setL_len_ord {s : List Entry} {e : Entry} {keep : Bool} (h : Ordered s) : (setL s e keep).length ≤ s.length + 1 := by
  obtain ⟨_, h2, h3⟩ := setL_spec (e := e) (keep := keep) h
  cases hb : (keep || decide (¬ e.id = [])) with
  | true =>
    have := (h2 hb).length_eq
    have h4 := (aset_len (k := e.slot) (v := e.id) (l := s.map Entry.pair)).2
    simp only [List.length_map] at this h4
    omega
  | false =>
    have := (h3 hb).length_eq
    have h4 := (adel_sub (k := e.slot) (l := s.map Entry.pair)).length_le
    simp only [List.length_map] at this h4
    omega
theorem takeWhile_at {α : Type} {p : α → Bool} : ∀ {s : List α} {i : Nat}, (∀ x ∈ s.take i, p x = true) → (∀ x, s[i]? = some x → p x = false) → s.takeWhile p = s.take i
  | [], i, _, _ => by simp
  | x :: r, 0, _, h => by
    rw [List.takeWhile_cons_of_neg (by rw [h x rfl]; simp)]; rfl
  | x :: r, i + 1, h1, h2 => by
    rw [List.takeWhile_cons_of_pos (h1 x (by simp)), takeWhile_at (i := i) (fun y hy => h1 y (by simp [hy])) (fun y hy => h2 y (by simpa using hy))]
    rfl
theorem filter_take {α : Type} {p : α → Bool} {s : List α} {i : Nat} {a : α} (h : s[i]? = some a) : (s.take (i + 1)).filter p = (s.take i).filter p ++ (if p a = true then [a] else []) := by
  rw [List.take_add_one, h, List.filter_append]
  congr 1
  simp only [Option.toList_some, List.filter_cons, List.filter_nil]
def headL (s : List Entry) (e : Entry) (keep : Bool) : List Entry := s.takeWhile (fun x => before x e) ++ (if (keep || decide (¬ e.id = [])) = true then [e] else [])
theorem headL_len {s : List Entry} {e : Entry} {keep : Bool} : (headL s e keep).length ≤ s.length + 1 := by
  unfold headL
  have := (List.takeWhile_prefix (p := fun x => before x e) (l := s)).length_le
  rw [List.length_append]
  split <;> simp <;> omega
theorem setL_eq {s : List Entry} {e : Entry} {keep : Bool} : setL s e keep = headL s e keep ++ s.filter (fun x => before e x) := by
  unfold setL headL
  rw [List.append_assoc]
theorem patchL_ord {ch : List Entry} : ∀ {s : List Entry}, Ordered s → Ordered (patchL s ch) ∧ (patchL s ch).length ≤ s.length + ch.length := by
  induction ch with
  | nil => intro s h; exact ⟨h, by simp [patchL]⟩
  | cons e ch ih =>
    intro s h
    have h1 := (setL_spec (e := e) (keep := false) h).1
    have h2 := setL_len_ord (e := e) (keep := false) h
    have h3 := ih h1
    refine ⟨h3.1, ?_⟩
    have h4 := h3.2
    simp only [List.length_cons]
    show (patchL (setL s e false) ch).length ≤ _
    omega
variable [Bd]
theorem l4Set (s : List Entry) (e : Entry) (keep : Bool) (hB : Bd.B ≤ 2147483648) (hl : 2 * s.length + 1 < Bd.B) : Con P0 32 [eEntryS s, eEntry e, .b keep] (.sr 0) [.arr 38 3 (.own (.ag [.leaf, .leaf, .leaf])) ((setL s e keep).map eEntry)] := by
  refine Con.intro (fn := Try.f32) [.tmp 6] (fun i => if i = 11 then (6, []) else if i = 3 then (12, []) else (0, [])) mixed (by kernel_rfl) rfl (by decide) rfl (by rfl) (by kernel_rfl) ?_
  simp -implicitDefEqProofs (maxSteps := 2000000) only [push_cast, Nat.reduceEqDiff, Nat.reduceLT, Nat.reduceLeDiff, Nat.reduceAdd, Nat.reduceMul, Nat.reduceSub, Nat.reduceBEq, ↓reduceIte, reduceCtorEq]
  have := Bd.lo
  have hhl := headL_len (s := s) (e := e) (keep := keep)
  refine ⟨rfl, by omega, ?_⟩
  refine WL.loop (ι := Nat) (D := (fun i => if i = 11 then (6, []) else if i = 3 then (12, []) else (0, []))) (fun i => i ≤ s.length ∧ ∀ x ∈ s.take i, before x e = true) (fun i => ⟨62, [(0, .t (eEntryS s)), (2, .t (.b keep)), (4, .rf 0 0), (7, .sr 1), (8, .t (.i .i64 i))], [.box (.t (eEntry e)), .arr 38 3 (.own (.ag [.leaf, .leaf, .leaf])) ((s.take i).map eEntry)]⟩) (fun i => s.length - i) mixed (by kernel_rfl) 0 ⟨by omega, by simp⟩ (Keep.wk (ids := [some 0, some 1]) ?_) ?_
  · simp only [push_cast, Nat.reduceEqDiff, Nat.reduceLT, Nat.reduceLeDiff, Nat.reduceAdd, Nat.reduceMul, Nat.reduceSub, Nat.reduceBEq, ↓reduceIte, reduceCtorEq] <;> trivial
  · rintro i ⟨hi, hc⟩
    simp -implicitDefEqProofs (maxSteps := 2000000) only [push_cast, Nat.reduceEqDiff, Nat.reduceLT, Nat.reduceLeDiff, Nat.reduceAdd, Nat.reduceMul, Nat.reduceSub, Nat.reduceBEq, ↓reduceIte, reduceCtorEq, eEntry_len, eEntry_isAg, eEntry_ones, eEntry_one]
    intro hls
    split
    · rename_i h
      refine ⟨by omega, fun a ha => CallV.t (l4Before a e) (.inl rfl) ?_⟩
      rw [Int.toNat_natCast] at ha
      simp -implicitDefEqProofs (maxSteps := 2000000) only [push_cast, Nat.reduceEqDiff, Nat.reduceLT, Nat.reduceLeDiff, Nat.reduceAdd, Nat.reduceMul, Nat.reduceSub, Nat.reduceBEq, ↓reduceIte, reduceCtorEq]
      cases hb : before a e with
      | true =>
        simp -implicitDefEqProofs (maxSteps := 2000000) only [push_cast, Nat.reduceEqDiff, Nat.reduceLT, Nat.reduceLeDiff, Nat.reduceAdd, Nat.reduceMul, Nat.reduceSub, Nat.reduceBEq, ↓reduceIte, reduceCtorEq, eEntry_len, eEntry_isAg, eEntry_ones, eEntry_one, eEntry_fits]
        refine ⟨by omega, fun c hc2 => ?_⟩
        rw [Int.toNat_natCast, ha] at hc2
        cases hc2
        have hts : s.take (i + 1) = s.take i ++ [a] := by rw [List.take_add_one, ha]; rfl
        refine ⟨rfl, by omega, rfl, by omega, by simp only [List.length_take]; omega, by unfold inI64; omega, i + 1, ⟨by omega, fun x hx => ?_⟩, by omega, Keep.wk (ids := [some 0, some 3]) ?_⟩
        · rw [hts] at hx
          rcases List.mem_append.1 hx with hx | hx
          · exact hc x hx
          · simp at hx; subst hx; exact hb
        · simp only [push_cast, Nat.reduceEqDiff, Nat.reduceLT, Nat.reduceLeDiff, Nat.reduceAdd, Nat.reduceMul, Nat.reduceSub, Nat.reduceBEq, ↓reduceIte, reduceCtorEq, hts, List.map_append] <;> rfl
      | false =>
        have htw : s.takeWhile (fun x => before x e) = s.take i := takeWhile_at hc (fun x hx => by rw [ha] at hx; cases hx; exact hb)
        simp -implicitDefEqProofs (maxSteps := 2000000) only [push_cast, Nat.reduceEqDiff, Nat.reduceLT, Nat.reduceLeDiff, Nat.reduceAdd, Nat.reduceMul, Nat.reduceSub, Nat.reduceBEq, ↓reduceIte, reduceCtorEq, eEntry]
        split
        · rename_i hk
          have hM : headL s e keep = s.take i ++ [e] := by unfold headL; rw [htw, if_pos (by simp [hk])]
          refine ⟨rfl, by omega, rfl, by omega, by simp only [List.length_take]; omega, ?_⟩
          refine WL.loop (ι := Nat) (D := (fun i => if i = 11 then (6, []) else if i = 3 then (12, []) else (0, []))) (fun j => j ≤ s.length) (fun j => ⟨62, [(0, .t (eEntryS s)), (4, .rf 0 0), (7, .sr 1), (9, .t (.i .i64 j))], [.box (.t (eEntry e)), .arr 38 3 (.own (.ag [.leaf, .leaf, .leaf])) ((headL s e keep ++ (s.take j).filter (fun x => before e x)).map eEntry)]⟩) (fun j => s.length - j) mixed (by kernel_rfl) 0 (by omega) (Keep.wk (ids := [some 0, some 3]) ?_) ?_
          · simp only [push_cast, Nat.reduceEqDiff, Nat.reduceLT, Nat.reduceLeDiff, Nat.reduceAdd, Nat.reduceMul, Nat.reduceSub, Nat.reduceBEq, ↓reduceIte, reduceCtorEq, hM, eEntry, List.filter_nil, List.map_append] <;> first | rfl | exact ⟨rfl, rfl⟩ | exact ⟨rfl, rfl, rfl⟩
          intro j hj
          simp -implicitDefEqProofs (maxSteps := 2000000) only [push_cast, Nat.reduceEqDiff, Nat.reduceLT, Nat.reduceLeDiff, Nat.reduceAdd, Nat.reduceMul, Nat.reduceSub, Nat.reduceBEq, ↓reduceIte, reduceCtorEq, eEntry_len, eEntry_isAg, eEntry_ones, eEntry_one]
          intro _
          have hfl := List.length_filter_le (fun x => before e x) (s.take j)
          have htj := List.length_take_le j s
          split
          · rename_i h2
            refine ⟨by omega, fun b hb => CallV.t (l4Before e b) (.inl rfl) ?_⟩
            rw [Int.toNat_natCast] at hb
            have hft := filter_take (p := fun x => before e x) hb
            simp -implicitDefEqProofs (maxSteps := 2000000) only [push_cast, Nat.reduceEqDiff, Nat.reduceLT, Nat.reduceLeDiff, Nat.reduceAdd, Nat.reduceMul, Nat.reduceSub, Nat.reduceBEq, ↓reduceIte, reduceCtorEq]
            cases hbb : before e b with
            | true =>
              simp -implicitDefEqProofs (maxSteps := 2000000) only [push_cast, Nat.reduceEqDiff, Nat.reduceLT, Nat.reduceLeDiff, Nat.reduceAdd, Nat.reduceMul, Nat.reduceSub, Nat.reduceBEq, ↓reduceIte, reduceCtorEq, eEntry_len, eEntry_isAg, eEntry_ones, eEntry_one, eEntry_fits]
              refine ⟨by omega, fun c hc2 => ?_⟩
              rw [Int.toNat_natCast, hb] at hc2
              cases hc2
              rw [hbb, if_pos rfl] at hft
              refine ⟨rfl, by omega, rfl, by omega, by omega, by unfold inI64; omega, j + 1, by omega, by omega, Keep.wk (ids := [some 0, some 3]) ?_⟩
              simp only [push_cast, Nat.reduceEqDiff, Nat.reduceLT, Nat.reduceLeDiff, Nat.reduceAdd, Nat.reduceMul, Nat.reduceSub, Nat.reduceBEq, ↓reduceIte, reduceCtorEq, hft, List.map_append, List.append_assoc] <;> rfl
            | false =>
              simp -implicitDefEqProofs (maxSteps := 2000000) only [push_cast, Nat.reduceEqDiff, Nat.reduceLT, Nat.reduceLeDiff, Nat.reduceAdd, Nat.reduceMul, Nat.reduceSub, Nat.reduceBEq, ↓reduceIte, reduceCtorEq]
              rw [hbb, if_neg (by simp), List.append_nil] at hft
              refine ⟨by unfold inI64; omega, j + 1, by omega, by omega, Keep.wk (ids := [some 0, some 1]) ?_⟩
              simp only [push_cast, Nat.reduceEqDiff, Nat.reduceLT, Nat.reduceLeDiff, Nat.reduceAdd, Nat.reduceMul, Nat.reduceSub, Nat.reduceBEq, ↓reduceIte, reduceCtorEq, hft] <;> rfl
          · have hj : j = s.length := by omega
            subst hj
            rw [List.take_length, ← setL_eq]
            exact Close.of [some 1] rfl rfl rfl rfl (by simp only [push_cast, Nat.reduceEqDiff, Nat.reduceLT, Nat.reduceLeDiff, Nat.reduceAdd, Nat.reduceMul, Nat.reduceSub, Nat.reduceBEq, ↓reduceIte, reduceCtorEq] <;> rfl)
        · rename_i hk
          split
          · rename_i hid
            have hM : headL s e keep = s.take i ++ [e] := by unfold headL; rw [htw, if_pos (by simp [hid])]
            refine ⟨rfl, by omega, rfl, by omega, by simp only [List.length_take]; omega, ?_⟩
            refine WL.loop (ι := Nat) (D := (fun i => if i = 11 then (6, []) else if i = 3 then (12, []) else (0, []))) (fun j => j ≤ s.length) (fun j => ⟨62, [(0, .t (eEntryS s)), (4, .rf 0 0), (7, .sr 1), (9, .t (.i .i64 j))], [.box (.t (eEntry e)), .arr 38 3 (.own (.ag [.leaf, .leaf, .leaf])) ((headL s e keep ++ (s.take j).filter (fun x => before e x)).map eEntry)]⟩) (fun j => s.length - j) mixed (by kernel_rfl) 0 (by omega) (Keep.wk (ids := [some 0, some 3]) ?_) ?_
            · simp only [push_cast, Nat.reduceEqDiff, Nat.reduceLT, Nat.reduceLeDiff, Nat.reduceAdd, Nat.reduceMul, Nat.reduceSub, Nat.reduceBEq, ↓reduceIte, reduceCtorEq, hM, eEntry, List.filter_nil, List.map_append] <;> first | rfl | exact ⟨rfl, rfl⟩ | exact ⟨rfl, rfl, rfl⟩
            intro j hj
            simp -implicitDefEqProofs (maxSteps := 2000000) only [push_cast, Nat.reduceEqDiff, Nat.reduceLT, Nat.reduceLeDiff, Nat.reduceAdd, Nat.reduceMul, Nat.reduceSub, Nat.reduceBEq, ↓reduceIte, reduceCtorEq, eEntry_len, eEntry_isAg, eEntry_ones, eEntry_one]
            intro _
            have hfl := List.length_filter_le (fun x => before e x) (s.take j)
            have htj := List.length_take_le j s
            split
            · rename_i h2
              refine ⟨by omega, fun b hb => CallV.t (l4Before e b) (.inl rfl) ?_⟩
              rw [Int.toNat_natCast] at hb
              have hft := filter_take (p := fun x => before e x) hb
              simp -implicitDefEqProofs (maxSteps := 2000000) only [push_cast, Nat.reduceEqDiff, Nat.reduceLT, Nat.reduceLeDiff, Nat.reduceAdd, Nat.reduceMul, Nat.reduceSub, Nat.reduceBEq, ↓reduceIte, reduceCtorEq]
              cases hbb : before e b with
              | true =>
                simp -implicitDefEqProofs (maxSteps := 2000000) only [push_cast, Nat.reduceEqDiff, Nat.reduceLT, Nat.reduceLeDiff, Nat.reduceAdd, Nat.reduceMul, Nat.reduceSub, Nat.reduceBEq, ↓reduceIte, reduceCtorEq, eEntry_len, eEntry_isAg, eEntry_ones, eEntry_one, eEntry_fits]
                refine ⟨by omega, fun c hc2 => ?_⟩
                rw [Int.toNat_natCast, hb] at hc2
                cases hc2
                rw [hbb, if_pos rfl] at hft
                refine ⟨rfl, by omega, rfl, by omega, by omega, by unfold inI64; omega, j + 1, by omega, by omega, Keep.wk (ids := [some 0, some 3]) ?_⟩
                simp only [push_cast, Nat.reduceEqDiff, Nat.reduceLT, Nat.reduceLeDiff, Nat.reduceAdd, Nat.reduceMul, Nat.reduceSub, Nat.reduceBEq, ↓reduceIte, reduceCtorEq, hft, List.map_append, List.append_assoc] <;> rfl
              | false =>
                simp -implicitDefEqProofs (maxSteps := 2000000) only [push_cast, Nat.reduceEqDiff, Nat.reduceLT, Nat.reduceLeDiff, Nat.reduceAdd, Nat.reduceMul, Nat.reduceSub, Nat.reduceBEq, ↓reduceIte, reduceCtorEq]
                rw [hbb, if_neg (by simp), List.append_nil] at hft
                refine ⟨by unfold inI64; omega, j + 1, by omega, by omega, Keep.wk (ids := [some 0, some 1]) ?_⟩
                simp only [push_cast, Nat.reduceEqDiff, Nat.reduceLT, Nat.reduceLeDiff, Nat.reduceAdd, Nat.reduceMul, Nat.reduceSub, Nat.reduceBEq, ↓reduceIte, reduceCtorEq, hft] <;> rfl
            · have hj : j = s.length := by omega
              subst hj
              rw [List.take_length, ← setL_eq]
              exact Close.of [some 1] rfl rfl rfl rfl (by simp only [push_cast, Nat.reduceEqDiff, Nat.reduceLT, Nat.reduceLeDiff, Nat.reduceAdd, Nat.reduceMul, Nat.reduceSub, Nat.reduceBEq, ↓reduceIte, reduceCtorEq] <;> rfl)
          · rename_i hid
            have hM : headL s e keep = s.take i := by unfold headL; rw [htw, if_neg (by simp [hk]; simpa using hid), List.append_nil]
            refine WL.loop (ι := Nat) (D := (fun i => if i = 11 then (6, []) else if i = 3 then (12, []) else (0, []))) (fun j => j ≤ s.length) (fun j => ⟨62, [(0, .t (eEntryS s)), (4, .rf 0 0), (7, .sr 1), (9, .t (.i .i64 j))], [.box (.t (eEntry e)), .arr 38 3 (.own (.ag [.leaf, .leaf, .leaf])) ((headL s e keep ++ (s.take j).filter (fun x => before e x)).map eEntry)]⟩) (fun j => s.length - j) mixed (by kernel_rfl) 0 (by omega) (Keep.wk (ids := [some 0, some 1]) ?_) ?_
            · simp only [push_cast, Nat.reduceEqDiff, Nat.reduceLT, Nat.reduceLeDiff, Nat.reduceAdd, Nat.reduceMul, Nat.reduceSub, Nat.reduceBEq, ↓reduceIte, reduceCtorEq, hM, eEntry, List.filter_nil, List.map_append] <;> first | rfl | exact ⟨rfl, rfl⟩ | exact ⟨rfl, rfl, rfl⟩
            intro j hj
            simp -implicitDefEqProofs (maxSteps := 2000000) only [push_cast, Nat.reduceEqDiff, Nat.reduceLT, Nat.reduceLeDiff, Nat.reduceAdd, Nat.reduceMul, Nat.reduceSub, Nat.reduceBEq, ↓reduceIte, reduceCtorEq, eEntry_len, eEntry_isAg, eEntry_ones, eEntry_one]
            intro _
            have hfl := List.length_filter_le (fun x => before e x) (s.take j)
            have htj := List.length_take_le j s
            split
            · rename_i h2
              refine ⟨by omega, fun b hb => CallV.t (l4Before e b) (.inl rfl) ?_⟩
              rw [Int.toNat_natCast] at hb
              have hft := filter_take (p := fun x => before e x) hb
              simp -implicitDefEqProofs (maxSteps := 2000000) only [push_cast, Nat.reduceEqDiff, Nat.reduceLT, Nat.reduceLeDiff, Nat.reduceAdd, Nat.reduceMul, Nat.reduceSub, Nat.reduceBEq, ↓reduceIte, reduceCtorEq]
              cases hbb : before e b with
              | true =>
                simp -implicitDefEqProofs (maxSteps := 2000000) only [push_cast, Nat.reduceEqDiff, Nat.reduceLT, Nat.reduceLeDiff, Nat.reduceAdd, Nat.reduceMul, Nat.reduceSub, Nat.reduceBEq, ↓reduceIte, reduceCtorEq, eEntry_len, eEntry_isAg, eEntry_ones, eEntry_one, eEntry_fits]
                refine ⟨by omega, fun c hc2 => ?_⟩
                rw [Int.toNat_natCast, hb] at hc2
                cases hc2
                rw [hbb, if_pos rfl] at hft
                refine ⟨rfl, by omega, rfl, by omega, by omega, by unfold inI64; omega, j + 1, by omega, by omega, Keep.wk (ids := [some 0, some 3]) ?_⟩
                simp only [push_cast, Nat.reduceEqDiff, Nat.reduceLT, Nat.reduceLeDiff, Nat.reduceAdd, Nat.reduceMul, Nat.reduceSub, Nat.reduceBEq, ↓reduceIte, reduceCtorEq, hft, List.map_append, List.append_assoc] <;> rfl
              | false =>
                simp -implicitDefEqProofs (maxSteps := 2000000) only [push_cast, Nat.reduceEqDiff, Nat.reduceLT, Nat.reduceLeDiff, Nat.reduceAdd, Nat.reduceMul, Nat.reduceSub, Nat.reduceBEq, ↓reduceIte, reduceCtorEq]
                rw [hbb, if_neg (by simp), List.append_nil] at hft
                refine ⟨by unfold inI64; omega, j + 1, by omega, by omega, Keep.wk (ids := [some 0, some 1]) ?_⟩
                simp only [push_cast, Nat.reduceEqDiff, Nat.reduceLT, Nat.reduceLeDiff, Nat.reduceAdd, Nat.reduceMul, Nat.reduceSub, Nat.reduceBEq, ↓reduceIte, reduceCtorEq, hft] <;> rfl
            · have hj : j = s.length := by omega
              subst hj
              rw [List.take_length, ← setL_eq]
              exact Close.of [some 1] rfl rfl rfl rfl (by simp only [push_cast, Nat.reduceEqDiff, Nat.reduceLT, Nat.reduceLeDiff, Nat.reduceAdd, Nat.reduceMul, Nat.reduceSub, Nat.reduceBEq, ↓reduceIte, reduceCtorEq] <;> rfl)
    · have hi : i = s.length := by omega
      have htw : s.takeWhile (fun x => before x e) = s.take i := takeWhile_at hc (fun x hx => by rw [List.getElem?_eq_none (by omega)] at hx; cases hx)
      simp -implicitDefEqProofs (maxSteps := 2000000) only [push_cast, Nat.reduceEqDiff, Nat.reduceLT, Nat.reduceLeDiff, Nat.reduceAdd, Nat.reduceMul, Nat.reduceSub, Nat.reduceBEq, ↓reduceIte, reduceCtorEq, eEntry]
      split
      · rename_i hk
        have hM : headL s e keep = s.take i ++ [e] := by unfold headL; rw [htw, if_pos (by simp [hk])]
        refine ⟨rfl, by omega, rfl, by omega, by simp only [List.length_take]; omega, ?_⟩
        refine WL.loop (ι := Nat) (D := (fun i => if i = 11 then (6, []) else if i = 3 then (12, []) else (0, []))) (fun j => j ≤ s.length) (fun j => ⟨62, [(0, .t (eEntryS s)), (4, .rf 0 0), (7, .sr 1), (9, .t (.i .i64 j))], [.box (.t (eEntry e)), .arr 38 3 (.own (.ag [.leaf, .leaf, .leaf])) ((headL s e keep ++ (s.take j).filter (fun x => before e x)).map eEntry)]⟩) (fun j => s.length - j) mixed (by kernel_rfl) 0 (by omega) (Keep.wk (ids := [some 0, some 3]) ?_) ?_
        · simp only [push_cast, Nat.reduceEqDiff, Nat.reduceLT, Nat.reduceLeDiff, Nat.reduceAdd, Nat.reduceMul, Nat.reduceSub, Nat.reduceBEq, ↓reduceIte, reduceCtorEq, hM, eEntry, List.filter_nil, List.map_append] <;> first | rfl | exact ⟨rfl, rfl⟩ | exact ⟨rfl, rfl, rfl⟩
        intro j hj
        simp -implicitDefEqProofs (maxSteps := 2000000) only [push_cast, Nat.reduceEqDiff, Nat.reduceLT, Nat.reduceLeDiff, Nat.reduceAdd, Nat.reduceMul, Nat.reduceSub, Nat.reduceBEq, ↓reduceIte, reduceCtorEq, eEntry_len, eEntry_isAg, eEntry_ones, eEntry_one]
        intro _
        have hfl := List.length_filter_le (fun x => before e x) (s.take j)
        have htj := List.length_take_le j s
        split
        · rename_i h2
          refine ⟨by omega, fun b hb => CallV.t (l4Before e b) (.inl rfl) ?_⟩
          rw [Int.toNat_natCast] at hb
          have hft := filter_take (p := fun x => before e x) hb
          simp -implicitDefEqProofs (maxSteps := 2000000) only [push_cast, Nat.reduceEqDiff, Nat.reduceLT, Nat.reduceLeDiff, Nat.reduceAdd, Nat.reduceMul, Nat.reduceSub, Nat.reduceBEq, ↓reduceIte, reduceCtorEq]
          cases hbb : before e b with
          | true =>
            simp -implicitDefEqProofs (maxSteps := 2000000) only [push_cast, Nat.reduceEqDiff, Nat.reduceLT, Nat.reduceLeDiff, Nat.reduceAdd, Nat.reduceMul, Nat.reduceSub, Nat.reduceBEq, ↓reduceIte, reduceCtorEq, eEntry_len, eEntry_isAg, eEntry_ones, eEntry_one, eEntry_fits]
            refine ⟨by omega, fun c hc2 => ?_⟩
            rw [Int.toNat_natCast, hb] at hc2
            cases hc2
            rw [hbb, if_pos rfl] at hft
            refine ⟨rfl, by omega, rfl, by omega, by omega, by unfold inI64; omega, j + 1, by omega, by omega, Keep.wk (ids := [some 0, some 3]) ?_⟩
            simp only [push_cast, Nat.reduceEqDiff, Nat.reduceLT, Nat.reduceLeDiff, Nat.reduceAdd, Nat.reduceMul, Nat.reduceSub, Nat.reduceBEq, ↓reduceIte, reduceCtorEq, hft, List.map_append, List.append_assoc] <;> rfl
          | false =>
            simp -implicitDefEqProofs (maxSteps := 2000000) only [push_cast, Nat.reduceEqDiff, Nat.reduceLT, Nat.reduceLeDiff, Nat.reduceAdd, Nat.reduceMul, Nat.reduceSub, Nat.reduceBEq, ↓reduceIte, reduceCtorEq]
            rw [hbb, if_neg (by simp), List.append_nil] at hft
            refine ⟨by unfold inI64; omega, j + 1, by omega, by omega, Keep.wk (ids := [some 0, some 1]) ?_⟩
            simp only [push_cast, Nat.reduceEqDiff, Nat.reduceLT, Nat.reduceLeDiff, Nat.reduceAdd, Nat.reduceMul, Nat.reduceSub, Nat.reduceBEq, ↓reduceIte, reduceCtorEq, hft] <;> rfl
        · have hj : j = s.length := by omega
          subst hj
          rw [List.take_length, ← setL_eq]
          exact Close.of [some 1] rfl rfl rfl rfl (by simp only [push_cast, Nat.reduceEqDiff, Nat.reduceLT, Nat.reduceLeDiff, Nat.reduceAdd, Nat.reduceMul, Nat.reduceSub, Nat.reduceBEq, ↓reduceIte, reduceCtorEq] <;> rfl)
      · rename_i hk
        split
        · rename_i hid
          have hM : headL s e keep = s.take i ++ [e] := by unfold headL; rw [htw, if_pos (by simp [hid])]
          refine ⟨rfl, by omega, rfl, by omega, by simp only [List.length_take]; omega, ?_⟩
          refine WL.loop (ι := Nat) (D := (fun i => if i = 11 then (6, []) else if i = 3 then (12, []) else (0, []))) (fun j => j ≤ s.length) (fun j => ⟨62, [(0, .t (eEntryS s)), (4, .rf 0 0), (7, .sr 1), (9, .t (.i .i64 j))], [.box (.t (eEntry e)), .arr 38 3 (.own (.ag [.leaf, .leaf, .leaf])) ((headL s e keep ++ (s.take j).filter (fun x => before e x)).map eEntry)]⟩) (fun j => s.length - j) mixed (by kernel_rfl) 0 (by omega) (Keep.wk (ids := [some 0, some 3]) ?_) ?_
          · simp only [push_cast, Nat.reduceEqDiff, Nat.reduceLT, Nat.reduceLeDiff, Nat.reduceAdd, Nat.reduceMul, Nat.reduceSub, Nat.reduceBEq, ↓reduceIte, reduceCtorEq, hM, eEntry, List.filter_nil, List.map_append] <;> first | rfl | exact ⟨rfl, rfl⟩ | exact ⟨rfl, rfl, rfl⟩
          intro j hj
          simp -implicitDefEqProofs (maxSteps := 2000000) only [push_cast, Nat.reduceEqDiff, Nat.reduceLT, Nat.reduceLeDiff, Nat.reduceAdd, Nat.reduceMul, Nat.reduceSub, Nat.reduceBEq, ↓reduceIte, reduceCtorEq, eEntry_len, eEntry_isAg, eEntry_ones, eEntry_one]
          intro _
          have hfl := List.length_filter_le (fun x => before e x) (s.take j)
          have htj := List.length_take_le j s
          split
          · rename_i h2
            refine ⟨by omega, fun b hb => CallV.t (l4Before e b) (.inl rfl) ?_⟩
            rw [Int.toNat_natCast] at hb
            have hft := filter_take (p := fun x => before e x) hb
            simp -implicitDefEqProofs (maxSteps := 2000000) only [push_cast, Nat.reduceEqDiff, Nat.reduceLT, Nat.reduceLeDiff, Nat.reduceAdd, Nat.reduceMul, Nat.reduceSub, Nat.reduceBEq, ↓reduceIte, reduceCtorEq]
            cases hbb : before e b with
            | true =>
              simp -implicitDefEqProofs (maxSteps := 2000000) only [push_cast, Nat.reduceEqDiff, Nat.reduceLT, Nat.reduceLeDiff, Nat.reduceAdd, Nat.reduceMul, Nat.reduceSub, Nat.reduceBEq, ↓reduceIte, reduceCtorEq, eEntry_len, eEntry_isAg, eEntry_ones, eEntry_one, eEntry_fits]
              refine ⟨by omega, fun c hc2 => ?_⟩
              rw [Int.toNat_natCast, hb] at hc2
              cases hc2
              rw [hbb, if_pos rfl] at hft
              refine ⟨rfl, by omega, rfl, by omega, by omega, by unfold inI64; omega, j + 1, by omega, by omega, Keep.wk (ids := [some 0, some 3]) ?_⟩
              simp only [push_cast, Nat.reduceEqDiff, Nat.reduceLT, Nat.reduceLeDiff, Nat.reduceAdd, Nat.reduceMul, Nat.reduceSub, Nat.reduceBEq, ↓reduceIte, reduceCtorEq, hft, List.map_append, List.append_assoc] <;> rfl
            | false =>
              simp -implicitDefEqProofs (maxSteps := 2000000) only [push_cast, Nat.reduceEqDiff, Nat.reduceLT, Nat.reduceLeDiff, Nat.reduceAdd, Nat.reduceMul, Nat.reduceSub, Nat.reduceBEq, ↓reduceIte, reduceCtorEq]
              rw [hbb, if_neg (by simp), List.append_nil] at hft
              refine ⟨by unfold inI64; omega, j + 1, by omega, by omega, Keep.wk (ids := [some 0, some 1]) ?_⟩
              simp only [push_cast, Nat.reduceEqDiff, Nat.reduceLT, Nat.reduceLeDiff, Nat.reduceAdd, Nat.reduceMul, Nat.reduceSub, Nat.reduceBEq, ↓reduceIte, reduceCtorEq, hft] <;> rfl
          · have hj : j = s.length := by omega
            subst hj
            rw [List.take_length, ← setL_eq]
            exact Close.of [some 1] rfl rfl rfl rfl (by simp only [push_cast, Nat.reduceEqDiff, Nat.reduceLT, Nat.reduceLeDiff, Nat.reduceAdd, Nat.reduceMul, Nat.reduceSub, Nat.reduceBEq, ↓reduceIte, reduceCtorEq] <;> rfl)
        · rename_i hid
          have hM : headL s e keep = s.take i := by unfold headL; rw [htw, if_neg (by simp [hk]; simpa using hid), List.append_nil]
          refine WL.loop (ι := Nat) (D := (fun i => if i = 11 then (6, []) else if i = 3 then (12, []) else (0, []))) (fun j => j ≤ s.length) (fun j => ⟨62, [(0, .t (eEntryS s)), (4, .rf 0 0), (7, .sr 1), (9, .t (.i .i64 j))], [.box (.t (eEntry e)), .arr 38 3 (.own (.ag [.leaf, .leaf, .leaf])) ((headL s e keep ++ (s.take j).filter (fun x => before e x)).map eEntry)]⟩) (fun j => s.length - j) mixed (by kernel_rfl) 0 (by omega) (Keep.wk (ids := [some 0, some 1]) ?_) ?_
          · simp only [push_cast, Nat.reduceEqDiff, Nat.reduceLT, Nat.reduceLeDiff, Nat.reduceAdd, Nat.reduceMul, Nat.reduceSub, Nat.reduceBEq, ↓reduceIte, reduceCtorEq, hM, eEntry, List.filter_nil, List.map_append] <;> first | rfl | exact ⟨rfl, rfl⟩ | exact ⟨rfl, rfl, rfl⟩
          intro j hj
          simp -implicitDefEqProofs (maxSteps := 2000000) only [push_cast, Nat.reduceEqDiff, Nat.reduceLT, Nat.reduceLeDiff, Nat.reduceAdd, Nat.reduceMul, Nat.reduceSub, Nat.reduceBEq, ↓reduceIte, reduceCtorEq, eEntry_len, eEntry_isAg, eEntry_ones, eEntry_one]
          intro _
          have hfl := List.length_filter_le (fun x => before e x) (s.take j)
          have htj := List.length_take_le j s
          split
          · rename_i h2
            refine ⟨by omega, fun b hb => CallV.t (l4Before e b) (.inl rfl) ?_⟩
            rw [Int.toNat_natCast] at hb
            have hft := filter_take (p := fun x => before e x) hb
            simp -implicitDefEqProofs (maxSteps := 2000000) only [push_cast, Nat.reduceEqDiff, Nat.reduceLT, Nat.reduceLeDiff, Nat.reduceAdd, Nat.reduceMul, Nat.reduceSub, Nat.reduceBEq, ↓reduceIte, reduceCtorEq]
            cases hbb : before e b with
            | true =>
              simp -implicitDefEqProofs (maxSteps := 2000000) only [push_cast, Nat.reduceEqDiff, Nat.reduceLT, Nat.reduceLeDiff, Nat.reduceAdd, Nat.reduceMul, Nat.reduceSub, Nat.reduceBEq, ↓reduceIte, reduceCtorEq, eEntry_len, eEntry_isAg, eEntry_ones, eEntry_one, eEntry_fits]
              refine ⟨by omega, fun c hc2 => ?_⟩
              rw [Int.toNat_natCast, hb] at hc2
              cases hc2
              rw [hbb, if_pos rfl] at hft
              refine ⟨rfl, by omega, rfl, by omega, by omega, by unfold inI64; omega, j + 1, by omega, by omega, Keep.wk (ids := [some 0, some 3]) ?_⟩
              simp only [push_cast, Nat.reduceEqDiff, Nat.reduceLT, Nat.reduceLeDiff, Nat.reduceAdd, Nat.reduceMul, Nat.reduceSub, Nat.reduceBEq, ↓reduceIte, reduceCtorEq, hft, List.map_append, List.append_assoc] <;> rfl
            | false =>
              simp -implicitDefEqProofs (maxSteps := 2000000) only [push_cast, Nat.reduceEqDiff, Nat.reduceLT, Nat.reduceLeDiff, Nat.reduceAdd, Nat.reduceMul, Nat.reduceSub, Nat.reduceBEq, ↓reduceIte, reduceCtorEq]
              rw [hbb, if_neg (by simp), List.append_nil] at hft
              refine ⟨by unfold inI64; omega, j + 1, by omega, by omega, Keep.wk (ids := [some 0, some 1]) ?_⟩
              simp only [push_cast, Nat.reduceEqDiff, Nat.reduceLT, Nat.reduceLeDiff, Nat.reduceAdd, Nat.reduceMul, Nat.reduceSub, Nat.reduceBEq, ↓reduceIte, reduceCtorEq, hft] <;> rfl
          · have hj : j = s.length := by omega
            subst hj
            rw [List.take_length, ← setL_eq]
            exact Close.of [some 1] rfl rfl rfl rfl (by simp only [push_cast, Nat.reduceEqDiff, Nat.reduceLT, Nat.reduceLeDiff, Nat.reduceAdd, Nat.reduceMul, Nat.reduceSub, Nat.reduceBEq, ↓reduceIte, reduceCtorEq] <;> rfl)
end Go.Proofs.Ytmgdkkhnjkepiaa.BX
namespace Go.Proofs.Ytmgdkkhnjkepiaa.BX
set_option linter.unusedSectionVars false
set_option linter.unusedSimpArgs false
set_option linter.unusedVariables false
open Go Go.RowKit
set_option maxRecDepth 20000
set_option maxHeartbeats 400000
def agr (ss : List (List Entry)) (e : Entry) : Bool := ss.all fun s => decide (findId e.slot s = e.id)
def sameL (ss : List (List Entry)) (p : List Entry) : List Entry := (p.filter (agr ss)).foldl (fun o e => setL o e false) []
def othL (ss : List (List Entry)) (p : List Entry) : List (List UInt8) := (p.filter fun e => !agr ss e).map (·.id)
theorem sameL_snoc {ss : List (List Entry)} {p : List Entry} {e : Entry} : sameL ss (p ++ [e]) = if agr ss e = true then setL (sameL ss p) e false else sameL ss p := by
  unfold sameL
  rw [List.filter_append, List.foldl_append]
  by_cases h : agr ss e = true <;> simp [h]
theorem othL_snoc {ss : List (List Entry)} {p : List Entry} {e : Entry} : othL ss (p ++ [e]) = if agr ss e = true then othL ss p else othL ss p ++ [e.id] := by
  unfold othL
  rw [List.filter_append, List.map_append]
  by_cases h : agr ss e = true <;> simp [h]
theorem sameL_len {ss : List (List Entry)} {p : List Entry} : Ordered (sameL ss p) ∧ (sameL ss p).length ≤ p.length := by
  have h := patchL_ord (s := []) (ch := p.filter (agr ss)) .nil
  refine ⟨h.1, ?_⟩
  have h2 := h.2
  have h3 : (p.filter (agr ss)).length ≤ p.length := List.length_filter_le ..
  rw [List.length_nil] at h2
  show (patchL [] (p.filter (agr ss))).length ≤ _
  omega
theorem othL_len {ss : List (List Entry)} {p : List Entry} : (othL ss p).length ≤ p.length := by
  unfold othL
  rw [List.length_map]
  exact List.length_filter_le ..
noncomputable def splOk (ss : List (List Entry)) : Bool := decide (ss.length ≤ 20) && ss.all fun s => stateOk s
noncomputable def splS (ss : List (List Entry)) : List Entry := if splOk ss = true then sameL ss ss.flatten else []
noncomputable def splO (ss : List (List Entry)) : List (List UInt8) := if splOk ss = true then sset (othL ss ss.flatten) else []
variable [Bd]
theorem l6Agreed (ss : List (List Entry)) (e : Entry) : Con P0 47 [eEntrySS ss, eEntry e] (.t (.b (agr ss e))) [] := by
  refine Con.intro (fn := Try.f47) [.tmp 4] (fun i => if i = 4 then (12, []) else (0, [])) mixed (by kernel_rfl) rfl (by decide) rfl (by rfl) (by kernel_rfl) ?_
  simp -implicitDefEqProofs (maxSteps := 2000000) only [push_cast, Nat.reduceEqDiff, Nat.reduceLT, Nat.reduceLeDiff, Nat.reduceAdd, Nat.reduceMul, Nat.reduceSub, Nat.reduceBEq, ↓reduceIte, reduceCtorEq, eEntry]
  refine WL.loop (ι := Nat) (D := (fun i => if i = 4 then (12, []) else (0, []))) (fun i => i ≤ ss.length ∧ agr (ss.take i) e = true) (fun i => ⟨24, [(0, .t (eEntrySS ss)), (3, .rf 0 0), (5, .t (.i .i64 i))], [.box (.t (eEntry e))]⟩) (fun i => ss.length - i) mixed (by kernel_rfl) 0 ⟨by omega, rfl⟩ (Keep.wk (ids := [some 0]) ?_) ?_
  · simp only [push_cast, Nat.reduceEqDiff, Nat.reduceLT, Nat.reduceLeDiff, Nat.reduceAdd, Nat.reduceMul, Nat.reduceSub, Nat.reduceBEq, ↓reduceIte, reduceCtorEq] <;> rfl
  intro i ⟨hi, ha⟩
  simp -implicitDefEqProofs (maxSteps := 2000000) only [push_cast, Nat.reduceEqDiff, Nat.reduceLT, Nat.reduceLeDiff, Nat.reduceAdd, Nat.reduceMul, Nat.reduceSub, Nat.reduceBEq, ↓reduceIte, reduceCtorEq, eEntry]
  intro _
  have := Bd.hi
  refine iteI (fun h => ⟨by omega, fun s hs => ?_⟩) (fun h => ?_)
  · rw [Int.toNat_natCast] at hs
    have hsn : ss.take (i + 1) = ss.take i ++ [s] := by rw [List.take_add_one, hs]; rfl
    refine CallV.t (l4Find s e.typ e.key) (.inl rfl) ?_
    simp -implicitDefEqProofs (maxSteps := 2000000) only [push_cast, Nat.reduceEqDiff, Nat.reduceLT, Nat.reduceLeDiff, Nat.reduceAdd, Nat.reduceMul, Nat.reduceSub, Nat.reduceBEq, ↓reduceIte, reduceCtorEq, eEntry]
    refine iteI (fun h1 => ?_) (fun h1 => ⟨by unfold inI64; omega, i + 1, ⟨by omega, ?_⟩, by omega, Keep.wk (ids := [some 0]) ?_⟩)
    · refine congrArg T.b (Eq.symm ?_)
      have : s ∈ ss := List.mem_of_getElem? hs
      unfold agr
      rw [List.all_eq_false]
      exact ⟨s, this, by rw [decide_eq_true_eq]; exact h1⟩
    · rw [hsn]
      unfold agr at ha ⊢
      rw [List.all_append, ha]
      have : findId e.slot s = e.id := Classical.not_not.1 h1
      simp [this]
    · simp only [push_cast, Nat.reduceEqDiff, Nat.reduceLT, Nat.reduceLeDiff, Nat.reduceAdd, Nat.reduceMul, Nat.reduceSub, Nat.reduceBEq, ↓reduceIte, reduceCtorEq] <;> rfl
  · have hi : i = ss.length := by omega
    subst hi
    rw [List.take_length] at ha
    rw [ha]
abbrev txO (l : List (List UInt8)) : Ob := .arr 9 1 (.own .leaf) (l.map T.s)
theorem flat_snoc {ss : List (List Entry)} {i : Nat} {s : List Entry} (h : ss[i]? = some s) : (ss.take (i + 1)).flatten = (ss.take i).flatten ++ s := by
  rw [List.take_add_one, h, List.flatten_append]; simp
theorem flat_len {ss : List (List Entry)} (h : ∀ s ∈ ss, s.length ≤ 300) : ss.flatten.length ≤ 300 * ss.length := by
  induction ss with
  | nil => simp
  | cons x ss ih =>
    have h1 := h x (by simp)
    have h2 := ih fun s hs => h s (by simp [hs])
    rw [List.flatten_cons, List.length_append, List.length_cons]
    omega
theorem specSplit (ss : List (List Entry)) (hB : Bd.B ≤ 2147483648) : Con P0 14 [eEntrySS ss] (.tp [.sr 0, .sr 1, .t (.b (splOk ss))]) [enO (splS ss), txO (splO ss)] := by
  refine Con.intro (fn := Try.f14) [.tmp 2, .tmp 3, .tmp 4] (fun _ => (0, [])) mixed (by kernel_rfl) rfl (by decide) rfl (by rfl) (by kernel_rfl) ?_
  simp -implicitDefEqProofs (maxSteps := 2000000) only [push_cast, Nat.reduceEqDiff, Nat.reduceLT, Nat.reduceLeDiff, Nat.reduceAdd, Nat.reduceMul, Nat.reduceSub, Nat.reduceBEq, ↓reduceIte, reduceCtorEq]
  have := Bd.lo
  refine ⟨rfl, by omega, rfl, by omega, fun hl => ?_⟩
  refine iteI (fun h => ?_) (fun h => ?_)
  · have ho : splOk ss = false := by unfold splOk; rw [decide_eq_false (by omega)]; rfl
    rw [show splS ss = [] by unfold splS; rw [ho]; rfl, show splO ss = [] by unfold splO; rw [ho]; rfl, ho]
    exact Close.of [some 0, some 1] rfl rfl rfl (by simp only [push_cast, Nat.reduceEqDiff, Nat.reduceLT, Nat.reduceLeDiff, Nat.reduceAdd, Nat.reduceMul, Nat.reduceSub, Nat.reduceBEq, ↓reduceIte, reduceCtorEq] <;> rfl) (by simp only [push_cast, Nat.reduceEqDiff, Nat.reduceLT, Nat.reduceLeDiff, Nat.reduceAdd, Nat.reduceMul, Nat.reduceSub, Nat.reduceBEq, ↓reduceIte, reduceCtorEq] <;> rfl)
  refine WL.loop (ι := Nat) (D := (fun _ => (0, []))) (fun i => i ≤ ss.length ∧ ∀ s ∈ ss.take i, stateOk s = true) (fun i => ⟨61, [(0, .t (eEntrySS ss)), (5, .sr 0), (6, .sr 1), (7, .t (.i .i64 i))], [enO (sameL ss (ss.take i).flatten), txO (othL ss (ss.take i).flatten)]⟩) (fun i => ss.length - i) mixed (by kernel_rfl) 0 ⟨by omega, by simp⟩ (Keep.wk (ids := [some 0, some 1]) ?_) ?_
  · simp only [push_cast, Nat.reduceEqDiff, Nat.reduceLT, Nat.reduceLeDiff, Nat.reduceAdd, Nat.reduceMul, Nat.reduceSub, Nat.reduceBEq, ↓reduceIte, reduceCtorEq, List.take_zero, List.flatten_nil, sameL, othL, List.filter_nil, List.foldl_nil, List.map_nil] <;> rfl
  intro i ⟨hi, hok⟩
  simp -implicitDefEqProofs (maxSteps := 2000000) only [push_cast, Nat.reduceEqDiff, Nat.reduceLT, Nat.reduceLeDiff, Nat.reduceAdd, Nat.reduceMul, Nat.reduceSub, Nat.reduceBEq, ↓reduceIte, reduceCtorEq, eEntry]
  have hbnd : ∀ t ∈ ss.take i, t.length ≤ 300 := fun t ht => by have := (stateOk_ord (hok t ht)).2.1; omega
  have hfl := flat_len hbnd
  rw [List.length_take] at hfl
  intro _
  refine iteI (fun hlt => ⟨by omega, fun s hs => ?_⟩) (fun hlt => ?_)
  rotate_left
  · have hi : i = ss.length := by omega
    subst hi
    rw [List.take_length] at hok hfl ⊢
    have ho : splOk ss = true := by
      unfold splOk
      rw [decide_eq_true (by omega), Bool.true_and, List.all_eq_true]
      exact hok
    rw [show splS ss = sameL ss ss.flatten by unfold splS; rw [ho]; rfl, show splO ss = sset (othL ss ss.flatten) by unfold splO; rw [ho]; rfl, ho]
    refine Callx.closed (l2Sorted (othL ss ss.flatten) hB) rfl rfl (.inr ⟨rfl, rfl⟩) ?_
    simp -implicitDefEqProofs (maxSteps := 2000000) only [push_cast, Nat.reduceEqDiff, Nat.reduceLT, Nat.reduceLeDiff, Nat.reduceAdd, Nat.reduceMul, Nat.reduceSub, Nat.reduceBEq, ↓reduceIte, reduceCtorEq]
    exact Close.of [some 0, some 2] rfl rfl rfl (by simp only [push_cast, Nat.reduceEqDiff, Nat.reduceLT, Nat.reduceLeDiff, Nat.reduceAdd, Nat.reduceMul, Nat.reduceSub, Nat.reduceBEq, ↓reduceIte, reduceCtorEq] <;> rfl) (by simp only [push_cast, Nat.reduceEqDiff, Nat.reduceLT, Nat.reduceLeDiff, Nat.reduceAdd, Nat.reduceMul, Nat.reduceSub, Nat.reduceBEq, ↓reduceIte, reduceCtorEq] <;> rfl)
  rw [Int.toNat_natCast] at hs
  refine Callx.closed (specStateOk s) rfl rfl (.inl rfl) ?_
  simp -implicitDefEqProofs (maxSteps := 2000000) only [push_cast, Nat.reduceEqDiff, Nat.reduceLT, Nat.reduceLeDiff, Nat.reduceAdd, Nat.reduceMul, Nat.reduceSub, Nat.reduceBEq, ↓reduceIte, reduceCtorEq]
  refine iteI (fun hno => ?_) (fun hyes => ?_)
  · have ho : splOk ss = false := by
      unfold splOk
      rw [Bool.and_eq_false_iff]
      exact .inr (List.all_eq_false.2 ⟨s, List.mem_of_getElem? hs, by simpa using hno⟩)
    rw [show splS ss = [] by unfold splS; rw [ho]; rfl, show splO ss = [] by unfold splO; rw [ho]; rfl, ho]
    refine ⟨rfl, by omega, rfl, by omega, ?_⟩
    exact Close.of [some 2, some 3] rfl rfl rfl (by simp only [push_cast, Nat.reduceEqDiff, Nat.reduceLT, Nat.reduceLeDiff, Nat.reduceAdd, Nat.reduceMul, Nat.reduceSub, Nat.reduceBEq, ↓reduceIte, reduceCtorEq] <;> rfl) (by simp only [push_cast, Nat.reduceEqDiff, Nat.reduceLT, Nat.reduceLeDiff, Nat.reduceAdd, Nat.reduceMul, Nat.reduceSub, Nat.reduceBEq, ↓reduceIte, reduceCtorEq] <;> rfl)
  have hso : stateOk s = true := by simpa using hyes
  have hsl := (stateOk_ord hso).2.1
  have hsn := flat_snoc hs
  refine WL.loop (ι := Nat) (D := (fun _ => (0, []))) (fun j => j ≤ s.length) (fun j => ⟨61, [(0, .t (eEntrySS ss)), (5, .sr 0), (6, .sr 1), (7, .t (.i .i64 i)), (8, .t (.i .i64 j))], [enO (sameL ss ((ss.take i).flatten ++ s.take j)), txO (othL ss ((ss.take i).flatten ++ s.take j))]⟩) (fun j => s.length - j) mixed (by kernel_rfl) 0 (by omega) (Keep.wk (ids := [some 0, some 1]) ?_) ?_
  · simp only [push_cast, Nat.reduceEqDiff, Nat.reduceLT, Nat.reduceLeDiff, Nat.reduceAdd, Nat.reduceMul, Nat.reduceSub, Nat.reduceBEq, ↓reduceIte, reduceCtorEq, List.take_zero, List.append_nil] <;> trivial
  intro j hj
  simp -implicitDefEqProofs (maxSteps := 2000000) only [push_cast, Nat.reduceEqDiff, Nat.reduceLT, Nat.reduceLeDiff, Nat.reduceAdd, Nat.reduceMul, Nat.reduceSub, Nat.reduceBEq, ↓reduceIte, reduceCtorEq, eEntry]
  have hsl2 := sameL_len (ss := ss) (p := (ss.take i).flatten ++ s.take j)
  have hol2 := othL_len (ss := ss) (p := (ss.take i).flatten ++ s.take j)
  have hpl : ((ss.take i).flatten ++ s.take j).length ≤ 6300 := by rw [List.length_append, List.length_take]; omega
  have at_i : ∀ {K : List Entry → Prop}, K s → ((0 ≤ (i : Int) ∧ (i : Int) < ss.length) ∧ ∀ a, ss[(i : Int).toNat]? = some a → K a) := fun {K} k => ⟨by omega, fun a ha => by rw [Int.toNat_natCast, hs] at ha; cases ha; exact k⟩
  refine at_i fun _ => iteI (fun hlj => at_i ⟨by omega, fun e he => ?_⟩) (fun hlj => ?_)
  · rw [Int.toNat_natCast] at he
    have hp : (ss.take i).flatten ++ s.take (j + 1) = ((ss.take i).flatten ++ s.take j) ++ [e] := by rw [List.take_add_one, he, List.append_assoc]; rfl
    have h1 := sameL_snoc (ss := ss) (p := (ss.take i).flatten ++ s.take j) (e := e)
    have h2 := othL_snoc (ss := ss) (p := (ss.take i).flatten ++ s.take j) (e := e)
    rw [← hp] at h1 h2
    refine Callx.closed (l6Agreed ss e) rfl rfl (.inl rfl) ?_
    cases ha : agr ss e with
    | true =>
      rw [ha, if_pos rfl] at h1 h2
      simp -implicitDefEqProofs (maxSteps := 2000000) only [push_cast, Nat.reduceEqDiff, Nat.reduceLT, Nat.reduceLeDiff, Nat.reduceAdd, Nat.reduceMul, Nat.reduceSub, Nat.reduceBEq, ↓reduceIte, reduceCtorEq, eEntry]
      refine Callx.closed (l4Set (sameL ss ((ss.take i).flatten ++ s.take j)) e false hB (by omega)) rfl rfl (.inr ⟨rfl, rfl⟩) ?_
      simp -implicitDefEqProofs (maxSteps := 2000000) only [push_cast, Nat.reduceEqDiff, Nat.reduceLT, Nat.reduceLeDiff, Nat.reduceAdd, Nat.reduceMul, Nat.reduceSub, Nat.reduceBEq, ↓reduceIte, reduceCtorEq, eEntry]
      refine ⟨by unfold inI64; omega, j + 1, by omega, by omega, Keep.wk (ids := [some 3, some 1]) ?_⟩
      simp only [push_cast, Nat.reduceEqDiff, Nat.reduceLT, Nat.reduceLeDiff, Nat.reduceAdd, Nat.reduceMul, Nat.reduceSub, Nat.reduceBEq, ↓reduceIte, reduceCtorEq, h1, h2] <;> rfl
    | false =>
      rw [ha, if_neg (by simp)] at h1 h2
      simp -implicitDefEqProofs (maxSteps := 2000000) only [push_cast, Nat.reduceEqDiff, Nat.reduceLT, Nat.reduceLeDiff, Nat.reduceAdd, Nat.reduceMul, Nat.reduceSub, Nat.reduceBEq, ↓reduceIte, reduceCtorEq, eEntry]
      refine ⟨rfl, by omega, rfl, by omega, by omega, by unfold inI64; omega, j + 1, by omega, by omega, Keep.wk (ids := [some 0, some 4]) ?_⟩
      simp only [push_cast, Nat.reduceEqDiff, Nat.reduceLT, Nat.reduceLeDiff, Nat.reduceAdd, Nat.reduceMul, Nat.reduceSub, Nat.reduceBEq, ↓reduceIte, reduceCtorEq, h1, h2, List.map_append] <;> rfl
  · have hj2 : j = s.length := by omega
    subst hj2
    refine ⟨by unfold inI64; omega, i + 1, ⟨by omega, ?_⟩, by omega, Keep.wk (ids := [some 0, some 1]) ?_⟩
    · intro t ht
      rw [List.take_add_one, hs] at ht
      rcases List.mem_append.1 ht with ht | ht
      · exact hok t ht
      · simp at ht; subst ht; exact hso
    · rw [List.take_length]
      simp only [push_cast, Nat.reduceEqDiff, Nat.reduceLT, Nat.reduceLeDiff, Nat.reduceAdd, Nat.reduceMul, Nat.reduceSub, Nat.reduceBEq, ↓reduceIte, reduceCtorEq, hsn] <;> rfl
end Go.Proofs.Ytmgdkkhnjkepiaa.BX
namespace Go.Proofs.Ytmgdkkhnjkepiaa.BX
set_option linter.unusedSectionVars false
set_option linter.unusedSimpArgs false
set_option linter.unusedVariables false
open Go Go.RowKit Go.Shelf Go.Sort
set_option maxRecDepth 20000
set_option maxHeartbeats 400000
theorem order_one {l s : List Entry} (hp : List.Perm l s) (ho : Ordered s) (h : l.Pairwise fun a b => before b a = false) : l = s := by
  have hn : (s.map Entry.slot).Nodup := by
    have := ordered_keys ho
    rwa [List.map_map] at this
  have one : ∀ {s : List Entry}, (s.map Entry.slot).Nodup → ∀ a b, a ∈ s → b ∈ s → a.slot = b.slot → a = b := by
    intro s
    induction s with
    | nil => intro _ a b ha; cases ha
    | cons x s ih =>
      intro hn a b ha hb hab
      simp only [List.map_cons, List.nodup_cons] at hn
      rcases List.mem_cons.1 ha with h1 | h1 <;> rcases List.mem_cons.1 hb with h2 | h2
      · rw [h1, h2]
      · exact absurd (h1 ▸ hab ▸ List.mem_map_of_mem h2) hn.1
      · exact absurd (h2 ▸ hab ▸ List.mem_map_of_mem h1) hn.1
      · exact ih hn.2 a b h1 h2 hab
  refine List.Perm.eq_of_pairwise (le := fun a b => before b a = false) ?_ h ?_ hp
  · intro a b ha hb h1 h2
    refine one hn a b (hp.mem_iff.1 ha) hb ?_
    rcases before_total h2 with h | h
    · exact h
    · rw [h] at h1; cases h1
  · exact ho.imp fun hab => before_asymm hab
section
variable [Bd]
def Small (e : Entry) : Prop := e.typ.length < Bd.B ∧ e.key.length < Bd.B ∧ e.id.length < Bd.B
abbrev ES : Type := { e : Entry // Small e }
instance : Inhabited ES := ⟨⟨⟨[], [], []⟩, by have := Bd.lo; unfold Small; simp; omega⟩⟩
def encE (x : ES) : List Value := [.string ⟨x.1.typ.toArray⟩, .string ⟨x.1.key.toArray⟩, .string ⟨x.1.id.toArray⟩]
def cfE (x y : ES) : Int := cmpE x.1 y.1
theorem ltE (x y : ES) : ltOf cfE x y = before x.1 y.1 := by
  unfold ltOf cfE
  cases hb : before x.1 y.1 with
  | false => exact decide_eq_false (by have := cmpE_neg.2 hb; omega)
  | true => exact decide_eq_true (by
      by_cases h : 0 ≤ cmpE x.1 y.1
      · rw [cmpE_neg.1 h] at hb; cases hb
      · omega)
theorem swoE : SWO (ltOf cfE) where
  irrefl x := by
    rw [ltE]
    cases h : before x.1 x.1 with
    | false => rfl
    | true => exact absurd rfl (before_slot h)
  trans x y z h1 h2 := by rw [ltE] at *; exact before_trans h1 h2
  ntrans x y z h1 h2 := by
    rw [ltE] at *
    cases h : before x.1 z.1 with
    | false => rfl
    | true =>
      rcases before_total h1 with e | e
      · rw [(before_same (c := z.1) e).1] at h; rw [h] at h2; cases h2
      · rw [before_trans e h] at h2; cases h2
abbrev mon [Bd] : Bd := ⟨Bd.B, Bd.lo, Bd.hi, True⟩
theorem grown_of {W w' : World} (h : But (fun _ => False) W.heap.size W w') (hD : Bd.D) : ∃ q os', w' = grow (W.drewN q) os' := by
  refine ⟨w'.drawn - W.drawn, w'.heap.extract W.heap.size w'.heap.size, ?_⟩
  have hh : w'.heap = W.heap ++ w'.heap.extract W.heap.size w'.heap.size := by
    apply Array.ext_getElem?
    intro k
    rw [Array.getElem?_append]
    split
    · rename_i hk
      exact h.block k hk (fun h => h)
    · rename_i hk
      rw [Array.getElem?_extract]
      split
      · congr 1; omega
      · rename_i h2
        rw [Array.getElem?_eq_none (by omega)]
  have hd := h.drawn hD
  obtain ⟨h1, h2, h3, h4, h5, h6⟩ := h
  cases w'
  cases W
  simp only [grow, World.drewN] at *
  subst h1; subst h2; subst h3
  congr 1
  omega
theorem foot_entry {w : World} {e : Entry} {v : Value} {L : List Nat} (h : footT w (eEntry e) v L) : Small e ∧ v = .agg #[.string ⟨e.typ.toArray⟩, .string ⟨e.key.toArray⟩, .string ⟨e.id.toArray⟩] ∧ L = [] := by
  simp only [eEntry, footT, footTs] at h
  obtain ⟨vs, rfl, v1, vs1, L1, L2, rfl, rfl, ⟨rfl, rfl, q1⟩, v2, vs2, L3, L4, rfl, rfl, ⟨rfl, rfl, q2⟩, v3, vs3, L5, L6, rfl, rfl, ⟨rfl, rfl, q3⟩, rfl, rfl⟩ := h
  exact ⟨⟨q1, q2, q3⟩, rfl, rfl⟩
theorem entry_foot {w : World} {e : Entry} (h : Small e) : footT w (eEntry e) (.agg #[.string ⟨e.typ.toArray⟩, .string ⟨e.key.toArray⟩, .string ⟨e.id.toArray⟩]) [] := by
  simp only [eEntry, footT, footTs]
  exact ⟨_, rfl, _, _, [], [], rfl, rfl, ⟨rfl, rfl, h.1⟩, _, _, [], [], rfl, rfl, ⟨rfl, rfl, h.2.1⟩, _, _, [], [], rfl, rfl, ⟨rfl, rfl, h.2.2⟩, rfl, rfl⟩
theorem cmpLaysE (blk off size : Nat) (w : World) : CmpLays P0 51 #[] encE 3 cfE blk off size w := by
  intro m os dk hs x y
  have hf : @footTs mon (sortWorldK encE 3 w blk off m dk os) [eEntry x.1, eEntry y.1] [.agg (encE x).toArray, .agg (encE y).toArray] [] := by
    simp only [footTs]
    exact ⟨_, _, [], [], rfl, rfl, @entry_foot mon _ _ x.2, _, _, [], [], rfl, rfl, @entry_foot mon _ _ y.2, rfl, rfl⟩
  letI : Bd := mon
  refine ((compareEntries x.1 y.1).run hf (by simp) (fun _ => False)).mono fun e w' hh => ?_
  obtain ⟨v, hv, S, F, L', rfl, hr, hx, _, _⟩ := hh
  simp only [footA, footT] at hx
  obtain ⟨rfl, _⟩ := hx
  exact ⟨rfl, grown_of hr.below trivial⟩
theorem foot_entries {w : World} : ∀ {l : List Entry} {vs : List Value} {L : List Nat}, footTs w (l.map eEntry) vs L → ∃ ls : List ES, ls.map (·.1) = l ∧ vs = ls.map fun x => .agg (encE x).toArray
  | [], vs, L, h => by simp only [List.map_nil, footTs] at h; exact ⟨[], rfl, h.1⟩
  | e :: l, vs, L, h => by
    simp only [List.map_cons, footTs] at h
    obtain ⟨v, vs', L1, L2, rfl, _, h1, h2⟩ := h
    obtain ⟨ls, rfl, rfl⟩ := foot_entries h2
    obtain ⟨hs, rfl, _⟩ := foot_entry h1
    exact ⟨⟨e, hs⟩ :: ls, rfl, rfl⟩
theorem entries_foot {w : World} : ∀ {ls : List ES}, footTs w ((ls.map (·.1)).map eEntry) (ls.map fun x => .agg (encE x).toArray) []
  | [] => by simp [footTs]
  | x :: ls => by
    simp only [List.map_cons, footTs]
    exact ⟨_, _, [], [], rfl, rfl, entry_foot x.2, entries_foot⟩
theorem encE_size {x : ES} {ls : List ES} : ∀ v ∈ (ls.map fun x => Value.agg (encE x).toArray), v.cells.size = 3 := by
  intro v hv
  obtain ⟨x, _, rfl⟩ := List.mem_map.1 hv
  rfl
theorem cells_flat {ls : List ES} {j : Nat} (hj : j < ls.length * 3) : (cellsL (ls.map fun x => Value.agg (encE x).toArray))[j]? = some (flatK encE 3 ls.toArray)[j]! := by
  have hi : j / 3 < ls.length := by omega
  have h := cellsL_get (m := 3) (vs := ls.map fun x => Value.agg (encE x).toArray) (encE_size (x := default)) (i := j / 3) (v := .agg (encE (ls[j / 3])).toArray) (by rw [List.getElem?_map, List.getElem?_eq_getElem hi]; rfl) (j := j % 3) (by omega)
  rw [show j / 3 * 3 + j % 3 = j by omega] at h
  rw [h, get_flatK _ _ _ _ (by simpa using hj)]
  have hd : (ls.toArray)[j / 3]! = ls[j / 3] := by rw [getElem!_pos _ _ (by simpa using hi)]; simp
  rw [hd]
  have h3 : j % 3 < (encE ls[j / 3]).length := by show j % 3 < 3; omega
  rw [getElem!_pos (encE ls[j / 3]) (j % 3) h3]
  show (Value.cells (.agg (encE ls[j / 3]).toArray))[j % 3]? = _
  rw [show Value.cells (.agg (encE ls[j / 3]).toArray) = (encE ls[j / 3]).toArray from rfl, List.getElem?_toArray, List.getElem?_eq_getElem h3]
theorem sortE (l s : List Entry) (hB : Bd.B ≤ 2147483648) (hp : List.Perm l s) (ho : Ordered s) : ConM P0 50 [.sr 0, .fn 51 []] [.arr 38 3 (.own (.ag [.leaf, .leaf, .leaf])) (l.map eEntry)] (.tp []) [.arr 38 3 (.own (.ag [.leaf, .leaf, .leaf])) (s.map eEntry)] := by
  refine ⟨⟨_, Try.func50, rfl, rfl⟩, ?_⟩
  intro w L M vals hv S F hr
  have hsz : vals.length = 2 := by simpa using hr.size
  obtain ⟨v, fv, rfl⟩ : ∃ v fv, vals = [v, fv] := by
    match vals, hsz with
    | [a, b], _ => exact ⟨a, b, rfl⟩
  obtain ⟨L0, h0, _⟩ := hr.tm 0
  have e0 : v = hv 0 := by
    have : v = hv 0 ∧ L0 = [] := by simpa [numA, getL, footA] using h0
    exact this.1
  obtain ⟨L1, h1, _⟩ := hr.tm 1
  have e1 : fv = .func (.func 51) #[] #[] := by
    have : ∃ vs : List Value, fv = .func (.func 51) #[] vs.toArray ∧ footAs hv w [] vs L1 := by simpa [numA, getL, footA] using h1
    obtain ⟨vs, q1, q2⟩ := this
    simp only [footAs] at q2
    rw [q1, q2.1]
  subst e0; subst e1
  obtain ⟨vs, hrow, ⟨L2, hown, _⟩, hvsz, hlen, hones⟩ := hr.ob 0 _ rfl
  obtain ⟨L3, hfoot, _⟩ := ownEs_foot _ _ hown
  obtain ⟨ls, rfl, rfl⟩ := foot_entries hfoot
  have done0 : ls = [] → s = [] := by
    intro h; subst h
    exact hp.nil_eq.symm
  rcases hrow.2 with ⟨hnil, hn0⟩ | ⟨g, cap, cur, hvg, hbg, hheap, hnc, hcm, hcs, htake⟩
  · have hls : ls = [] := List.eq_nil_of_length_eq_zero (by simpa using hn0)
    have hs := done0 hls
    subst hls; subst hs
    have hcall := AnyF.slices_SortFunc_none Try.sortL none 0 (.func (.func 51) #[] #[]) w
    change Calls P0 50 _ _ _ at hcall
    have hvn : hv 0 = .slice none 0 0 := hnil
    rw [hvn]
    refine hcall.mono fun e w' ⟨he, hw⟩ => ?_
    subst hw
    exact ⟨.tuple #[], hv, S, F, [], he, hr.no_tmp, by simp [footA, footAs], by simp, rfl⟩
  · have hn3 : ((ls.map (·.1)).map eEntry).length = ls.length := by simp
    rw [hn3] at hnc htake
    have hvg' : hv 0 = .slice (some ⟨g, 0, none⟩) ls.length cap := by rw [← hn3]; exact hvg
    have hcn : ls.length * 3 ≤ cur.size := by rw [hcs]; omega
    have hH : HoldsK encE 3 w g 0 ls.toArray := by
      intro j hj
      have hj' : j < ls.length * 3 := by simpa using hj
      have hcur : cur[j]? = some (flatK encE 3 ls.toArray)[j]! := by
        have h := cells_flat hj'
        rw [← htake, List.getElem?_take_of_lt hj'] at h
        simpa using h
      refine ⟨?_, ?_⟩
      · simp only [World.cell?, hheap, Nat.zero_add, id]
        simpa using hcur
      · simp [World.frozen?, hheap]
    have eg : ∀ args w, (callFunc 51 args).run P0 w = .ok (.enter 51 args) w := enters_of Try.func51 (by kernel_rfl) rfl
    have hsmall : ls.length < Bd.B := by rw [hn3] at hlen; exact hlen
    have hhi := Bd.hi
    have hcall := AnyQ.slices_SortFunc Try.sortL 3 Try.isAgg38 Try.sizeOf38 encE (fun _ => rfl) (fun x v hv => by simp [encE] at hv; rcases hv with rfl | rfl | rfl <;> rfl) cfE swoE 51 #[] g 0 cap ls.toArray w eg (cmpLaysE _ _ _ _) hH (heap_lt hheap) (by simp; omega)
    change Calls P0 50 _ _ _ at hcall
    rw [hvg']
    refine hcall.mono fun e w' ⟨he, d', n, os, hperm, hsort, hw⟩ => ?_
    obtain ⟨hps, _, hpp⟩ := hperm
    have hd : d'.size = ls.length := by simpa using hps
    have hpl : List.Perm d'.toList ls := by
      rw [show ls.toArray.size = d'.size by rw [hd]; simp, Array.extract_size] at hpp
      rw [show d'.size = ls.toArray.size by rw [hd]; simp, Array.extract_size] at hpp
      simpa using hpp
    have hs : d'.toList.map (·.1) = s := by
      refine order_one ((hpl.map _).trans hp) ho (List.pairwise_iff_getElem.2 fun i j hi hj hij => ?_)
      have hi' : i < d'.size := by simpa using hi
      have hj' : j < d'.size := by simpa using hj
      have := hsort i j (Nat.zero_le _) hij (by rw [show ls.toArray.size = d'.size by rw [hd]; simp]; exact hj')
      rw [ltE, getElem!_pos d' j hj', getElem!_pos d' i hi'] at this
      simpa using this
    subst hs
    have hF : (flatK encE 3 d').size = ls.length * 3 := by simp [hd]
    obtain ⟨w1, hw1⟩ : ∃ w1, putRowK encE 3 (Sort.ahead w n) g 0 d' = w1 := ⟨_, rfl⟩
    have hh1 : w1.heap = w.heap.modify g (onCells (putCells id 0 (flatK encE 3 d'))) := by rw [← hw1]; rfl
    have hg1 : w1.heap[g]? = some (.cells (putCells id 0 (flatK encE 3 d') cur) 38 (0, 0)) := by
      rw [hh1, Array.getElem?_modify, if_pos rfl, hheap]; rfl
    have ho1 : ∀ k, k ≠ g → w1.heap[k]? = w.heap[k]? := fun k hk => by
      rw [hh1, Array.getElem?_modify, if_neg (fun e => hk e.symm)]
    have hd' : d'.toList.length = ls.length := by simpa using hd
    have htk : (putCells id 0 (flatK encE 3 d') cur).toList.take (ls.length * 3) = cellsL (d'.toList.map fun x => .agg (encE x).toArray) := by
      apply List.ext_getElem?
      intro j
      by_cases hj : j < ls.length * 3
      · rw [List.getElem?_take_of_lt hj, cells_flat (ls := d'.toList) (by rw [hd']; exact hj), Array.toArray_toList]
        have hjc : j < cur.size := by omega
        simp only [putCells, Array.getElem?_toList, Array.getElem?_mapIdx, Array.getElem?_eq_getElem hjc, Option.map_some, Nat.zero_le, true_and, Nat.zero_add, hF, hj, if_true, Nat.sub_zero, id]
      · have hl := cellsL_length (m := 3) (d'.toList.map fun x => Value.agg (encE x).toArray) (encE_size (x := default))
        rw [List.length_map, hd'] at hl
        rw [List.getElem?_eq_none (by rw [List.length_take]; omega), List.getElem?_eq_none (by omega)]
    have hroot : blkOf (hv 0) = some g := by rw [hvg']; rfl
    have hr1 := hr.write (id := 0) (o' := .arr 38 3 (.own (.ag [.leaf, .leaf, .leaf])) ((d'.toList.map (·.1)).map eEntry)) rfl (by simp) (w' := w1) (fun k hk => ho1 k (fun e => hk (by rw [hroot, e]))) (by rw [hh1]; simp) (by rw [← hw1]; rfl) (by rw [← hw1]; rfl) (by rw [← hw1]; rfl) (by rw [← hw1]; exact Nat.le_add_right _ _) rfl
      (by
        refine ⟨d'.toList.map fun x => .agg (encE x).toArray, ⟨?_, .inr ⟨g, cap, _, ?_, hbg, hg1, ?_, hcm, ?_, ?_⟩⟩, ⟨[], fitsAll_own (fitsAll_map fun _ => eEntry_fits) entries_foot, by simp, by simp⟩, encE_size (x := default), ?_, ?_⟩
        · rw [cellsL_length (m := 3) _ (encE_size (x := default))]; simp
        · rw [hvg']; simp [hd]
        · simp [hd]; exact hnc
        · simp [putCells, hcs]
        · simp only [List.length_map, hd']; exact htk
        · simp only [List.length_map, hd']; exact hsmall
        · intro u hu
          simp only [cellsL, List.mem_flatMap, List.mem_map] at hu
          obtain ⟨v, ⟨x, _, rfl⟩, hu⟩ := hu
          have : u ∈ encE x := by simpa [Value.cells] using hu
          simp [encE] at this
          rcases this with rfl | rfl | rfl <;> rfl) (fun _ => rfl)
    have hgrew : Grew w1 (grow w1 os) := ⟨rfl, rfl, rfl, by simp [grow], fun k hk => by simp only [grow]; rw [Array.getElem?_append_left hk], fun _ => Nat.le_refl _⟩
    have hr2 := hr1.grow hgrew
    have hwe : w' = grow w1 os := by rw [hw, ← hw1]; rfl
    subst hwe
    exact ⟨.tuple #[], _, _, _, [], he, hr2.no_tmp, by simp [footA, footAs], by simp, rfl⟩
end
end Go.Proofs.Ytmgdkkhnjkepiaa.BX
namespace Go.Proofs.Ytmgdkkhnjkepiaa.BX
set_option linter.unusedSectionVars false
set_option linter.unusedSimpArgs false
set_option linter.unusedVariables false
open Go Go.RowKit
set_option maxRecDepth 20000
set_option maxHeartbeats 400000
def Cnt {κ : Type} [DecidableEq κ] (m : List (κ × Int)) (p : List κ) : Prop := (m.map (·.1)).Nodup ∧ ∀ e, aget e m = if p.count e = 0 then none else some (p.count e : Int)
section
variable {κ : Type} [DecidableEq κ]
theorem Cnt.nil : Cnt ([] : List (κ × Int)) [] := ⟨by simp, fun e => by simp [aget]⟩
theorem Cnt.step {m : List (κ × Int)} {p : List κ} (h : Cnt m p) (e : κ) : Cnt (aset e ((aget e m).getD 0 + 1) m) (p ++ [e]) := by
  refine ⟨aset_nodup h.1, fun x => ?_⟩
  rw [aget_set, List.count_append]
  by_cases hx : e = x
  · subst hx
    rw [if_pos rfl, h.2 e]
    have : List.count e [e] = 1 := by simp
    rw [this]
    by_cases hc : p.count e = 0
    · rw [if_pos hc, if_neg (by omega), hc]; rfl
    · rw [if_neg hc, if_neg (by omega)]; simp
  · rw [if_neg hx, h.2 x]
    have : List.count x [e] = 0 := by simp [hx]
    rw [this, Nat.add_zero]
theorem Cnt.len {m : List (κ × Int)} {p : List κ} (h : Cnt m p) : m.length ≤ p.length := by
  have : ∀ x ∈ m.map (·.1), x ∈ p := fun x hx => by
    have h1 : aget x m ≠ none := fun hn => aget_none.1 hn hx
    rw [h.2 x] at h1
    by_cases hc : p.count x = 0
    · rw [if_pos hc] at h1; exact absurd rfl h1
    · exact List.count_pos_iff.1 (by omega)
  have h2 := List.Nodup.length_le_of_subset h.1 (fun x hx => this x hx)
  rwa [List.length_map] at h2
theorem Cnt.mem {m : List (κ × Int)} {p : List κ} (h : Cnt m p) {e : κ} {n : Int} (hm : (e, n) ∈ m) : e ∈ p ∧ n = p.count e := by
  obtain ⟨i, hi⟩ := List.getElem?_of_mem hm
  have h1 := aget_at h.1 hi rfl
  rw [h.2 e] at h1
  by_cases hc : p.count e = 0
  · rw [if_pos hc] at h1; cases h1
  · rw [if_neg hc] at h1
    exact ⟨List.count_pos_iff.1 (by omega), (Option.some.inj h1).symm⟩
theorem Cnt.val {m : List (κ × Int)} {p : List κ} (h : Cnt m p) (e : κ) : 0 ≤ (aget e m).getD 0 ∧ (aget e m).getD 0 ≤ (p.length : Int) := by
  rw [h.2 e]
  have := List.count_le_length (a := e) (l := p)
  split
  · simp
  · simp; omega
theorem Cnt.keys {m : List (κ × Int)} {p : List κ} (h : Cnt m p) {e : κ} : e ∈ m.map (·.1) ↔ e ∈ p := by
  have h1 := h.2 e
  constructor
  · intro hm
    have : aget e m ≠ none := fun hn => aget_none.1 hn hm
    rw [h1] at this
    by_cases hc : p.count e = 0
    · rw [if_pos hc] at this; exact absurd rfl this
    · exact List.count_pos_iff.1 (by omega)
  · intro hp
    have := List.count_pos_iff.2 hp
    rw [if_neg (by omega)] at h1
    exact Classical.byContradiction fun hn => by rw [aget_none.2 hn] at h1; cases h1
theorem Cnt.all {m : List (κ × Int)} {p : List κ} (h : Cnt m p) {e : κ} (he : e ∈ p) : (e, (p.count e : Int)) ∈ m := by
  have h1 := h.2 e
  have := List.count_pos_iff.2 he
  rw [if_neg (by omega)] at h1
  exact aget_in h1
end
theorem pair_inj {x y : Entry} (h : x.pair = y.pair) : x = y := by
  cases x; cases y
  simp only [Entry.pair, Entry.slot, Prod.mk.injEq] at h
  rw [h.1.1, h.1.2, h.2]
theorem has_find {s : List Entry} (h : stateOk s = true) {e : Entry} (he : e.id ≠ []) : e ∈ s ↔ findId e.slot s = e.id := by
  obtain ⟨h1, h2, h3⟩ := stateOk_ord h
  have hk : ((s.map Entry.pair).map (·.1)).Nodup := ordered_keys (ordered_of h1)
  have hg := findId_get (k := e.slot) h3
  constructor
  · intro hm
    have := (mem_aget hk (p := e.pair)).1 (List.mem_map_of_mem hm)
    rcases hg with ⟨g1, _⟩ | ⟨g1, _⟩
    · rw [show (s.map Entry.pair) = s.map fun e => (e.slot, e.id) from rfl, show e.pair.1 = e.slot from rfl, g1] at this; cases this
    · rw [show (s.map Entry.pair) = s.map fun e => (e.slot, e.id) from rfl, show e.pair.1 = e.slot from rfl, g1] at this
      exact Option.some.inj this
  · intro hf
    rcases hg with ⟨_, g2⟩ | ⟨g1, _⟩
    · rw [g2] at hf; exact absurd hf.symm he
    · rw [hf] at g1
      have := (mem_aget hk (p := e.pair)).2 g1
      obtain ⟨x, hx, hxe⟩ := List.mem_map.1 this
      have : x = e := pair_inj hxe
      exact this ▸ hx
theorem state_nodup {s : List Entry} (h : stateOk s = true) : s.Nodup := by
  have := inOrd_nodup (stateOk_ord h).1
  exact (List.pairwise_map.1 this).imp fun hne he => hne (by rw [he])
theorem cnt_full {ss : List (List Entry)} (h : ∀ s ∈ ss, stateOk s = true) {e : Entry} (he : e.id ≠ []) : ss.flatten.count e ≤ ss.length ∧ (ss.flatten.count e = ss.length ↔ agr ss e = true) := by
  induction ss with
  | nil => simp [agr]
  | cons s ss ih =>
    obtain ⟨i1, i2⟩ := ih fun t ht => h t (by simp [ht])
    have hs := h s (by simp)
    have hn := (state_nodup hs).count (a := e)
    rw [List.flatten_cons, List.count_append, List.length_cons]
    have hag : agr (s :: ss) e = (decide (findId e.slot s = e.id) && agr ss e) := rfl
    rw [hag, Bool.and_eq_true, decide_eq_true_eq, ← has_find hs he, ← i2, hn]
    split
    · rename_i hm
      refine ⟨by omega, fun hh => ⟨hm, by omega⟩, fun hh => by omega⟩
    · rename_i hm
      refine ⟨by omega, fun hh => by omega, fun hh => absurd hh.1 hm⟩
theorem ids_of {ss : List (List Entry)} (h : ∀ s ∈ ss, stateOk s = true) {e : Entry} (he : e ∈ ss.flatten) : e.id ≠ [] := by
  obtain ⟨s, hs, hes⟩ := List.mem_flatten.1 he
  exact (stateOk_ord (h s hs)).2.2 e hes
theorem setL_has {s : List Entry} {e : Entry} (h : Ordered s) (he : e.id ≠ []) (hc : ∀ x ∈ s, x.slot = e.slot → x = e) (x : Entry) : x ∈ setL s e false ↔ x ∈ s ∨ x = e := by
  refine ⟨setL_mem, fun hx => ?_⟩
  obtain ⟨h1, h2, _⟩ := setL_spec (e := e) (keep := false) h
  have h2 := h2 (by simp [he])
  have hk := ordered_keys h1
  have hp : x.pair ∈ (setL s e false).map Entry.pair := by
    rw [h2.mem_iff, mem_aget (aset_nodup (ordered_keys h)), aget_set]
    by_cases hs : e.slot = x.pair.1
    · rw [if_pos hs]
      have : x = e := by
        rcases hx with hx | hx
        · exact hc x hx hs.symm
        · exact hx
      rw [this]; rfl
    · rw [if_neg hs]
      rcases hx with hx | hx
      · exact (mem_aget (ordered_keys h) (p := x.pair)).1 (List.mem_map_of_mem hx)
      · exact absurd (by rw [hx]; rfl) hs
  obtain ⟨y, hy, hye⟩ := List.mem_map.1 hp
  have : y = x := pair_inj hye
  exact this ▸ hy
theorem patchL_has : ∀ {ch s : List Entry}, Ordered s → (∀ e ∈ ch, e.id ≠ []) → (∀ x ∈ s ++ ch, ∀ y ∈ s ++ ch, x.slot = y.slot → x = y) → ∀ x, x ∈ patchL s ch ↔ x ∈ s ∨ x ∈ ch
  | [], s, _, _, _, x => by simp [patchL]
  | e :: ch, s, h, hid, hc, x => by
    have hse := setL_has (e := e) h (hid e (by simp)) (fun y hy hs => hc y (by simp [hy]) e (by simp) hs)
    have ih := patchL_has (ch := ch) (s := setL s e false) (setL_spec h).1 (fun y hy => hid y (by simp [hy])) (fun y hy z hz hs => by
      have mv : ∀ y, y ∈ setL s e false ++ ch → y ∈ s ++ e :: ch := fun y hy => by
        rcases List.mem_append.1 hy with hy | hy
        · rcases (hse y).1 hy with hy | hy
          · simp [hy]
          · simp [hy]
        · simp [hy]
      exact hc y (mv y hy) z (mv z hz) hs) x
    show x ∈ patchL (setL s e false) ch ↔ _
    rw [ih, hse x, List.mem_cons, or_assoc]
theorem agr_slot {ss : List (List Entry)} (h : ∀ s ∈ ss, stateOk s = true) {x y : Entry} (hx : x ∈ ss.flatten) (hax : agr ss x = true) (hay : agr ss y = true) (hs : x.slot = y.slot) : x = y := by
  obtain ⟨s, hs1, _⟩ := List.mem_flatten.1 hx
  unfold agr at hax hay
  rw [List.all_eq_true] at hax hay
  have e1 := hax s hs1
  have e2 := hay s hs1
  rw [decide_eq_true_eq] at e1 e2
  rw [hs] at e1
  have hid : x.id = y.id := e1.symm.trans e2
  cases x; cases y
  simp only [Entry.slot, Prod.mk.injEq] at hs
  simp only at hid
  rw [hs.1, hs.2, hid]
theorem sameL_has {ss : List (List Entry)} (h : ∀ s ∈ ss, stateOk s = true) (x : Entry) : x ∈ sameL ss ss.flatten ↔ x ∈ ss.flatten ∧ agr ss x = true := by
  have := patchL_has (s := []) (ch := ss.flatten.filter (agr ss)) .nil (fun e he => ids_of h (List.mem_filter.1 he).1) (fun a ha b hb hs => by
    rw [List.nil_append, List.mem_filter] at ha hb
    exact agr_slot h ha.1 ha.2 hb.2 hs) x
  rw [List.mem_filter] at this
  show x ∈ patchL [] (ss.flatten.filter (agr ss)) ↔ _
  rw [this]
  simp
theorem split_done {ss : List (List Entry)} (h : ∀ s ∈ ss, stateOk s = true) {m : List (Entry × Int)} (hm : Cnt m ss.flatten) {out : List Entry} {om : List (List UInt8)} (h1 : List.Perm out ((m.filter fun p => decide (p.2 = (ss.length : Int))).map (·.1))) (h2 : om.Nodup) (h3 : ∀ x, x ∈ om ↔ ∃ p ∈ m, p.2 ≠ (ss.length : Int) ∧ p.1.id = x) :
    List.Perm out (sameL ss ss.flatten) ∧ srt om = sset (othL ss ss.flatten) := by
  have full : ∀ e n, (e, n) ∈ m → (n = (ss.length : Int) ↔ agr ss e = true) := fun e n he => by
    obtain ⟨e1, e2⟩ := hm.mem he
    rw [e2, ← (cnt_full h (ids_of h e1)).2]
    omega
  constructor
  · refine h1.trans ((List.perm_ext_iff_of_nodup ?_ ?_).2 fun x => ?_)
    · exact List.Nodup.sublist (List.filter_sublist.map _) hm.1
    · have := inOrd_nodup (inOrd_of (sameL_len (ss := ss) (p := ss.flatten)).1)
      exact (List.pairwise_map.1 this).imp fun hne he => hne (by rw [he])
    · rw [sameL_has h, List.mem_map]
      constructor
      · rintro ⟨⟨e, n⟩, hp, rfl⟩
        rw [List.mem_filter, decide_eq_true_eq] at hp
        exact ⟨(hm.mem hp.1).1, (full e n hp.1).1 hp.2⟩
      · rintro ⟨hx, ha⟩
        have := hm.all hx
        exact ⟨(x, _), List.mem_filter.2 ⟨this, by rw [decide_eq_true_eq]; exact (full x _ this).2 ha⟩, rfl⟩
  · rw [← sset_srt h2]
    refine asc_same sset_asc sset_asc fun x => ?_
    rw [sset_mem, sset_mem, h3]
    unfold othL
    rw [List.mem_map]
    constructor
    · rintro ⟨⟨e, n⟩, hp, hne, rfl⟩
      refine ⟨e, List.mem_filter.2 ⟨(hm.mem hp).1, ?_⟩, rfl⟩
      cases ha : agr ss e with
      | true => exact absurd ((full e n hp).2 ha) hne
      | false => rfl
    · rintro ⟨e, he, rfl⟩
      rw [List.mem_filter] at he
      have := hm.all he.1
      exact ⟨_, this, fun hh => by rw [(full e _ this).1 hh] at he; simp at he, rfl⟩
end Go.Proofs.Ytmgdkkhnjkepiaa.BX
namespace Go.Proofs.Ytmgdkkhnjkepiaa.BX
set_option linter.unusedSectionVars false
set_option linter.unusedSimpArgs false
set_option linter.unusedVariables false
open Go Go.RowKit Go.Shelf Go.Sort Go.Maps
set_option maxRecDepth 20000
set_option maxHeartbeats 400000
section
variable [Bd]
theorem srt_of_perm {l m : List (List UInt8)} (h : List.Perm l m) : srt l = srt m := mergeSort_of_perm h
theorem keyRd {x : MapEntry} {k : List UInt8} (hk : x.key = encStr k) (hl : k.length < 9223372036854775808) : Go.WideElems.rd P0 9 (fun _ => some ((.nil : DataW Unit), ([] : List MemPlace))) x = some (.string k, .nil) := by
  unfold Go.WideElems.rd
  rw [hk]
  have : keyOf P0 9 (.string ⟨k.toArray⟩) = some (.string k) := by
    have := Go.WideMaps.keyOf_string_mk (P := P0) (k := 9) (by kernel_rfl) (s := ⟨k.toArray⟩) (by show k.toArray.size ≤ 2 ^ 63 - 1; simp; omega)
    simpa using this
  rw [this]
  rfl
theorem sortsK (m : Nat) : AnyZ.SortsIn P0 Try.sortedM_ren Fence.wide m :=
  ⟨fun blk off cap ss W hH hblk hsz => callsIn_wide.2 (AnyM.slices_Sort_string Try.sortM blk off cap ss W hH hblk hsz),
   fun p cap W => callsIn_wide.2 (AnyM.slices_Sort_string_none Try.sortM p cap W)⟩
theorem ents_map {w : World} {ks : List (List UInt8)} {r : Nat} {es : Array MapEntry} {clock : Nat} {l : List MapEntry} (h1 : w.heap[r]? = some (.map es clock)) (hp : List.Perm l es.toList) (hb : (l.map (·.born)).Nodup) (hlt : ∀ e ∈ l, e.born < clock) (hk : l.map (·.key) = ks.map encStr) (hn : ks.Nodup) (hs : ∀ k ∈ ks, k.length < 9223372036854775808) (hl : ks.length ≤ 9223372036854775807) :
    ∃ D0 : DataW Unit, w.ownsMap P0 9 (fun _ => some (.nil, [])) r es.size D0 ∧ size D0 = ks.length ∧ List.Perm (strKeys D0) ks := by
  have hlen : es.toList.length = ks.length := by rw [← hp.length_eq, ← List.length_map (f := (·.key)), hk, List.length_map]
  have hkey : ∀ x ∈ es.toList, ∃ k ∈ ks, x.key = encStr k := fun x hx => by
    have : x.key ∈ l.map (·.key) := List.mem_map_of_mem (hp.mem_iff.2 hx)
    rw [hk] at this
    obtain ⟨k, hk1, hk2⟩ := List.mem_map.1 this
    exact ⟨k, hk1, hk2.symm⟩
  have hrg : ∀ x ∈ es.toList, ∀ k, x.key = encStr k → k ∈ ks → Go.WideElems.rg P0 9 (fun _ => some ((.nil : DataW Unit), ([] : List MemPlace))) x = (.string k, .nil) := fun x _ k h1 h2 => Go.WideElems.rg_of (keyRd h1 (hs k h2))
  refine ⟨_, ⟨es, clock, h1, ⟨?_, ⟨?_, ?_, ?_⟩, ?_⟩, Nat.le_refl _, rfl⟩, ?_, ?_⟩
  · rw [← Array.length_toList, hlen]; exact hl
  · exact fun x hx => hlt x (hp.mem_iff.2 hx)
  · exact (hp.map _).nodup_iff.1 hb
  · refine (hp.map _).nodup_iff.1 ?_
    rw [hk]
    exact List.pairwise_map.2 (hn.imp fun hne e => hne (encStr_inj e))
  · intro x hx
    obtain ⟨k, k1, k2⟩ := hkey x hx
    exact ⟨_, keyRd k2 (hs k k1)⟩
  · rw [size_eq, (Go.WideShapes.sorted_perm _).length_eq, List.length_map, hlen]
  · show List.Perm (List.map (fun p => strOf p.1) (List.foldr DataW.insert [] _)) ks
    refine ((Go.WideShapes.sorted_perm _).map _).trans ?_
    rw [List.map_map]
    refine (hp.symm.map _).trans ?_
    have : ∀ (l : List MapEntry) (ks : List (List UInt8)), l.map (·.key) = ks.map encStr → (∀ k ∈ ks, k.length < 9223372036854775808) → l.map ((fun p : Lit × DataW Unit => strOf p.1) ∘ Go.WideElems.rg P0 9 (fun _ => some ((.nil : DataW Unit), ([] : List MemPlace)))) = ks := by
      intro l
      induction l with
      | nil => intro ks h _; cases ks with
        | nil => rfl
        | cons k ks => simp at h
      | cons x l ih =>
        intro ks h hs
        cases ks with
        | nil => simp at h
        | cons k ks =>
          simp only [List.map_cons, List.cons.injEq] at h ⊢
          refine ⟨?_, ih ks h.2 fun k hk => hs k (by simp [hk])⟩
          simp only [Function.comp, Go.WideElems.rg_of (keyRd h.1 (hs k (by simp)))]
          rfl
    rw [this l ks hk hs]
set_option maxHeartbeats 1000000 in
theorem sortedKeys (l : List (List UInt8)) (vs : List T) (hD : ¬ Bd.D) (hB : Bd.B ≤ 2147483648) : ConM P0 52 [.fn 82 [.rf 0 0]] [.box (.mr 1), .map 9 3 (.own .leaf) (l.map T.s) vs none] (.sr 2)
    [.box (.mr 1), .map 9 3 (.own .leaf) (l.map T.s) vs none, .arr 9 1 (.own .leaf) ((srt l).map T.s)] := by
  refine ⟨⟨_, Try.func52, rfl, rfl⟩, ?_⟩
  intro w L M vals hv S F hr
  have hsz : vals.length = 1 := by simpa using hr.size
  obtain ⟨v, rfl⟩ : ∃ v, vals = [v] := List.length_eq_one_iff.1 hsz
  obtain ⟨L0, h0, _⟩ := hr.tm 0
  obtain ⟨b, e, u, L1, hb1, hb2, hb3, _⟩ := hr.ob 0 _ rfl
  have e0 : v = .func (.func 82) #[] #[.pointer (some ⟨b, 0, none⟩)] := by
    have : footA hv w (.fn 82 [.rf 0 0]) v L0 := by simpa [numA, getL] using h0
    simp only [footA, footAs] at this
    obtain ⟨vs', rfl, v1, vs1, _, _, rfl, _, ⟨b', q1, q2, _⟩, rfl, _⟩ := this
    rw [hb1] at q1
    cases q1
    rw [q2]
  subst e0
  obtain ⟨r, es, clock, en, hE, hels, hlv, _⟩ := hr.ob 1 _ rfl
  simp only [footA] at hb3
  obtain ⟨rfl, _⟩ := hb3
  have hcell : w.cell? ⟨b, 0, none⟩ = some (.map (some r)) := by
    rw [hE.val] at hb2
    simp [World.cell?, hb2, Value.cells]
  obtain ⟨hkeys, hklen⟩ := foot_texts hE.keys
  have hnd : l.Nodup := by
    have := hE.nodup
    exact (List.pairwise_map.1 this).imp fun h e => h (by rw [e])
  have hsm := hE.small
  rw [List.length_map] at hsm
  obtain ⟨D0, hown, hsize, hperm⟩ := ents_map (ks := l) hE.heap hE.perm hE.born hE.lt hkeys hnd (fun k hk => by have := hklen k hk; omega) (by omega)
  have hbl : b < w.heap.size := heap_lt hb2
  have hseq : SeqGives Fence.wide 2 P0 82 #[.pointer (some ⟨b, 0, none⟩)] encStr (fun ss => ss.Perm (strKeys D0)) (Maps.size D0) w :=
    AnyZ.keys_gives (ρ := Try.keysM_ren) { Try.keysM with } Fence.wide _ trivial rfl (by omega) b r es.size D0 w hbl hcell hown
  have hcall := AnyZ.sorted_in Try.sortedM Fence.wide 5 trivial trivial trivial trivial rfl (by omega) (sortsK _) (enters_of Try.func81 (by kernel_rfl) rfl) 82 #[.pointer (some ⟨b, 0, none⟩)] trivial (enters_of Try.func82 (by kernel_rfl) rfl) _ _ (by rw [hsize]; show l.length ≤ 2 ^ 63 - 1; omega) (by rw [hsize]; omega) w hseq
  have hcall := callsIn_wide.1 hcall
  change Calls P0 52 _ _ _ at hcall
  refine hcall.mono fun e w' ⟨v, ss, he, hss, hrow, hnil, hbel⟩ => ?_
  have hsl : List.Perm ss l := hss.trans hperm
  have hsrt : (ss.mergeSort fun x y => decide (x ≤ y)) = srt l := srt_of_perm hsl
  rw [hsrt] at hrow
  change w'.ownsRow w.heap.size 9 1 v ss.length ((srt l).map encStr) at hrow
  have hlen : ss.length = (srt l).length := by rw [hsl.length_eq, srt_perm.length_eq]
  have hbs : ∀ x ∈ srt l, x.length < Bd.B := fun x hx => hklen x (srt_perm.mem_iff.1 hx)
  have hr' := hr.no_tmp
  have g : Grew w w' := Grew.of_below hbel fun d => absurd d hD
  obtain ⟨hv', S', F', q1, q2, q3, q4⟩ := hr'.newrow g (k := .own .leaf) (es := (srt l).map T.s) (vs := (srt l).map encStr) ⟨[], ⟨[], fitsAll_own (fitsAll_map fun _ => rfl) (texts_foot hbs), by simp, by simp⟩, fun _ => by intro b hb; cases hb⟩ (e := 9) (m := 1) (v := v)
    (by rw [cellsL_texts, List.length_map, ← hlen]; exact hrow) (fun v hv => by obtain ⟨x, _, rfl⟩ := List.mem_map.1 hv; rfl) (by rw [List.length_map, srt_perm.length_eq]; exact hsm) (by
      intro u hu
      rw [cellsL_texts] at hu
      obtain ⟨x, _, rfl⟩ := List.mem_map.1 hu
      rfl) (by rcases hrow.2 with ⟨q, _⟩ | ⟨_, _, _, q, _⟩ <;> rw [q] <;> rfl)
  exact ⟨v, hv', S', F', [], he, q4, by simp only [footA]; exact ⟨q3.symm, trivial⟩, by simp, rfl⟩
end
end Go.Proofs.Ytmgdkkhnjkepiaa.BX
namespace Go.Proofs.Ytmgdkkhnjkepiaa.BX
set_option linter.unusedSectionVars false
set_option linter.unusedSimpArgs false
set_option linter.unusedVariables false
open Go Go.RowKit
variable [Bd]
inductive OT where
  | done | step (i : Nat) (t m : OT)
def OT.heads : OT → List Nat
  | .done => []
  | .step i _ m => i :: m.heads
def okAlts (ops : Array Oper) : Array Bool → OT → Bool
  | _, .done => true
  | listed, .step i t m => decide (Region.ready .any ops (listed.setIfInBounds i true) = t.heads) && (okAlts ops (listed.setIfInBounds i true) t && okAlts ops listed m)
def okTree (ops : Array Oper) (t : OT) : Bool := decide (Region.ready .any ops (Array.replicate ops.size false) = t.heads) && okAlts ops (Array.replicate ops.size false) t
def onDone (t : OT) (A B : Prop) : Prop := match t with
  | .done => A
  | _ => B
def runAt (P : Program) (all : Array Oper) (i : Nat) (σ : St) (R : St → Prop) : Prop := match opAt all.toList i with
  | some o => dstOk σ.n o.dst ∧ vcGuard all σ o (fun σ => vcOp P σ o.op fun x ob => R (({ σ with ob := ob } : St).set o.dst x)) (fun σ => R (σ.set o.dst .ud))
  | none => False
def vcAlts (P : Program) (all : Array Oper) (K : St → Prop) : OT → St → Prop
  | .done, _ => True
  | .step i t m, σ => runAt P all i σ (fun σ' => onDone t (K σ') (vcAlts P all K t σ')) ∧ vcAlts P all K m σ
section
variable {P : Program} {Q : Exit → Act → World → Prop} {w0 : Base} {σ : St} {hv : Hv} {S : Nat → Prop} {F : Nat → List Nat} {a : Act} {w : World}
theorem run_step {ops : Array Oper} {i : Nat} {R : St → Prop} (hr : Rel w0 σ hv S F a w) (h : runAt P ops i σ R) {next : Act → World → Prop}
    (hn : ∀ σ' (hv' : Hv) S' F' a' w', R σ' → Rel w0 σ' hv' S' F' a' w' → next a' w') : wpOp P ops Q i next a w := by
  unfold runAt at h
  rw [opAt_eq, Array.getElem?_toList] at h
  split at h
  case h_2 => cases h
  rename_i o ho
  obtain ⟨hd, h⟩ := h
  have hdk : ∀ σ', Eqv σ σ' → ∀ k, o.dst = some k → k < σ'.n := fun σ' he k hk => by rw [hk] at hd; rw [he.n]; exact hd
  unfold wpOp
  rw [ho]
  simp only
  rcases vcGuard_sound (Eqv.refl σ) h with ⟨hg, σ', he, h⟩ | ⟨hg, σ', he, h⟩
  · have hr1 := hr.tm_ext he
    rw [if_pos (wanted_of hr hg)]
    refine .inl ?_
    have := vcOp_sound (Q := Q) (next := fun v w' => next (a.put o.dst v) w') hr1 h (fun v w' x ob' hv' S' F' L hK hr' f1 f2 hu => hn _ _ _ _ _ _ hK (hr'.put (d := o.dst) f1 f2 hu (hdk σ' he)))
    unfold Does at this
    exact Oper.wp_mono (fun a' w' ⟨v, ha, hv⟩ => ha ▸ hv) this
  · have hr1 := hr.tm_ext he
    rw [if_neg (by rw [wanted_of hr hg]; simp)]
    exact hn _ _ _ _ _ _ h (hr1.put (d := o.dst) (x := .ud) (v := undef) (L := []) (by simp [footA]) (by simp) rfl (hdk σ' he))
theorem alts_pick {ops : Array Oper} {K : St → Prop} {listed : Array Bool} : ∀ {t : OT}, okAlts ops listed t = true → vcAlts P ops K t σ → ∀ i ∈ t.heads, ∃ s, Region.ready .any ops (listed.setIfInBounds i true) = s.heads ∧ okAlts ops (listed.setIfInBounds i true) s = true ∧ runAt P ops i σ fun σ' => onDone s (K σ') (vcAlts P ops K s σ')
  | .done, _, _, i, hi => by cases hi
  | .step j t m, hk, h, i, hi => by
    simp only [okAlts, Bool.and_eq_true, decide_eq_true_eq] at hk
    simp only [vcAlts] at h
    rcases List.mem_cons.1 hi with rfl | hi
    · exact ⟨t, hk.1, hk.2.1, h.1⟩
    · exact alts_pick hk.2.2 h.2 i hi
theorem alts_sound {ops : Array Oper} {K : St → Prop} (hQ : ∀ σ' (hv' : Hv) S' F' a' w', K σ' → Rel w0 σ' hv' S' F' a' w' → Q .normal a' w') : ∀ (fuel : Nat) {t : OT} {listed : Array Bool} {σ : St} {hv : Hv} {S : Nat → Prop} {F : Nat → List Nat} {a : Act} {w : World},
    Region.ready .any ops listed = t.heads → okAlts ops listed t = true → listed.toList.count false ≤ fuel → Rel w0 σ hv S F a w → onDone t (K σ) (vcAlts P ops K t σ) → wpAny P .any ops Q fuel listed a w
  | 0, t, listed, σ, hv, S, F, a, w, hh, hk, hc, hr, h => by
    have hre : Region.ready .any ops listed = [] := by
      cases hre : Region.ready .any ops listed with
      | nil => rfl
      | cons i is =>
        have : i ∈ Region.ready .any ops listed := by rw [hre]; exact List.mem_cons_self ..
        obtain ⟨h0, _⟩ := mem_ready.1 this
        obtain ⟨h1, h2⟩ := getD_false_true h0
        have : false ∈ listed.toList := by
          have : listed[i] = false := by simpa [h2] using h1
          rw [← this]; simp
        have := List.count_pos_iff.2 this
        omega
    refine ⟨hre, ?_⟩
    cases t with
    | done => exact hQ _ _ _ _ _ _ h hr
    | step i t m => rw [hre] at hh; cases hh
  | fuel + 1, t, listed, σ, hv, S, F, a, w, hh, hk, hc, hr, h => by
    refine ⟨fun hre => ?_, fun i hi => ?_⟩
    · cases t with
      | done => exact hQ _ _ _ _ _ _ h hr
      | step i t m => rw [hre] at hh; cases hh
    · have hi' : i ∈ t.heads := hh ▸ hi
      have h' : vcAlts P ops K t σ := by
        cases t with
        | done => cases hi'
        | step => exact h
      obtain ⟨s, s1, s2, s3⟩ := alts_pick hk h' i hi'
      obtain ⟨h0, _⟩ := mem_ready.1 hi
      obtain ⟨h1, h2⟩ := getD_false_true h0
      have hcount : (listed.setIfInBounds i true).toList.count false ≤ fuel := by
        rw [Array.toList_setIfInBounds, List.count_set (by simpa using h2)]
        have : listed[i] = false := by simpa [h2] using h1
        have hpos : 0 < listed.toList.count false := List.count_pos_iff.2 (by rw [← this]; simp)
        simp [this]
        rw [← Array.count_toList]
        omega
      exact run_step hr s3 fun σ' hv' S' F' a' w' hK hr' => alts_sound hQ fuel s1 s2 hcount hr' hK
end
theorem WL.tree {P : Program} {N : Nat} {K : Kont} {σ : St} {id : Nat} {ops : Array Oper} (t : OT) (hm : P.follows .mixedOrders = true) (hk : okTree ops t = true) (h : vcAlts P ops (K .nrm) t σ) (hne : t.heads ≠ []) : WL P N (.region id ops true) K σ := fun w0 hv S F a w hN hr => by
  simp only [okTree, Bool.and_eq_true, decide_eq_true_eq] at hk
  refine wp_region_any hm ?_
  refine alts_sound (K := K .nrm) (fun σ' hv' S' F' a' w' hk hr' => ⟨σ', hv', S', F', hk, hr'⟩) _ hk.1 hk.2 (by simp) (hr.grow (Grew.drew w)) ?_
  cases t with
  | done => exact absurd rfl hne
  | step => exact h
section
variable {P : Program} {all : Array Oper} {K : St → Prop} {σ : St}
theorem ot_done : vcAlts P all K .done σ = True := rfl
theorem ot_step {i : Nat} {t m : OT} : vcAlts P all K (.step i t m) σ = (runAt P all i σ (fun σ' => onDone t (K σ') (vcAlts P all K t σ')) ∧ vcAlts P all K m σ) := rfl
theorem ot_d {A B : Prop} : onDone .done A B = A := rfl
theorem ot_s {i : Nat} {t m : OT} {A B : Prop} : onDone (.step i t m) A B = B := rfl
def runO (P : Program) (all : Array Oper) (σ : St) (o : Option Oper) (R : St → Prop) : Prop := match o with
  | some o => dstOk σ.n o.dst ∧ vcGuard all σ o (fun σ => vcOp P σ o.op fun x ob => R (({ σ with ob := ob } : St).set o.dst x)) (fun σ => R (σ.set o.dst .ud))
  | none => False
@[congr] theorem runO_congr {o o' : Option Oper} {σ' : St} {R : St → Prop} (h : tick σ = σ') (h2 : o = o') : runO P all σ o R = runO P all σ' o' R := by unfold tick at h; rw [h, h2]
theorem ot_op {dst : Option Nat} {op : Op} {ty : TypeId} {pos : String} {after : Array Edge} {R : St → Prop} : runO P all σ (some ⟨dst, op, ty, pos, after, none⟩) R = (dstOk σ.n dst ∧ vcOp P σ op fun x ob => R (({ σ with ob := ob } : St).set dst x)) := rfl
theorem ot_run {i : Nat} {l : List Oper} {R : St → Prop} : runAt P ⟨l⟩ i σ R = runO P ⟨l⟩ σ (opAt l i) R := by
  unfold runAt runO; rfl
@[congr] theorem vcAlts_congr {t : OT} {σ' : St} (h : tick σ = σ') : vcAlts P all K t σ = vcAlts P all K t σ' := by unfold tick at h; rw [h]
@[congr] theorem onDone_congr {t t' : OT} {A B : Prop} (h : tick t = t') : onDone t A B = onDone t' A B := by unfold tick at h; rw [h]
end
attribute [push_cast] ot_done ot_step ot_d ot_s ot_op ot_run
end Go.Proofs.Ytmgdkkhnjkepiaa.BX
namespace Go.Proofs.Ytmgdkkhnjkepiaa.BX
set_option linter.unusedSectionVars false
set_option linter.unusedSimpArgs false
set_option linter.unusedVariables false
open Go Go.RowKit
set_option maxRecDepth 20000
set_option maxHeartbeats 400000
theorem eraseE_map {α β : Type} {f : α → β} : ∀ {l : List α} {i : Nat}, (l.map f).eraseIdx i = (l.eraseIdx i).map f
  | [], _ => rfl
  | _ :: _, 0 => rfl
  | x :: l, i + 1 => by simp only [List.map_cons, List.eraseIdx_cons_succ, eraseE_map]
theorem erase_pick {α : Type} : ∀ {l : List α} {i : Nat} {x : α}, l[i]? = some x → List.Perm l (x :: l.eraseIdx i)
  | [], _, _, h => by simp at h
  | y :: l, 0, x, h => by simp at h; subst h; simp
  | y :: l, i + 1, x, h => by
    simp only [List.getElem?_cons_succ] at h
    simp only [List.eraseIdx_cons_succ]
    exact ((erase_pick h).cons y).trans (List.Perm.swap ..)
variable [Bd]
end Go.Proofs.Ytmgdkkhnjkepiaa.BX
