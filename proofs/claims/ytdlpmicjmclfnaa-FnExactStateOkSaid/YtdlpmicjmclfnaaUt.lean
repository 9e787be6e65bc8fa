/-
  Lists that are filled one by one, and other small laws on lists.
-/
import Derived.Test.YtdlpmicjmclfnaaFa
namespace Go.Proofs.Ytdlpmicjmclfnaa.BX
set_option linter.unusedSectionVars false
set_option linter.unusedSimpArgs false
set_option linter.unusedVariables false
open Go Go.RowKit

/-- the first i are laid, the others are zero -/
def filled {α : Type} (f : α → T) (z : T) (xs : List α) (i : Nat) : List T := (xs.take i).map f ++ List.replicate (xs.length - i) z

section
variable {α : Type} {f : α → T} {z : T} {xs : List α} {i : Nat}
theorem filled_len (h : i ≤ xs.length) : (filled f z xs i).length = xs.length := by simp [filled]; omega
theorem filled_zero : filled f z xs 0 = List.replicate xs.length z := by simp [filled]
theorem filled_all : filled f z xs xs.length = xs.map f := by simp [filled]
theorem filled_at (h : i < xs.length) {K : T → Prop} : allAt (filled f z xs i) i K = K z := by
  have : (filled f z xs i)[i]? = some z := by
    unfold filled
    rw [List.getElem?_append_right (by rw [List.length_map, List.length_take]; omega), List.length_map, List.length_take, List.getElem?_replicate, if_pos (by omega)]
  simp only [allAt, this, Option.some.injEq, forall_eq']
theorem filled_set {a : α} (h : xs[i]? = some a) : (filled f z xs i).set i (f a) = filled f z xs (i + 1) := by
  have hi : i < xs.length := (List.getElem?_eq_some_iff.1 h).1
  unfold filled
  rw [List.set_append_right _ _ (by rw [List.length_map, List.length_take]; omega)]
  have : xs.length - i = (xs.length - (i + 1)) + 1 := by omega
  rw [this, List.replicate_succ, List.take_add_one, h]
  simp
  rw [Nat.min_eq_left (by omega), Nat.sub_self, List.set_cons_zero]
end

mutual
/-- a value's size: the lengths of its lists and texts -/
def T.wt : T → Nat
  | .s x => x.length
  | .ag cs => wts cs
  | .tp cs => wts cs
  | .sl es => es.length + wts es
  | _ => 0
def wts : List T → Nat
  | [] => 0
  | x :: xs => x.wt + wts xs
end

def szR (w : Nat) (n : Int) : Int := if (w : Int) ≤ n then n - w else -1
theorem szR_pos {w : Nat} {n : Int} (h : (w : Int) ≤ n) : szR w n = n - w := if_pos h
theorem szR_neg {w : Nat} {n : Int} (h : n < (w : Int)) : szR w n = -1 := if_neg (by omega)
theorem szR_cases (w : Nat) (n : Int) : ((w : Int) ≤ n ∧ szR w n = n - w) ∨ (n < (w : Int) ∧ szR w n = -1) := by
  by_cases h : (w : Int) ≤ n
  · exact .inl ⟨h, szR_pos h⟩
  · exact .inr ⟨by omega, szR_neg (by omega)⟩

theorem wts_append : ∀ (xs ys : List T), wts (xs ++ ys) = wts xs + wts ys
  | [], ys => by simp [wts]
  | x :: xs, ys => by simp only [List.cons_append, wts, wts_append xs ys]; omega
theorem wts_zero {α : Type} {f : α → T} (h : ∀ a, (f a).wt = 0) : ∀ {xs : List α}, wts (xs.map f) = 0
  | [] => rfl
  | x :: xs => by simp only [List.map_cons, wts, h, wts_zero h]
theorem wts_take {α : Type} {f : α → T} {xs : List α} {i : Nat} {a : α} (h : xs[i]? = some a) : wts ((xs.take (i + 1)).map f) = wts ((xs.take i).map f) + (f a).wt := by
  rw [List.take_add_one, h, List.map_append, wts_append]
  simp [wts]
theorem wts_take_le {α : Type} {f : α → T} (xs : List α) (i : Nat) : wts ((xs.take i).map f) ≤ wts (xs.map f) := by
  conv => rhs; rw [← List.take_append_drop i xs, List.map_append, wts_append]
  omega

end Go.Proofs.Ytdlpmicjmclfnaa.BX
