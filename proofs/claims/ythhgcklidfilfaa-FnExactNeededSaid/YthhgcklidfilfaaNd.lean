/-
  Texts in order, each once: the document's list; the program's 'named'.
-/
import Derived.Test.YthhgcklidfilfaaGr
import Derived.Test.YthhgcklidfilfaaSs
namespace Go.Proofs.Ythhgcklidfilfaa.BX
set_option linter.unusedSectionVars false
set_option linter.unusedSimpArgs false
set_option linter.unusedVariables false
open Go Go.RowKit
set_option maxRecDepth 20000
set_option maxHeartbeats 400000

/-- ascending, each once -/
def Asc (l : List (List UInt8)) : Prop := l.Pairwise (· < ·)
theorem asc_nodup {l : List (List UInt8)} (h : Asc l) : l.Nodup := h.imp fun hab he => by subst he; exact List.lt_irrefl _ hab
theorem asc_perm {l m : List (List UInt8)} (hl : Asc l) (hm : Asc m) (hp : List.Perm l m) : l = m := by
  refine List.Perm.eq_of_pairwise (le := fun a b => a ≤ b) ?_ (hl.imp List.le_of_lt) (hm.imp List.le_of_lt) hp
  intro a b _ _ h1 h2
  exact List.le_antisymm h1 h2
theorem srt_asc {l : List (List UInt8)} (h : l.Nodup) : Asc (srt l) := by
  have h1 : (srt l).Pairwise (fun a b => decide (a ≤ b) = true) := by
    refine List.pairwise_mergeSort ?_ ?_ _
    · intro a b c h1 h2
      simp only [decide_eq_true_eq] at *
      exact List.le_trans h1 h2
    · intro a b
      simp only [Bool.or_eq_true, decide_eq_true_eq]
      exact List.le_total a b
  have h2 : (srt l).Nodup := srt_perm.nodup_iff.2 h
  refine (h1.and h2).imp fun ⟨hab, hne⟩ => ?_
  simp only [decide_eq_true_eq] at hab
  rcases List.le_iff_lt_or_eq.1 hab with h | h
  · exact h
  · exact absurd h hne
/-- one more, in its place -/
def insS (x : List UInt8) (l : List (List UInt8)) : List (List UInt8) := if x ∈ l then l else l.takeWhile (fun y => decide (y < x)) ++ x :: l.dropWhile (fun y => decide (y < x))
/-- in order, each once -/
def sset (l : List (List UInt8)) : List (List UInt8) := l.foldl (fun o x => insS x o) []
theorem sset_snoc {l : List (List UInt8)} {i : Nat} {x : List UInt8} (h : l[i]? = some x) : sset (l.take (i + 1)) = insS x (sset (l.take i)) := by
  unfold sset
  rw [List.take_add_one, h, List.foldl_append]
  rfl
theorem takeWhile_all {l : List (List UInt8)} {x y : List UInt8} (h : y ∈ l.takeWhile (fun y => decide (y < x))) : y < x := by
  have := List.all_takeWhile (p := fun y => decide (y < x)) (l := l)
  rw [List.all_eq_true] at this
  simpa using this y h
theorem dropWhile_all {l : List (List UInt8)} (hl : Asc l) {x : List UInt8} (hx : x ∉ l) : ∀ y ∈ l.dropWhile (fun y => decide (y < x)), x < y := by
  induction l with
  | nil => simp
  | cons z l ih =>
    simp only [List.mem_cons, not_or] at hx
    rw [Asc, List.pairwise_cons] at hl
    rw [List.dropWhile_cons]
    split
    · exact ih hl.2 hx.2
    · rename_i h
      have hzx : x < z := by
        have h : ¬ z < x := by simpa using h
        rcases List.le_iff_lt_or_eq.1 (List.not_lt.1 h) with h | h
        · exact h
        · exact absurd h hx.1
      intro y hy
      rcases List.mem_cons.1 hy with rfl | hy
      · exact hzx
      · exact List.lt_trans hzx (hl.1 y hy)
theorem insS_asc {l : List (List UInt8)} {x : List UInt8} (hl : Asc l) : Asc (insS x l) := by
  unfold insS
  split
  · exact hl
  rename_i hx
  refine List.pairwise_append.2 ⟨?_, List.pairwise_cons.2 ⟨dropWhile_all hl hx, ?_⟩, fun a ha b hb => ?_⟩
  · exact List.Pairwise.sublist (List.takeWhile_sublist _) hl
  · exact List.Pairwise.sublist (List.dropWhile_sublist _) hl
  · have h1 := takeWhile_all ha
    rcases List.mem_cons.1 hb with rfl | hb
    · exact h1
    · exact List.lt_trans h1 (dropWhile_all hl hx b hb)
theorem insS_perm {l : List (List UInt8)} {x : List UInt8} (hx : x ∉ l) : List.Perm (insS x l) (x :: l) := by
  unfold insS
  rw [if_neg hx]
  refine List.perm_middle.trans (List.Perm.cons x ?_)
  rw [List.takeWhile_append_dropWhile]
theorem insS_mem {l : List (List UInt8)} {x y : List UInt8} : y ∈ insS x l ↔ y = x ∨ y ∈ l := by
  by_cases hx : x ∈ l
  · unfold insS
    rw [if_pos hx]
    exact ⟨.inr, fun h => h.elim (fun h => h ▸ hx) id⟩
  · rw [(insS_perm hx).mem_iff, List.mem_cons]
theorem insS_at {l : List (List UInt8)} {x : List UInt8} {k : Nat} (hl : Asc l) (hx : x ∉ l) (h1 : ∀ y ∈ l.drop k, x < y) (h2 : ∀ y, 0 < k → l[k - 1]? = some y → ¬ x < y) (hk : k ≤ l.length) : insS x l = l.take k ++ x :: l.drop k := by
  have ht : ∀ y ∈ l.take k, y < x := by
    intro y hy
    obtain ⟨j, hj, rfl⟩ := List.getElem_of_mem hy
    have hj' : j < k ∧ j < l.length := by rw [List.length_take] at hj; omega
    have hlast : l[k - 1]'(by omega) < x := by
      have h := h2 _ (by omega) (List.getElem?_eq_getElem (by omega))
      rcases List.le_iff_lt_or_eq.1 (List.not_lt.1 h) with h | h
      · exact h
      · exact absurd (h ▸ List.getElem_mem (by omega)) hx
    rw [List.getElem_take]
    by_cases he : j = k - 1
    · subst he; exact hlast
    · exact List.lt_trans (List.pairwise_iff_getElem.1 hl j (k - 1) hj'.2 (by omega) (by omega)) hlast
  refine asc_perm (insS_asc hl) ?_ ((insS_perm hx).trans ?_)
  · refine List.pairwise_append.2 ⟨hl.sublist (List.take_sublist _ _), List.pairwise_cons.2 ⟨h1, hl.sublist (List.drop_sublist _ _)⟩, fun a ha b hb => ?_⟩
    rcases List.mem_cons.1 hb with rfl | hb
    · exact ht a ha
    · exact List.lt_trans (ht a ha) (h1 b hb)
  · refine List.Perm.trans ?_ List.perm_middle.symm
    rw [List.take_append_drop]
theorem foldl_asc : ∀ {l o : List (List UInt8)}, Asc o → Asc (l.foldl (fun o x => insS x o) o)
  | [], _, h => h
  | _ :: l, _, h => foldl_asc (l := l) (insS_asc h)
theorem foldl_mem {y : List UInt8} : ∀ {l o : List (List UInt8)}, y ∈ l.foldl (fun o x => insS x o) o ↔ y ∈ l ∨ y ∈ o
  | [], _ => by simp
  | x :: l, o => by
    rw [List.foldl_cons, foldl_mem, insS_mem, List.mem_cons, or_left_comm, or_assoc]
theorem foldl_len : ∀ {l o : List (List UInt8)}, (l.foldl (fun o x => insS x o) o).length ≤ o.length + l.length
  | [], _ => by simp
  | x :: l, o => by
    have h : (insS x o).length ≤ o.length + 1 := by
      by_cases hx : x ∈ o
      · unfold insS; rw [if_pos hx]; omega
      · rw [(insS_perm hx).length_eq]; simp
    have := foldl_len (l := l) (o := insS x o)
    simp only [List.foldl_cons, List.length_cons]
    omega
theorem sset_len {l : List (List UInt8)} : (sset l).length ≤ l.length := by
  have := foldl_len (l := l) (o := [])
  simpa [sset] using this
theorem sset_asc {l : List (List UInt8)} : Asc (sset l) := foldl_asc List.Pairwise.nil
theorem sset_mem {l : List (List UInt8)} {y : List UInt8} : y ∈ sset l ↔ y ∈ l := by unfold sset; rw [foldl_mem]; simp
theorem asc_same {l m : List (List UInt8)} (hl : Asc l) (hm : Asc m) (h : ∀ x, x ∈ l ↔ x ∈ m) : l = m :=
  asc_perm hl hm ((List.perm_ext_iff_of_nodup (asc_nodup hl) (asc_nodup hm)).2 h)
theorem sset_srt {l : List (List UInt8)} (h : l.Nodup) : sset l = srt l :=
  asc_same sset_asc (srt_asc h) fun x => by rw [sset_mem, srt_perm.mem_iff]
theorem setMapS {xs : List (List UInt8)} {i : Nat} {v : List UInt8} : (List.map T.s xs).set i (T.s v) = List.map T.s (xs.set i v) := List.map_set.symm
theorem mid_at {out : List (List UInt8)} {a : List UInt8} {j : Nat} (hj : j ≤ out.length) : (out.take j ++ a :: out.drop j)[j]? = some a := by
  rw [List.getElem?_append_right (by rw [List.length_take]; omega), List.length_take, show j - min j out.length = 0 by omega]; rfl
theorem mid_before {out : List (List UInt8)} {a : List UInt8} {j : Nat} (hj : j ≤ out.length) (h0 : 0 < j) : (out.take j ++ a :: out.drop j)[j - 1]? = out[j - 1]? := by
  rw [List.getElem?_append_left (by rw [List.length_take]; omega), List.getElem?_take_of_lt (by omega)]
theorem mid_swap {out : List (List UInt8)} {a b : List UInt8} {j : Nat} (hj : j ≤ out.length) (h0 : 0 < j) (hb : out[j - 1]? = some b) : ((out.take j ++ a :: out.drop j).set j b).set (j - 1) a = out.take (j - 1) ++ a :: out.drop (j - 1) := by
  obtain ⟨k, rfl⟩ : ∃ k, j = k + 1 := ⟨j - 1, by omega⟩
  simp only [Nat.add_sub_cancel] at *
  obtain ⟨hk, hb⟩ := List.getElem?_eq_some_iff.1 hb
  rw [List.set_append_right _ _ (by rw [List.length_take]; omega), List.length_take, show k + 1 - min (k + 1) out.length = 0 by omega, List.set_cons_zero]
  rw [List.take_succ_eq_append_getElem hk, hb, List.append_assoc, List.set_append_right _ _ (by rw [List.length_take]; omega), List.length_take, show k - min k out.length = 0 by omega]
  rw [List.drop_eq_getElem_cons hk, hb]
  rfl
variable [Bd]
theorem l2Sorted (l : List (List UInt8)) (hB : Bd.B ≤ 2147483648) : Con P0 117 [eStringS l] (.sr 0) [.arr 9 1 (.own .leaf) ((sset l).map T.s)] := by
  refine Con.intro (fn := Try.f117) [.tmp 2] (fun i => if i = 8 then (14, []) else (0, [])) mixed (by kernel_rfl) rfl (by decide) rfl (by rfl) (by kernel_rfl) ?_
  simp -implicitDefEqProofs (maxSteps := 2000000) only [push_cast, Nat.reduceEqDiff, Nat.reduceLT, Nat.reduceLeDiff, Nat.reduceAdd, Nat.reduceMul, Nat.reduceSub, Nat.reduceBEq, ↓reduceIte, reduceCtorEq]
  have := Bd.lo
  refine ⟨rfl, by omega, ?_⟩
  refine WL.loop (ι := Nat) (D := (fun i => if i = 8 then (14, []) else (0, []))) (fun i => i ≤ l.length) (fun i => ⟨64, [(0, .t (eStringS l)), (3, .sr 0), (4, .t (.i .i64 i))], [.arr 9 1 (.own .leaf) ((sset (l.take i)).map T.s)]⟩) (fun i => l.length - i) mixed (by kernel_rfl) 0 (by omega) (Keep.wk (ids := [some 0]) ?_) ?_
  · simp only [push_cast, Nat.reduceEqDiff, Nat.reduceLT, Nat.reduceLeDiff, Nat.reduceAdd, Nat.reduceMul, Nat.reduceSub, Nat.reduceBEq, ↓reduceIte, reduceCtorEq, sset, List.take_zero, List.foldl_nil] <;> rfl
  · intro i hi
    simp -implicitDefEqProofs (maxSteps := 2000000) only [push_cast, Nat.reduceEqDiff, Nat.reduceLT, Nat.reduceLeDiff, Nat.reduceAdd, Nat.reduceMul, Nat.reduceSub, Nat.reduceBEq, ↓reduceIte, reduceCtorEq]
    intro hlen
    have hhi := Bd.hi
    refine iteI (fun h => ⟨by omega, fun a ha => ?_⟩) (fun h => ?_)
    · rw [Int.toNat_natCast] at ha
      have hsn := sset_snoc ha
      refine Callx.closed (l1Has (sset (l.take i)) a) rfl rfl (.inr ⟨rfl, rfl⟩) ?_
      simp -implicitDefEqProofs (maxSteps := 2000000) only [push_cast, Nat.reduceEqDiff, Nat.reduceLT, Nat.reduceLeDiff, Nat.reduceAdd, Nat.reduceMul, Nat.reduceSub, Nat.reduceBEq, ↓reduceIte, reduceCtorEq]
      have hso : Asc (sset (l.take i)) := sset_asc
      refine iteI (fun h1 => ?_) (fun h1 => ?_)
      · have hi1 : insS a (sset (l.take i)) = sset (l.take i) := if_pos (by simpa using h1)
        refine ⟨by unfold inI64; omega, i + 1, by omega, by omega, Keep.wk (ids := [some 0]) ?_⟩
        rw [hsn, hi1]
        simp only [push_cast, Nat.reduceEqDiff, Nat.reduceLT, Nat.reduceLeDiff, Nat.reduceAdd, Nat.reduceMul, Nat.reduceSub, Nat.reduceBEq, ↓reduceIte, reduceCtorEq] <;> rfl
      · have hol : (sset (l.take i)).length < l.length := by
          have := sset_len (l := l.take i)
          rw [List.length_take] at this
          omega
        generalize sset (l.take i) = out at *
        refine ⟨by omega, fun a' ha' => ?_⟩
        rw [Int.toNat_natCast, ha] at ha'
        cases ha'
        refine ⟨rfl, by omega, rfl, by omega, by omega, fun _ => ⟨by unfold inI64; omega, ?_⟩⟩
        refine WL.loop (ι := Nat) (D := (fun i => if i = 8 then (14, []) else (0, []))) (fun j => j ≤ out.length ∧ ∀ y ∈ out.drop j, a < y) (fun j => ⟨64, [(0, .t (eStringS l)), (3, .sr 0), (4, .t (.i .i64 i)), (5, .t (.i .i64 j))], [.arr 9 1 (.own .leaf) ((out.take j ++ a :: out.drop j).map T.s)]⟩) (fun j => j) mixed (by kernel_rfl) out.length ⟨Nat.le_refl _, by simp⟩ (Keep.wk (ids := [some 2]) ?_) ?_
        · have : ((out.length : Int) + 1 - 1) = out.length := by omega
          simp only [push_cast, Nat.reduceEqDiff, Nat.reduceLT, Nat.reduceLeDiff, Nat.reduceAdd, Nat.reduceMul, Nat.reduceSub, Nat.reduceBEq, ↓reduceIte, reduceCtorEq, this, List.take_length, List.drop_length, List.map_append, List.map_cons, List.map_nil] <;> rfl
        · rintro j ⟨hj, hja⟩
          simp -implicitDefEqProofs (maxSteps := 2000000) only [push_cast, Nat.reduceEqDiff, Nat.reduceLT, Nat.reduceLeDiff, Nat.reduceAdd, Nat.reduceMul, Nat.reduceSub, Nat.reduceBEq, ↓reduceIte, reduceCtorEq, setMapS]
          have hl : (out.take j).length + ((out.drop j).length + 1) = out.length + 1 := by rw [List.length_take, List.length_drop]; omega
          have fin : ∀ (_ : ∀ y, 0 < j → out[j - 1]? = some y → ¬ a < y), out.take j ++ a :: out.drop j = sset (l.take (i + 1)) := fun h => (hsn.trans (insS_at hso h1 hja h hj)).symm
          refine iteI (fun hp => ?_) (fun hp => ?_)
          · have e1 : (Int.toNat (j : Int)) = j := Int.toNat_natCast _
            have e2 : (Int.toNat ((j : Int) - 1)) = j - 1 := by omega
            simp only [e1, e2]
            refine ⟨by omega, by omega, fun a1 ha1 => ?_⟩
            rw [mid_at hj] at ha1
            cases ha1
            refine ⟨by unfold inI64; omega, by omega, by omega, fun b hb => ?_⟩
            have hb' := hb
            rw [mid_before hj (by omega)] at hb
            rw [Go.Proofs.bytesLess_eq]
            refine iteI (fun hl => ?_) (fun hl => ?_)
            · have hl : a < b := by simpa using hl
              refine ⟨by omega, by omega, fun a2 ha2 => ?_⟩
              rw [mid_at hj] at ha2
              cases ha2
              refine ⟨by unfold inI64; omega, by omega, by omega, fun b2 hb2 => ?_⟩
              rw [hb'] at hb2
              cases hb2
              refine ⟨by omega, by omega, fun _ _ => ⟨by unfold inI64; omega, by omega, by omega, fun _ _ => ⟨by unfold inI64; omega, j - 1, ⟨by omega, ?_⟩, by omega, Keep.wk (ids := [some 0]) ?_⟩⟩⟩
              · intro y hy
                rw [List.drop_eq_getElem_cons (by omega), List.mem_cons] at hy
                rcases hy with rfl | hy
                · rw [List.getElem?_eq_getElem (by omega)] at hb
                  cases hb; exact hl
                · rw [show j - 1 + 1 = j by omega] at hy
                  exact hja y hy
              · rw [mid_swap hj (by omega) hb]
                have e3 : ((j - 1 : Nat) : Int) = (j : Int) - 1 := by omega
                simp only [push_cast, Nat.reduceEqDiff, Nat.reduceLT, Nat.reduceLeDiff, Nat.reduceAdd, Nat.reduceMul, Nat.reduceSub, Nat.reduceBEq, ↓reduceIte, reduceCtorEq, e3] <;> rfl
            · refine ⟨by unfold inI64; omega, i + 1, by omega, by omega, Keep.wk (ids := [some 0]) ?_⟩
              rw [fin fun y _ hy => by rw [hb] at hy; cases hy; simpa using hl]
              simp only [push_cast, Nat.reduceEqDiff, Nat.reduceLT, Nat.reduceLeDiff, Nat.reduceAdd, Nat.reduceMul, Nat.reduceSub, Nat.reduceBEq, ↓reduceIte, reduceCtorEq] <;> rfl
          · refine ⟨by unfold inI64; omega, i + 1, by omega, by omega, Keep.wk (ids := [some 0]) ?_⟩
            rw [fin fun y hy => absurd hy (by omega)]
            simp only [push_cast, Nat.reduceEqDiff, Nat.reduceLT, Nat.reduceLeDiff, Nat.reduceAdd, Nat.reduceMul, Nat.reduceSub, Nat.reduceBEq, ↓reduceIte, reduceCtorEq] <;> rfl
    · rw [List.take_of_length_le (by omega)]
      exact Close.of [some 0] rfl rfl rfl rfl (by simp only [push_cast, Nat.reduceEqDiff, Nat.reduceLT, Nat.reduceLeDiff, Nat.reduceAdd, Nat.reduceMul, Nat.reduceSub, Nat.reduceBEq, ↓reduceIte, reduceCtorEq] <;> rfl)
end Go.Proofs.Ythhgcklidfilfaa.BX
