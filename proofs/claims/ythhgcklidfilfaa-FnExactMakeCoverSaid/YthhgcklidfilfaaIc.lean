/-
  The cover by chains: the program's walk.
-/
import Derived.Test.YthhgcklidfilfaaCo
namespace Go.Proofs.Ythhgcklidfilfaa.BX
set_option linter.unusedSectionVars false
set_option linter.unusedSimpArgs false
set_option linter.unusedVariables false
open Go Go.RowKit
set_option maxRecDepth 20000
set_option maxHeartbeats 400000
theorem snocI {l : List Nat} {i : Nat} : List.map (fun n : Nat => T.i .i64 (n : Int)) l ++ [T.i .i64 (i : Int)] = List.map (fun n : Nat => T.i .i64 (n : Int)) (l ++ [i]) := by simp
theorem setI {l : List Nat} {i k : Nat} : (List.map (fun n : Nat => T.i .i64 (n : Int)) l).set k (T.i .i64 (i : Int)) = List.map (fun n : Nat => T.i .i64 (n : Int)) (l.set k i) := by rw [List.map_set]
/-- the numbers so far of the row under way -/
noncomputable def outs (es : List Event) (l : List (List UInt8)) (x : List UInt8) (n m : Nat) : List Int := (List.range n).map fun c : Nat => if c < m then (if rowGet es x c > outF es l c then rowGet es x c else outF es l c) else outF es l c
noncomputable def outL (es : List Event) (l : List (List UInt8)) (n : Nat) : List Int := (List.range n).map fun c : Nat => outF es l c
theorem outL_nil {es : List Event} {n : Nat} : (outL es [] n).map (T.i .i64) = List.replicate n (T.i .i64 0) := by
  unfold outL outF
  rw [List.map_map, show ((T.i .i64) ∘ fun c : Nat => List.foldl (fun m x => if rowGet es x c > m then rowGet es x c else m) 0 []) = fun _ => T.i .i64 0 from rfl, List.map_const', List.length_range]
theorem outs_zero {es : List Event} {l : List (List UInt8)} {x : List UInt8} {n : Nat} : outs es l x n 0 = outL es l n := by
  unfold outs outL
  exact List.map_congr_left fun c _ => if_neg (by omega)
theorem outs_get {es : List Event} {l : List (List UInt8)} {x : List UInt8} {n m : Nat} (h : m < n) : (outs es l x n m)[m]? = some (outF es l m) := by
  unfold outs
  rw [List.getElem?_map, List.getElem?_range h]
  simp
theorem outs_len {es : List Event} {l : List (List UInt8)} {x : List UInt8} {n m : Nat} : (outs es l x n m).length = n := by simp [outs]
theorem outL_len {es : List Event} {l : List (List UInt8)} {n : Nat} : (outL es l n).length = n := by simp [outL]
theorem outs_set {es : List Event} {l : List (List UInt8)} {x : List UInt8} {n m : Nat} (h : m < n) : (outs es l x n m).set m (if rowGet es x m > outF es l m then rowGet es x m else outF es l m) = outs es l x n (m + 1) := by
  refine List.ext_getElem? fun c => ?_
  rw [List.getElem?_set]
  split
  · rename_i hc
    subst hc
    rw [if_pos (by rw [outs_len]; exact h)]
    unfold outs
    rw [List.getElem?_map, List.getElem?_range h]
    simp
  · rename_i hc
    unfold outs
    rw [List.getElem?_map, List.getElem?_map]
    by_cases hcn : c < n
    · rw [List.getElem?_range hcn]
      simp only [Option.map_some]
      by_cases h1 : c < m
      · rw [if_pos h1, if_pos (show c < m + 1 by omega)]
      · rw [if_neg h1, if_neg (show ¬ c < m + 1 by omega)]
    · rw [List.getElem?_eq_none (by simp; omega)]
      rfl
theorem outs_end {es : List Event} {l : List (List UInt8)} {x : List UInt8} {n m j : Nat} (hx : l[j]? = some x) (h : ∀ c, m ≤ c → rowGet es x c = 0) : outs es (l.take j) x n m = outL es (l.take (j + 1)) n := by
  unfold outs outL
  refine List.map_congr_left fun c _ => ?_
  rw [outF_snoc hx]
  split
  · rfl
  · rename_i hc
    rw [h c (by omega), if_neg (by have := outF_nn (es := es) (l := l.take j) (c := c); omega)]
theorem out_row {es : List Event} (hv : Valid es) {i : Nat} {e : Event} {s : Spot} (he : es[i]? = some e) (hs : (cov es (i + 1)).1[i]? = some s) (h0 : 0 ≤ s.chain) (h1 : s.chain < (cov es (i + 1)).2) : (outL es e.auth (cov es (i + 1)).2).set s.chain.toNat s.seq = rowL es i := by
  have hr : rowL es i = (List.range (cov es (i + 1)).2).map fun c : Nat => grt (nearL es e.id) (c : Int) := by unfold rowL; rw [he]
  rw [hr]
  refine List.ext_getElem? fun c => ?_
  rw [List.getElem?_set, List.getElem?_map]
  by_cases hc : c < (cov es (i + 1)).2
  · rw [List.getElem?_range hc, Option.map_some, row_is hv he hs hc]
    split
    · rename_i h2
      rw [if_pos (by rw [outL_len]; omega), if_pos (by omega)]
    · rename_i h2
      rw [if_neg (by omega)]
      unfold outL
      rw [List.getElem?_map, List.getElem?_range hc]
      rfl
  · rw [if_neg (by omega), List.getElem?_eq_none (by rw [outL_len]; omega), List.getElem?_eq_none (by simp; omega)]
    rfl
theorem setT {l : List Int} {k : Nat} {v : Int} : (l.map (T.i .i64)).set k (T.i .i64 v) = (l.set k v).map (T.i .i64) := by rw [List.map_set]
variable [Bd]
theorem coverOf (es : List Event) (hv : Valid es) (hB : Bd.B ≤ 2147483648) : Con P0 105 [gT es] (.ag [.sr 0, .sr 1]) [.arr 146 2 (.own (.ag [.leaf, .leaf])) ((coverL es).spots.map eSpot), .arr 150 1 (.own (.sl 3 1 .leaf)) ((coverL es).reach.map eIntS)] := by
  refine Con.intro (fn := Try.f105) [.cell 2 66] (fun i => if i = 1000016 then (999999, []) else if i = 1000014 then (999999, []) else if i = 21 then (12, []) else if i = 11 then (12, []) else if i = 10 then (11, [(false, 0), (false, 1), (false, 2), (false, 3), (false, 4), (false, 5), (false, 6), (false, 7), (false, 8), (false, 9), (true, 10)]) else (0, [])) mixed (by kernel_rfl) rfl (by decide) rfl (by rfl) (by kernel_rfl) ?_
  simp -implicitDefEqProofs (maxSteps := 2000000) only [push_cast, Nat.reduceEqDiff, Nat.reduceLT, Nat.reduceLeDiff, Nat.reduceAdd, Nat.reduceMul, Nat.reduceSub, Nat.reduceBEq, ↓reduceIte, reduceCtorEq, gT]
  have := Bd.lo
  have hel := hv.len
  refine ⟨rfl, by omega, fun hlen => ?_⟩
  refine WL.loop (ι := Nat × List Nat) (D := (fun i => if i = 1000016 then (999999, []) else if i = 1000014 then (999999, []) else if i = 21 then (12, []) else if i = 11 then (12, []) else if i = 10 then (11, [(false, 0), (false, 1), (false, 2), (false, 3), (false, 4), (false, 5), (false, 6), (false, 7), (false, 8), (false, 9), (true, 10)]) else (0, []))) (fun i => i.1 ≤ es.length ∧ Lasts (cov es i.1).1 i.2 ∧ i.2.length = (cov es i.1).2) (fun i => ⟨138, [(0, .t (gT es)), (2, .rf 0 0), (3, .rf 4 0), (4, .sr 1), (21, .t (eEventS es)), (22, .t (.i .i64 es.length)), (23, .t (.i .i64 i.1))], [.box (.ag [.ns, .ns]), .arr 3 1 (.own .leaf) (i.2.map fun n : Nat => T.i .i64 (n : Int)), .arr 146 2 (.own (.ag [.leaf, .leaf])) ((cov es i.1).1.map eSpot), .arr 150 1 (.own (.sl 3 1 .leaf)) (((List.range i.1).map (rowL es)).map eIntS), .box (.ag [.sr 2, .sr 3])]⟩) (fun i => es.length - i.1) mixed (by kernel_rfl) (0, []) ⟨by simp, Lasts.nil, rfl⟩ (Keep.wk (ids := [some 0, some 2, none, none, some 1]) ?_) ?_
  · simp only [push_cast, Nat.reduceEqDiff, Nat.reduceLT, Nat.reduceLeDiff, Nat.reduceAdd, Nat.reduceMul, Nat.reduceSub, Nat.reduceBEq, ↓reduceIte, reduceCtorEq, gT, cov, List.range_zero, List.map_nil] <;> first | rfl | exact ⟨rfl, rfl⟩
  rintro ⟨i, last⟩ ⟨hi, hl, hll⟩
  simp only at hi hl hll
  simp -implicitDefEqProofs (maxSteps := 2000000) only [push_cast, Nat.reduceEqDiff, Nat.reduceLT, Nat.reduceLeDiff, Nat.reduceAdd, Nat.reduceMul, Nat.reduceSub, Nat.reduceBEq, ↓reduceIte, reduceCtorEq, gT, eEvent]
  have hhi := Bd.hi
  refine iteI (fun h => ?_) (fun h => ?_)
  rotate_left
  · rw [show i = es.length by omega]
    exact Close.of [some 2, some 3] rfl rfl rfl (by simp only [push_cast, Nat.reduceEqDiff, Nat.reduceLT, Nat.reduceLeDiff, Nat.reduceAdd, Nat.reduceMul, Nat.reduceSub, Nat.reduceBEq, ↓reduceIte, reduceCtorEq] <;> first | rfl | exact ⟨rfl, rfl⟩) (by simp only [push_cast, Nat.reduceEqDiff, Nat.reduceLT, Nat.reduceLeDiff, Nat.reduceAdd, Nat.reduceMul, Nat.reduceSub, Nat.reduceBEq, ↓reduceIte, reduceCtorEq, coverL, sps] <;> first | rfl | exact ⟨rfl, rfl⟩)
  refine ⟨by omega, fun e he => ?_⟩
  rw [Int.toNat_natCast] at he
  have hcl : (cov es i).1.length = i := cov_len (by omega)
  have hchb := cov_ch (es := es) (n := i) (by omega)
  obtain ⟨sp, hsp⟩ : ∃ s, nextSpot es (cov es i).1 (cov es i).2 e.auth = s := ⟨_, rfl⟩
  obtain ⟨hln, hlc⟩ := hl.next hll he
  rw [hsp] at hln hlc
  have hc1 : (cov es (i + 1)).1[i]? = some sp := by
    rw [cov_succ he, hsp]
    simp only
    rw [List.getElem?_append_right (by omega), hcl, Nat.sub_self]
    rfl
  obtain ⟨bs, bt, bq⟩ := hln.lo i sp hc1
  intro hll2
  refine W.join (ι := Unit) (D := (fun i => if i = 1000016 then (999999, []) else if i = 21 then (12, []) else if i = 11 then (12, []) else if i = 10 then (11, [(false, 0), (false, 1), (false, 2), (false, 3), (false, 4), (false, 5), (false, 6), (false, 7), (false, 8), (false, 9), (true, 10)]) else (0, []))) (fun _ => True) (fun _ => ⟨138, [(0, .t (gT es)), (2, .rf 0 0), (3, .rf 4 0), (4, .sr 1), (5, .t (.i .i64 i)), (6, .rf 5 0), (7, .rf 6 0), (21, .t (eEventS es)), (22, .t (.i .i64 es.length)), (23, .t (.i .i64 i))], [.box (.ag [.ns, .ns]), .arr 3 1 (.own .leaf) (last.map fun n : Nat => T.i .i64 (n : Int)), .arr 146 2 (.own (.ag [.leaf, .leaf])) ((cov es i).1.map eSpot), .arr 150 1 (.own (.sl 3 1 .leaf)) (((List.range i).map (rowL es)).map eIntS), .box (.ag [.sr 2, .sr 3]), .box (.t (eEvent e)), .box (.ag [.t (.i .i64 sp.chain), .t (.i .i64 sp.seq)])]⟩) mixed (by kernel_rfl) ?_ (fun _ _ => ?_)
  · simp -implicitDefEqProofs (maxSteps := 2000000) only [push_cast, Nat.reduceEqDiff, Nat.reduceLT, Nat.reduceLeDiff, Nat.reduceAdd, Nat.reduceMul, Nat.reduceSub, Nat.reduceBEq, ↓reduceIte, reduceCtorEq, gT, eEvent]
    intro hal
    refine WL.loop (ι := Nat) (D := (fun i => if i = 1000016 then (999999, []) else if i = 21 then (12, []) else if i = 11 then (12, []) else if i = 10 then (11, [(false, 0), (false, 1), (false, 2), (false, 3), (false, 4), (false, 5), (false, 6), (false, 7), (false, 8), (false, 9), (true, 10)]) else (0, []))) (fun j => j ≤ e.auth.length ∧ nextSpot es (cov es i).1 (cov es i).2 (e.auth.drop j) = sp) (fun j => ⟨138, [(0, .t (gT es)), (2, .rf 0 0), (3, .rf 4 0), (4, .sr 1), (5, .t (.i .i64 i)), (6, .rf 5 0), (7, .rf 6 0), (21, .t (eEventS es)), (22, .t (.i .i64 es.length)), (23, .t (.i .i64 i)), (32, .t (eStringS e.auth)), (33, .t (.i .i64 e.auth.length)), (34, .t (.i .i64 j))], [.box (.ag [.ns, .ns]), .arr 3 1 (.own .leaf) (last.map fun n : Nat => T.i .i64 (n : Int)), .arr 146 2 (.own (.ag [.leaf, .leaf])) ((cov es i).1.map eSpot), .arr 150 1 (.own (.sl 3 1 .leaf)) (((List.range i).map (rowL es)).map eIntS), .box (.ag [.sr 2, .sr 3]), .box (.t (eEvent e)), .box (.ag [.t (.i .i64 last.length), .t (.i .i64 1)])]⟩) (fun j => e.auth.length - j) mixed (by kernel_rfl) 0 ⟨by omega, by simpa using hsp⟩ (Keep.wk (ids := [some 0, some 1, some 2, some 3, some 4, some 5, some 6]) ?_) ?_
    · simp only [push_cast, Nat.reduceEqDiff, Nat.reduceLT, Nat.reduceLeDiff, Nat.reduceAdd, Nat.reduceMul, Nat.reduceSub, Nat.reduceBEq, ↓reduceIte, reduceCtorEq, gT, eEvent] <;> first | rfl | exact ⟨rfl, rfl⟩
    rintro j ⟨hj, hf⟩
    simp -implicitDefEqProofs (maxSteps := 2000000) only [push_cast, Nat.reduceEqDiff, Nat.reduceLT, Nat.reduceLeDiff, Nat.reduceAdd, Nat.reduceMul, Nat.reduceSub, Nat.reduceBEq, ↓reduceIte, reduceCtorEq, gT]
    refine iteI (fun h2 => ⟨by omega, fun x hx => ?_⟩) (fun h2 => ?_)
    · rw [Int.toNat_natCast] at hx
      obtain ⟨k, a, hki, hka, hid, hp⟩ := pos_ref ((hv.good he).auth x (List.mem_of_getElem? hx))
      obtain ⟨s, hs⟩ : ∃ s, (cov es i).1[k]? = some s := ⟨_, List.getElem?_eq_getElem (by omega)⟩
      have hd := nextSpot_drop (ch := (cov es i).2) hx hp hs
      rw [hf] at hd
      refine gLook rfl (fun k' hk' => ?_) (fun hk' => by rw [hp] at hk'; cases hk')
      rw [hp] at hk'; cases hk'
      simp -implicitDefEqProofs (maxSteps := 2000000) only [push_cast, Nat.reduceEqDiff, Nat.reduceLT, Nat.reduceLeDiff, Nat.reduceAdd, Nat.reduceMul, Nat.reduceSub, Nat.reduceBEq, ↓reduceIte, reduceCtorEq, gT, eSpot]
      obtain ⟨b1, b2, b3⟩ := hl.lo k s hs
      have hsq := cov_seq (n := i) (by omega) s (List.mem_of_getElem? hs)
      have e1 : (Int.toNat (k : Int)) = k := Int.toNat_natCast _
      simp only [e1]
      refine ⟨by omega, by omega, fun s' hs' => ?_⟩
      rw [hs] at hs'; cases hs'
      refine ⟨by omega, by omega, fun l hlk => ?_⟩
      have hif := hl.iff hs
      rw [hlk] at hif
      refine gLook rfl (fun k' hk' => ?_) (fun hk' => by rw [hp] at hk'; cases hk')
      rw [hp] at hk'; cases hk'
      simp -implicitDefEqProofs (maxSteps := 2000000) only [push_cast, Nat.reduceEqDiff, Nat.reduceLT, Nat.reduceLeDiff, Nat.reduceAdd, Nat.reduceMul, Nat.reduceSub, Nat.reduceBEq, ↓reduceIte, reduceCtorEq, gT, eSpot]
      refine iteI (fun h3 => ?_) (fun h3 => ?_)
      · rw [if_pos (hif.2 (by congr 1; omega))] at hd
        refine ⟨by unfold inI64; omega, (), Keep.wk (ids := [some 0, some 1, some 2, some 3, some 4, some 5, some 6]) ?_⟩
        rw [hd]
        simp only [push_cast, Nat.reduceEqDiff, Nat.reduceLT, Nat.reduceLeDiff, Nat.reduceAdd, Nat.reduceMul, Nat.reduceSub, Nat.reduceBEq, ↓reduceIte, reduceCtorEq, gT, eEvent] <;> first | rfl | exact ⟨rfl, rfl⟩
      · rw [if_neg (fun h => h3 (by have := hif.1 h; cases this; rfl))] at hd
        refine ⟨by unfold inI64; omega, j + 1, ⟨by omega, hd.symm⟩, by omega, Keep.wk (ids := [some 0, some 1, some 2, some 3, some 4, some 5, some 6]) ?_⟩
        simp only [push_cast, Nat.reduceEqDiff, Nat.reduceLT, Nat.reduceLeDiff, Nat.reduceAdd, Nat.reduceMul, Nat.reduceSub, Nat.reduceBEq, ↓reduceIte, reduceCtorEq, gT, eSpot] <;> first | rfl | exact ⟨rfl, rfl⟩
    · rw [List.drop_of_length_le (by omega)] at hf
      refine ⟨(), Keep.wk (ids := [some 0, some 1, some 2, some 3, some 4, some 5, some 6]) ?_⟩
      simp only [push_cast, Nat.reduceEqDiff, Nat.reduceLT, Nat.reduceLeDiff, Nat.reduceAdd, Nat.reduceMul, Nat.reduceSub, Nat.reduceBEq, ↓reduceIte, reduceCtorEq, gT, ← hf, nextSpot, hll] <;> first | rfl | exact ⟨rfl, rfl⟩
  simp -implicitDefEqProofs (maxSteps := 2000000) only [push_cast, Nat.reduceEqDiff, Nat.reduceLT, Nat.reduceLeDiff, Nat.reduceAdd, Nat.reduceMul, Nat.reduceSub, Nat.reduceBEq, ↓reduceIte, reduceCtorEq, gT, eEvent]
  have hnl : nextLast last sp i = (if sp.chain = last.length then last ++ [i] else last).set sp.chain.toNat i := rfl
  have hl2 : (if sp.chain = last.length then last ++ [i] else last).length < 1000 := by split <;> (try simp) <;> omega
  generalize hg : (if sp.chain = last.length then last ++ [i] else last) = last2 at *
  refine W.join (ι := Unit) (D := (fun i => if i = 21 then (12, []) else if i = 11 then (12, []) else if i = 10 then (11, [(false, 0), (false, 1), (false, 2), (false, 3), (false, 4), (false, 5), (false, 6), (false, 7), (false, 8), (false, 9), (true, 10)]) else (0, []))) (fun _ => True) (fun _ => ⟨138, [(0, .t (gT es)), (2, .rf 0 0), (3, .rf 4 0), (4, .sr 1), (5, .t (.i .i64 i)), (6, .rf 5 0), (7, .rf 6 0), (21, .t (eEventS es)), (22, .t (.i .i64 es.length)), (23, .t (.i .i64 i))], [.box (.ag [.ns, .ns]), .arr 3 1 (.own .leaf) (last2.map fun n : Nat => T.i .i64 (n : Int)), .arr 146 2 (.own (.ag [.leaf, .leaf])) ((cov es i).1.map eSpot), .arr 150 1 (.own (.sl 3 1 .leaf)) (((List.range i).map (rowL es)).map eIntS), .box (.ag [.sr 2, .sr 3]), .box (.t (eEvent e)), .box (.ag [.t (.i .i64 sp.chain), .t (.i .i64 sp.seq)])]⟩) mixed (by kernel_rfl) ?_ (fun _ _ => ?_)
  · simp -implicitDefEqProofs (maxSteps := 2000000) only [push_cast, Nat.reduceEqDiff, Nat.reduceLT, Nat.reduceLeDiff, Nat.reduceAdd, Nat.reduceMul, Nat.reduceSub, Nat.reduceBEq, ↓reduceIte, reduceCtorEq, gT, eEvent, snocI]
    intro _
    refine iteI (fun h4 => ?_) (fun h4 => ?_)
    · rw [if_pos h4] at hg
      refine ⟨rfl, by omega, rfl, by omega, by omega, (), Keep.wk (ids := [some 0, some 8, some 2, some 3, some 4, some 5, some 6]) ?_⟩
      rw [← hg]
      simp only [push_cast, Nat.reduceEqDiff, Nat.reduceLT, Nat.reduceLeDiff, Nat.reduceAdd, Nat.reduceMul, Nat.reduceSub, Nat.reduceBEq, ↓reduceIte, reduceCtorEq, gT, eEvent] <;> first | rfl | exact ⟨rfl, rfl⟩
    · rw [if_neg h4] at hg
      refine ⟨(), Keep.wk (ids := [some 0, some 1, some 2, some 3, some 4, some 5, some 6]) ?_⟩
      rw [← hg]
      simp only [push_cast, Nat.reduceEqDiff, Nat.reduceLT, Nat.reduceLeDiff, Nat.reduceAdd, Nat.reduceMul, Nat.reduceSub, Nat.reduceBEq, ↓reduceIte, reduceCtorEq, gT, eEvent] <;> first | rfl | exact ⟨rfl, rfl⟩
  simp -implicitDefEqProofs (maxSteps := 2000000) only [push_cast, Nat.reduceEqDiff, Nat.reduceLT, Nat.reduceLeDiff, Nat.reduceAdd, Nat.reduceMul, Nat.reduceSub, Nat.reduceBEq, ↓reduceIte, reduceCtorEq, gT, eEvent, setI]
  have hnll : last2.length = (cov es (i + 1)).2 := by rw [← hlc, hnl, List.length_set]
  rw [hnl, List.length_set] at bt
  refine ⟨by omega, by omega, fun _ _ _ => ⟨by omega, by omega, by omega, fun hal => ?_⟩⟩
  rw [Int.toNat_natCast, hnll, ← outL_nil (es := es)]
  refine WL.loop (ι := Nat) (D := (fun i => if i = 21 then (12, []) else if i = 11 then (12, []) else if i = 10 then (11, [(false, 0), (false, 1), (false, 2), (false, 3), (false, 4), (false, 5), (false, 6), (false, 7), (false, 8), (false, 9), (true, 10)]) else (0, []))) (fun j => j ≤ e.auth.length) (fun j => ⟨138, [(0, .t (gT es)), (2, .rf 0 0), (3, .rf 4 0), (4, .sr 1), (5, .t (.i .i64 i)), (6, .rf 5 0), (7, .rf 6 0), (11, .sr 7), (21, .t (eEventS es)), (22, .t (.i .i64 es.length)), (23, .t (.i .i64 i)), (85, .t (eStringS e.auth)), (86, .t (.i .i64 e.auth.length)), (87, .t (.i .i64 j))], [.box (.ag [.ns, .ns]), .arr 3 1 (.own .leaf) ((last2.set sp.chain.toNat i).map fun n : Nat => T.i .i64 (n : Int)), .arr 146 2 (.own (.ag [.leaf, .leaf])) ((cov es i).1.map eSpot), .arr 150 1 (.own (.sl 3 1 .leaf)) (((List.range i).map (rowL es)).map eIntS), .box (.ag [.sr 2, .sr 3]), .box (.t (eEvent e)), .box (.ag [.t (.i .i64 sp.chain), .t (.i .i64 sp.seq)]), .arr 3 1 (.own .leaf) ((outL es (e.auth.take j) (cov es (i + 1)).2).map (T.i .i64))]⟩) (fun j => e.auth.length - j) mixed (by kernel_rfl) 0 (by omega) (Keep.wk (ids := [some 0, some 1, some 2, some 3, some 4, some 5, some 6, some 7]) ?_) ?_
  · simp only [push_cast, Nat.reduceEqDiff, Nat.reduceLT, Nat.reduceLeDiff, Nat.reduceAdd, Nat.reduceMul, Nat.reduceSub, Nat.reduceBEq, ↓reduceIte, reduceCtorEq, gT, eEvent, List.take_zero] <;> first | rfl | exact ⟨rfl, rfl⟩
  intro j hj
  simp -implicitDefEqProofs (maxSteps := 2000000) only [push_cast, Nat.reduceEqDiff, Nat.reduceLT, Nat.reduceLeDiff, Nat.reduceAdd, Nat.reduceMul, Nat.reduceSub, Nat.reduceBEq, ↓reduceIte, reduceCtorEq, gT, eEvent]
  refine iteI (fun h2 => ⟨by omega, fun x hx => ?_⟩) (fun h2 => ?_)
  · rw [Int.toNat_natCast] at hx
    obtain ⟨k, a, hki, hka, hid, hp⟩ := pos_ref ((hv.good he).auth x (List.mem_of_getElem? hx))
    refine gLook rfl (fun k' hk' => ?_) (fun hk' => by rw [hp] at hk'; cases hk')
    rw [hp] at hk'; cases hk'
    simp -implicitDefEqProofs (maxSteps := 2000000) only [push_cast, Nat.reduceEqDiff, Nat.reduceLT, Nat.reduceLeDiff, Nat.reduceAdd, Nat.reduceMul, Nat.reduceSub, Nat.reduceBEq, ↓reduceIte, reduceCtorEq, gT, eEvent]
    have e1 : (Int.toNat (k : Int)) = k := Int.toNat_natCast _
    have hrl : (List.range i).length = i := List.length_range
    simp only [e1, hrl]
    refine ⟨by omega, by omega, fun row hrow hrB => ?_⟩
    rw [List.getElem?_map, List.getElem?_range hki] at hrow
    have hrow : rowL es k = row := by simpa using hrow
    have hrn : row.length = (cov es (k + 1)).2 := by rw [← hrow]; exact row_len hka
    have hmono := cov_mono (es := es) (m := i + 1) (n := k + 1) (by omega) (by omega)
    have hget : ∀ c v, row[c]? = some v → rowGet es x c = v := fun c v hv => by
      unfold rowGet
      rw [hp]
      dsimp only
      rw [hrow, hv]
      rfl
    have hnone : ∀ c, row.length ≤ c → rowGet es x c = 0 := fun c hc => by
      unfold rowGet
      rw [hp]
      dsimp only
      rw [hrow, List.getElem?_eq_none hc]
      rfl
    refine WL.loop (ι := Nat) (D := (fun i => if i = 21 then (12, []) else if i = 11 then (12, []) else if i = 10 then (11, [(false, 0), (false, 1), (false, 2), (false, 3), (false, 4), (false, 5), (false, 6), (false, 7), (false, 8), (false, 9), (true, 10)]) else (0, []))) (fun m => m ≤ row.length) (fun m => ⟨138, [(0, .t (gT es)), (2, .rf 0 0), (3, .rf 4 0), (4, .sr 1), (5, .t (.i .i64 i)), (6, .rf 5 0), (7, .rf 6 0), (11, .sr 7), (21, .t (eEventS es)), (22, .t (.i .i64 es.length)), (23, .t (.i .i64 i)), (85, .t (eStringS e.auth)), (86, .t (.i .i64 e.auth.length)), (87, .t (.i .i64 j)), (100, .bw (eIntS row)), (101, .t (.i .i64 row.length)), (102, .t (.i .i64 m))], [.box (.ag [.ns, .ns]), .arr 3 1 (.own .leaf) ((last2.set sp.chain.toNat i).map fun n : Nat => T.i .i64 (n : Int)), .arr 146 2 (.own (.ag [.leaf, .leaf])) ((cov es i).1.map eSpot), .arr 150 1 (.own (.sl 3 1 .leaf)) (((List.range i).map (rowL es)).map eIntS), .box (.ag [.sr 2, .sr 3]), .box (.t (eEvent e)), .box (.ag [.t (.i .i64 sp.chain), .t (.i .i64 sp.seq)]), .arr 3 1 (.own .leaf) ((outs es (e.auth.take j) x (cov es (i + 1)).2 m).map (T.i .i64))]⟩) (fun m => row.length - m) mixed (by kernel_rfl) 0 (by omega) (Keep.wk (ids := [some 0, some 1, some 2, some 3, some 4, some 5, some 6, some 7]) ?_) ?_
    · simp only [push_cast, Nat.reduceEqDiff, Nat.reduceLT, Nat.reduceLeDiff, Nat.reduceAdd, Nat.reduceMul, Nat.reduceSub, Nat.reduceBEq, ↓reduceIte, reduceCtorEq, gT, eEvent, outs_zero] <;> first | rfl | exact ⟨rfl, rfl⟩
    intro m hm
    simp -implicitDefEqProofs (maxSteps := 2000000) only [push_cast, Nat.reduceEqDiff, Nat.reduceLT, Nat.reduceLeDiff, Nat.reduceAdd, Nat.reduceMul, Nat.reduceSub, Nat.reduceBEq, ↓reduceIte, reduceCtorEq, gT, eEvent]
    refine iteI (fun h3 => ⟨by omega, fun v hv => ?_⟩) (fun h3 => ?_)
    · have e2 : (Int.toNat (m : Int)) = m := Int.toNat_natCast _
      rw [e2] at hv
      have ho := outs_get (es := es) (l := e.auth.take j) (x := x) (n := (cov es (i + 1)).2) (m := m) (by omega)
      have hset := outs_set (es := es) (l := e.auth.take j) (x := x) (n := (cov es (i + 1)).2) (m := m) (by omega)
      rw [hget m v hv] at hset
      have hol := outs_len (es := es) (l := e.auth.take j) (x := x) (n := (cov es (i + 1)).2) (m := m)
      simp only [e2, hol, setT]
      refine ⟨by omega, by omega, fun o ho' => ?_⟩
      rw [ho] at ho'
      cases ho'
      refine ⟨by omega, by omega, fun _ _ => ⟨by unfold inI64; omega, m + 1, by omega, by omega, Keep.wk (ids := [some 0, some 1, some 2, some 3, some 4, some 5, some 6, some 7]) ?_⟩⟩
      rw [hset]
      simp only [push_cast, Nat.reduceEqDiff, Nat.reduceLT, Nat.reduceLeDiff, Nat.reduceAdd, Nat.reduceMul, Nat.reduceSub, Nat.reduceBEq, ↓reduceIte, reduceCtorEq, gT, eEvent] <;> first | rfl | exact ⟨rfl, rfl⟩
    · rw [outs_end hx (fun c hc => hnone c (by omega))]
      refine ⟨by unfold inI64; omega, j + 1, by omega, by omega, Keep.wk (ids := [some 0, some 1, some 2, some 3, some 4, some 5, some 6, some 7]) ?_⟩
      simp only [push_cast, Nat.reduceEqDiff, Nat.reduceLT, Nat.reduceLeDiff, Nat.reduceAdd, Nat.reduceMul, Nat.reduceSub, Nat.reduceBEq, ↓reduceIte, reduceCtorEq, gT, eEvent] <;> first | rfl | exact ⟨rfl, rfl⟩
  · rw [List.take_of_length_le (by omega)]
    simp -implicitDefEqProofs (maxSteps := 2000000) only [push_cast, Nat.reduceEqDiff, Nat.reduceLT, Nat.reduceLeDiff, Nat.reduceAdd, Nat.reduceMul, Nat.reduceSub, Nat.reduceBEq, ↓reduceIte, reduceCtorEq, gT, eEvent, setT, eSpot]
    have hrl : (List.range i).length = i := List.length_range
    simp only [outL_len, hrl]
    have hsr : (List.range (i + 1)).map (rowL es) = (List.range i).map (rowL es) ++ [rowL es i] := by rw [List.range_succ, List.map_append]; rfl
    have hcs : (cov es (i + 1)).1 = (cov es i).1 ++ [sp] := by rw [cov_succ he, hsp]
    have hch1 := cov_ch (es := es) (n := i + 1) (by omega)
    refine ⟨by omega, by omega, fun _ _ => ⟨rfl, by omega, rfl, by omega, by omega, rfl, by omega, rfl, by omega, by omega, by unfold inI64; omega, (i + 1, last2.set sp.chain.toNat i), ⟨by simp only; omega, by rw [← hnl]; exact hln, by rw [← hnl]; exact hlc⟩, by simp only; omega, Keep.wk (ids := [some 0, some 1, some 9, some 11, some 4]) ?_⟩⟩
    rw [hsr, hcs, ← out_row hv he hc1 bs (by omega)]
    simp only [push_cast, Nat.reduceEqDiff, Nat.reduceLT, Nat.reduceLeDiff, Nat.reduceAdd, Nat.reduceMul, Nat.reduceSub, Nat.reduceBEq, ↓reduceIte, reduceCtorEq, gT, eEvent, List.map_append, eSpot] <;> first | rfl | exact ⟨rfl, rfl⟩
end Go.Proofs.Ythhgcklidfilfaa.BX
