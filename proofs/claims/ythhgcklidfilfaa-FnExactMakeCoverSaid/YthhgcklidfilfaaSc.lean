/-
  The cover by chains: the document's walk.
-/
import Derived.Test.YthhgcklidfilfaaCp
namespace Go.Proofs.Ythhgcklidfilfaa.BX
set_option linter.unusedSectionVars false
set_option linter.unusedSimpArgs false
set_option linter.unusedVariables false
open Go Go.RowKit
set_option maxRecDepth 20000
set_option maxHeartbeats 400000
variable [Bd]
theorem l3IsLast (sp : List Spot) (k : Nat) (hk : k < sp.length) : Con P0 150 [eSpotS sp, .i .i64 k] (.t (.b (isLast sp k))) [] := by
  refine Con.intro (fn := Try.f150) [.tmp 4] (fun i => if i = 4 then (24, []) else (0, [])) mixed (by kernel_rfl) rfl (by decide) rfl (by rfl) (by kernel_rfl) ?_
  simp -implicitDefEqProofs (maxSteps := 2000000) only [push_cast, Nat.reduceEqDiff, Nat.reduceLT, Nat.reduceLeDiff, Nat.reduceAdd, Nat.reduceMul, Nat.reduceSub, Nat.reduceBEq, ↓reduceIte, reduceCtorEq]
  obtain ⟨a, ha⟩ : ∃ a, sp[k]? = some a := ⟨_, List.getElem?_eq_getElem hk⟩
  refine WL.loop (ι := Nat) (D := (fun i => if i = 4 then (24, []) else (0, []))) (fun i => i ≤ sp.length ∧ ∀ b ∈ sp.take i, b.chain = a.chain → b.seq ≤ a.seq) (fun i => ⟨36, [(0, .t (eSpotS sp)), (1, .t (.i .i64 k)), (5, .t (.i .i64 i))], []⟩) (fun i => sp.length - i) mixed (by kernel_rfl) 0 ⟨by omega, by simp⟩ (Keep.wk (ids := []) ?_) ?_
  · simp only [push_cast, Nat.reduceEqDiff, Nat.reduceLT, Nat.reduceLeDiff, Nat.reduceAdd, Nat.reduceMul, Nat.reduceSub, Nat.reduceBEq, ↓reduceIte, reduceCtorEq] <;> rfl
  · rintro i ⟨hi, hc⟩
    simp -implicitDefEqProofs (maxSteps := 2000000) only [push_cast, Nat.reduceEqDiff, Nat.reduceLT, Nat.reduceLeDiff, Nat.reduceAdd, Nat.reduceMul, Nat.reduceSub, Nat.reduceBEq, ↓reduceIte, reduceCtorEq, eSpot]
    intro _
    have hhi := Bd.hi
    have e1 : (Int.toNat (k : Int)) = k := Int.toNat_natCast _
    have e2 : (Int.toNat (i : Int)) = i := Int.toNat_natCast _
    simp only [e1, e2]
    refine iteI (fun h => ⟨by omega, fun b hb => ⟨by omega, fun a' ha' => ?_⟩⟩) (fun h => ?_)
    · rw [ha] at ha'; cases ha'
      have go : (b.chain = a.chain → b.seq ≤ a.seq) → i + 1 ≤ sp.length ∧ ∀ b ∈ sp.take (i + 1), b.chain = a.chain → b.seq ≤ a.seq := fun hn => ⟨by omega, take_snoc (p := fun b : Spot => b.chain = a.chain → b.seq ≤ a.seq) hb hc hn⟩
      refine iteI (fun h1 => ⟨by omega, fun b' hb' => ⟨by omega, fun a' ha' => ?_⟩⟩) (fun h1 => ?_)
      · rw [hb] at hb'; cases hb'
        rw [ha] at ha'; cases ha'
        refine iteI (fun h2 => ?_) (fun h2 => ?_)
        · have : isLast sp k = false := by
            cases hl : isLast sp k with
            | false => rfl
            | true => have := (isLast_at ha).1 hl b (List.mem_of_getElem? hb) h1; omega
          rw [this]
        · refine ⟨by unfold inI64; omega, i + 1, go (fun _ => by omega), by omega, Keep.wk (ids := []) ?_⟩
          simp only [push_cast, Nat.reduceEqDiff, Nat.reduceLT, Nat.reduceLeDiff, Nat.reduceAdd, Nat.reduceMul, Nat.reduceSub, Nat.reduceBEq, ↓reduceIte, reduceCtorEq] <;> rfl
      · refine ⟨by unfold inI64; omega, i + 1, go (fun h => absurd h h1), by omega, Keep.wk (ids := []) ?_⟩
        simp only [push_cast, Nat.reduceEqDiff, Nat.reduceLT, Nat.reduceLeDiff, Nat.reduceAdd, Nat.reduceMul, Nat.reduceSub, Nat.reduceBEq, ↓reduceIte, reduceCtorEq] <;> rfl
    · rw [List.take_of_length_le (by omega)] at hc
      rw [(isLast_at ha).2 hc]
theorem l3Greatest (sp : List Spot) (c : Int) : Con P0 102 [eSpotS sp, .i .i64 c] (.t (.i .i64 (grt sp c))) [] := by
  refine Con.intro (fn := Try.f102) [.tmp 4] (fun _ => (0, [])) mixed (by kernel_rfl) rfl (by decide) rfl (by rfl) (by kernel_rfl) ?_
  simp -implicitDefEqProofs (maxSteps := 2000000) only [push_cast, Nat.reduceEqDiff, Nat.reduceLT, Nat.reduceLeDiff, Nat.reduceAdd, Nat.reduceMul, Nat.reduceSub, Nat.reduceBEq, ↓reduceIte, reduceCtorEq]
  refine WL.loop (ι := Nat) (D := (fun _ => (0, []))) (fun i => i ≤ sp.length) (fun i => ⟨35, [(0, .t (eSpotS sp)), (1, .t (.i .i64 c)), (5, .t (.i .i64 (grt (sp.take i) c))), (6, .t (.i .i64 i))], []⟩) (fun i => sp.length - i) mixed (by kernel_rfl) 0 (by omega) (Keep.wk (ids := []) ?_) ?_
  · simp only [push_cast, Nat.reduceEqDiff, Nat.reduceLT, Nat.reduceLeDiff, Nat.reduceAdd, Nat.reduceMul, Nat.reduceSub, Nat.reduceBEq, ↓reduceIte, reduceCtorEq, grt, List.take_zero, List.foldl_nil] <;> rfl
  · intro i hi
    simp -implicitDefEqProofs (maxSteps := 2000000) only [push_cast, Nat.reduceEqDiff, Nat.reduceLT, Nat.reduceLeDiff, Nat.reduceAdd, Nat.reduceMul, Nat.reduceSub, Nat.reduceBEq, ↓reduceIte, reduceCtorEq, eSpot]
    intro _
    have hhi := Bd.hi
    have e2 : (Int.toNat (i : Int)) = i := Int.toNat_natCast _
    simp only [e2]
    refine iteI (fun h => ⟨by omega, fun b hb => ?_⟩) (fun h => ?_)
    · have hs : grt (sp.take (i + 1)) c = if b.chain = c ∧ b.seq > grt (sp.take i) c then b.seq else grt (sp.take i) c := by
        unfold grt
        rw [List.take_add_one, hb, List.foldl_append]
        rfl
      refine iteI (fun h1 => ⟨by omega, fun b' hb' => ?_⟩) (fun h1 => ?_)
      · rw [hb] at hb'; cases hb'
        refine iteI (fun h2 => ⟨by omega, fun b' hb' => ?_⟩) (fun h2 => ?_)
        · rw [hb] at hb'; cases hb'
          rw [if_pos ⟨h1, h2⟩] at hs
          refine ⟨by unfold inI64; omega, i + 1, by omega, by omega, Keep.wk (ids := []) ?_⟩
          rw [hs]
          simp only [push_cast, Nat.reduceEqDiff, Nat.reduceLT, Nat.reduceLeDiff, Nat.reduceAdd, Nat.reduceMul, Nat.reduceSub, Nat.reduceBEq, ↓reduceIte, reduceCtorEq] <;> rfl
        · rw [if_neg (fun h => h2 h.2)] at hs
          refine ⟨by unfold inI64; omega, i + 1, by omega, by omega, Keep.wk (ids := []) ?_⟩
          rw [hs]
          simp only [push_cast, Nat.reduceEqDiff, Nat.reduceLT, Nat.reduceLeDiff, Nat.reduceAdd, Nat.reduceMul, Nat.reduceSub, Nat.reduceBEq, ↓reduceIte, reduceCtorEq] <;> rfl
      · rw [if_neg (fun h => h1 h.1)] at hs
        refine ⟨by unfold inI64; omega, i + 1, by omega, by omega, Keep.wk (ids := []) ?_⟩
        rw [hs]
        simp only [push_cast, Nat.reduceEqDiff, Nat.reduceLT, Nat.reduceLeDiff, Nat.reduceAdd, Nat.reduceMul, Nat.reduceSub, Nat.reduceBEq, ↓reduceIte, reduceCtorEq] <;> rfl
    · rw [List.take_of_length_le (by omega)]
theorem l2Full (es : List Event) (ids : List (List UInt8)) (hv : Valid es) (hids : ∀ id ∈ ids, There es id) (hl : ids.length < 1000) (hB : Bd.B ≤ 2147483648) : Con P0 100 [eRoom ⟨es⟩, eStringS ids] (.sr 0) [.arr 9 1 (.own .leaf) ((fullL es ids).map T.s)] := by
  refine Con.intro (fn := Try.f100) [.tmp 4] (fun _ => (0, [])) mixed (by kernel_rfl) rfl (by decide) rfl (by rfl) (by kernel_rfl) ?_
  simp -implicitDefEqProofs (maxSteps := 2000000) only [push_cast, Nat.reduceEqDiff, Nat.reduceLT, Nat.reduceLeDiff, Nat.reduceAdd, Nat.reduceMul, Nat.reduceSub, Nat.reduceBEq, ↓reduceIte, reduceCtorEq, eRoom]
  have := Bd.lo
  have hal : ∀ xs : List (List UInt8), allLen 1 (xs.map T.s) = true := fun xs => allLen_map (f := T.s) (m := 1) fun _ => rfl
  have hfi : ∀ xs : List (List UInt8), fitsAll Sh.leaf (xs.map T.s) = true := fun xs => fitsAll_map fun _ => rfl
  have hcl := ancL_len (es := es) (rs := ids.flatMap (authOf es))
  have hel := hv.len
  refine ⟨rfl, by omega, rfl, by omega, hal _, hfi _, by omega, ?_⟩
  refine Callx.closed (l2Chain es ids hv hids hB) rfl rfl (.inl rfl) ?_
  simp -implicitDefEqProofs (maxSteps := 2000000) only [push_cast, Nat.reduceEqDiff, Nat.reduceLT, Nat.reduceLeDiff, Nat.reduceAdd, Nat.reduceMul, Nat.reduceSub, Nat.reduceBEq, ↓reduceIte, reduceCtorEq, eRoom]
  refine ⟨rfl, by omega, by omega, ?_⟩
  rw [← List.map_append]
  refine Callx.closed (l2Sorted (ids ++ ancL es (ids.flatMap (authOf es))) hB) rfl rfl (.inr ⟨rfl, rfl⟩) ?_
  simp -implicitDefEqProofs (maxSteps := 2000000) only [push_cast, Nat.reduceEqDiff, Nat.reduceLT, Nat.reduceLeDiff, Nat.reduceAdd, Nat.reduceMul, Nat.reduceSub, Nat.reduceBEq, ↓reduceIte, reduceCtorEq, eRoom]
  exact Close.of [some 5] rfl rfl rfl (by simp only [push_cast, Nat.reduceEqDiff, Nat.reduceLT, Nat.reduceLeDiff, Nat.reduceAdd, Nat.reduceMul, Nat.reduceSub, Nat.reduceBEq, ↓reduceIte, reduceCtorEq] <;> rfl) (by simp only [push_cast, Nat.reduceEqDiff, Nat.reduceLT, Nat.reduceLeDiff, Nat.reduceAdd, Nat.reduceMul, Nat.reduceSub, Nat.reduceBEq, ↓reduceIte, reduceCtorEq, fullL] <;> rfl)
theorem l3Spot (es : List Event) (hv : Valid es) (n : Nat) (e : Event) (he : es[n]? = some e) : Con P0 99 [eRoom ⟨es⟩, eSpotS (cov es n).1, .i .i64 (cov es n).2, .i .i64 n] (.t (eSpot (nextSpot es (cov es n).1 (cov es n).2 e.auth))) [] := by
  refine Con.intro (fn := Try.f99) [.cell 8 146] (fun i => if i = 7 then (12, []) else if i = 5 then (7, []) else (0, [])) mixed (by kernel_rfl) rfl (by decide) rfl (by rfl) (by kernel_rfl) ?_
  simp -implicitDefEqProofs (maxSteps := 2000000) only [push_cast, Nat.reduceEqDiff, Nat.reduceLT, Nat.reduceLeDiff, Nat.reduceAdd, Nat.reduceMul, Nat.reduceSub, Nat.reduceBEq, ↓reduceIte, reduceCtorEq, eRoom, eEvent]
  have hn := (List.getElem?_eq_some_iff.1 he).1
  have hcl : (cov es n).1.length = n := cov_len (by omega)
  refine ⟨by omega, fun e' he' => ?_⟩
  rw [Int.toNat_natCast, he] at he'
  cases he'
  refine WL.loop (ι := Nat) (D := (fun i => if i = 7 then (12, []) else if i = 5 then (7, []) else (0, []))) (fun i => i ≤ e.auth.length ∧ nextSpot es (cov es n).1 (cov es n).2 (e.auth.drop i) = nextSpot es (cov es n).1 (cov es n).2 e.auth) (fun i => ⟨47, [(1, .t (eSpotS (cov es n).1)), (2, .t (.i .i64 (cov es n).2)), (4, .rf 0 0), (8, .rf 1 0), (9, .t (eStringS e.auth)), (10, .t (.i .i64 i))], [.box (.t (eRoom ⟨es⟩)), .box (.ag [.t (.i .i64 0), .t (.i .i64 0)])]⟩) (fun i => e.auth.length - i) mixed (by kernel_rfl) 0 ⟨by omega, by simp⟩ (Keep.wk (ids := [some 0, some 1]) ?_) ?_
  · simp only [push_cast, Nat.reduceEqDiff, Nat.reduceLT, Nat.reduceLeDiff, Nat.reduceAdd, Nat.reduceMul, Nat.reduceSub, Nat.reduceBEq, ↓reduceIte, reduceCtorEq, eRoom] <;> rfl
  · rintro i ⟨hi, hf⟩
    simp -implicitDefEqProofs (maxSteps := 2000000) only [push_cast, Nat.reduceEqDiff, Nat.reduceLT, Nat.reduceLeDiff, Nat.reduceAdd, Nat.reduceMul, Nat.reduceSub, Nat.reduceBEq, ↓reduceIte, reduceCtorEq, eRoom]
    intro _
    have hhi := Bd.hi
    refine iteI (fun h => ⟨by omega, fun x hx => ?_⟩) (fun h => ?_)
    · rw [Int.toNat_natCast] at hx
      obtain ⟨k, a, hkn, hka, hid, hp⟩ := pos_ref ((hv.good he).auth x (List.mem_of_getElem? hx))
      obtain ⟨s, hs⟩ : ∃ s, (cov es n).1[k]? = some s := ⟨_, List.getElem?_eq_getElem (by omega)⟩
      have hd := nextSpot_drop (ch := (cov es n).2) hx hp hs
      rw [hf] at hd
      have hat : atI es x = k := by unfold atI; rw [hp]
      refine CallV.t (l2At es x) (.inl rfl) ?_
      rw [hat]
      simp -implicitDefEqProofs (maxSteps := 2000000) only [push_cast, Nat.reduceEqDiff, Nat.reduceLT, Nat.reduceLeDiff, Nat.reduceAdd, Nat.reduceMul, Nat.reduceSub, Nat.reduceBEq, ↓reduceIte, reduceCtorEq, eRoom]
      refine Callx.closed (l3IsLast (cov es n).1 k (by omega)) rfl rfl (.inl rfl) ?_
      simp -implicitDefEqProofs (maxSteps := 2000000) only [push_cast, Nat.reduceEqDiff, Nat.reduceLT, Nat.reduceLeDiff, Nat.reduceAdd, Nat.reduceMul, Nat.reduceSub, Nat.reduceBEq, ↓reduceIte, reduceCtorEq, eRoom, eSpot]
      have hsq := cov_seq (n := n) (by omega) s (List.mem_of_getElem? hs)
      have hel := hv.len
      have e1 : (Int.toNat (k : Int)) = k := Int.toNat_natCast _
      simp only [e1]
      refine iteI (fun h1 => ⟨by omega, fun a1 ha1 => ⟨by omega, fun a2 ha2 => ?_⟩⟩) (fun h1 => ?_)
      · rw [hs] at ha1 ha2
        cases ha1; cases ha2
        rw [if_pos h1] at hd
        rw [hd]
        exact ⟨by unfold inI64; omega, rfl⟩
      · rw [if_neg h1] at hd
        refine ⟨by unfold inI64; omega, i + 1, ⟨by omega, hd.symm⟩, by omega, Keep.wk (ids := [some 0, some 1]) ?_⟩
        simp only [push_cast, Nat.reduceEqDiff, Nat.reduceLT, Nat.reduceLeDiff, Nat.reduceAdd, Nat.reduceMul, Nat.reduceSub, Nat.reduceBEq, ↓reduceIte, reduceCtorEq, eRoom] <;> rfl
    · rw [List.drop_of_length_le (by omega)] at hf
      rw [← hf]
      rfl
noncomputable def covC (es : List Event) : Cover := if roomB es = true then coverL es else ⟨[], []⟩
theorem specMakeCover (es : List Event) (hB : Bd.B ≤ 2147483648) : Con P0 35 [eRoom ⟨es⟩] (.tp [.ag [.sr 0, .sr 1], .t (.b (roomB es))]) [.arr 146 2 (.own (.ag [.leaf, .leaf])) ((covC es).spots.map eSpot), .arr 150 1 (.own (.sl 3 1 .leaf)) ((covC es).reach.map eIntS)] := by
  refine Con.intro (fn := Try.f35) [.cell 2 66, .tmp 3] (fun i => if i = 17 then (12, [(false, 0), (false, 1), (false, 2), (false, 3), (false, 4), (false, 5), (false, 6), (false, 7), (false, 8), (false, 9), (false, 10), (true, 11)]) else if i = 12 then (10, [(false, 0), (false, 1), (false, 2), (false, 3), (false, 4), (false, 5), (false, 6), (true, 7), (true, 8), (false, 9)]) else (0, [])) mixed (by kernel_rfl) rfl (by decide) rfl (by rfl) (by kernel_rfl) ?_
  simp -implicitDefEqProofs (maxSteps := 2000000) only [push_cast, Nat.reduceEqDiff, Nat.reduceLT, Nat.reduceLeDiff, Nat.reduceAdd, Nat.reduceMul, Nat.reduceSub, Nat.reduceBEq, ↓reduceIte, reduceCtorEq, eRoom]
  have := Bd.lo
  refine ⟨rfl, by omega, rfl, by omega, ?_⟩
  refine Callx.closed (specRoomOk es) rfl rfl (.inr ⟨rfl, rfl⟩) ?_
  simp -implicitDefEqProofs (maxSteps := 2000000) only [push_cast, Nat.reduceEqDiff, Nat.reduceLT, Nat.reduceLeDiff, Nat.reduceAdd, Nat.reduceMul, Nat.reduceSub, Nat.reduceBEq, ↓reduceIte, reduceCtorEq, eRoom]
  refine iteI (fun hr => ?_) (fun hr => ?_)
  · have hr : roomB es = false := by simpa using hr
    have hc : covC es = ⟨[], []⟩ := if_neg (by rw [hr]; simp)
    rw [hr, hc]
    exact Close.of [none, none] rfl rfl rfl (by simp only [push_cast, Nat.reduceEqDiff, Nat.reduceLT, Nat.reduceLeDiff, Nat.reduceAdd, Nat.reduceMul, Nat.reduceSub, Nat.reduceBEq, ↓reduceIte, reduceCtorEq] <;> first | rfl | exact ⟨rfl, rfl⟩) (by simp only [push_cast, Nat.reduceEqDiff, Nat.reduceLT, Nat.reduceLeDiff, Nat.reduceAdd, Nat.reduceMul, Nat.reduceSub, Nat.reduceBEq, ↓reduceIte, reduceCtorEq] <;> first | rfl | exact ⟨rfl, rfl⟩)
  have hr : roomB es = true := by simpa using hr
  have hc : covC es = coverL es := if_pos hr
  rw [hr, hc]
  have hv := room_valid hr
  have hel := hv.len
  refine WL.loop (ι := Nat) (D := (fun i => if i = 17 then (12, [(false, 0), (false, 1), (false, 2), (false, 3), (false, 4), (false, 5), (false, 6), (false, 7), (false, 8), (false, 9), (false, 10), (true, 11)]) else if i = 12 then (10, [(false, 0), (false, 1), (false, 2), (false, 3), (false, 4), (false, 5), (false, 6), (true, 7), (true, 8), (false, 9)]) else (0, []))) (fun i => i ≤ es.length) (fun i => ⟨93, [(1, .rf 0 0), (2, .rf 1 0), (4, .rf 4 0), (5, .t (.i .i64 (cov es i).2)), (6, .t (.i .i64 i))], [.box (.t (eRoom ⟨es⟩)), .box (.ag [.ns, .ns]), .arr 146 2 (.own (.ag [.leaf, .leaf])) ((cov es i).1.map eSpot), .arr 150 1 (.own (.sl 3 1 .leaf)) (((List.range i).map (rowL es)).map eIntS), .box (.ag [.sr 2, .sr 3])]⟩) (fun i => es.length - i) mixed (by kernel_rfl) 0 (by omega) (Keep.wk (ids := [some 0, some 1, some 2, some 3, some 4]) ?_) ?_
  · simp only [push_cast, Nat.reduceEqDiff, Nat.reduceLT, Nat.reduceLeDiff, Nat.reduceAdd, Nat.reduceMul, Nat.reduceSub, Nat.reduceBEq, ↓reduceIte, reduceCtorEq, eRoom, cov, List.range_zero, List.map_nil] <;> rfl
  · intro i hi
    simp -implicitDefEqProofs (maxSteps := 2000000) only [push_cast, Nat.reduceEqDiff, Nat.reduceLT, Nat.reduceLeDiff, Nat.reduceAdd, Nat.reduceMul, Nat.reduceSub, Nat.reduceBEq, ↓reduceIte, reduceCtorEq, eRoom]
    intro hlen
    have hhi := Bd.hi
    refine iteI (fun h => ?_) (fun h => ?_)
    · obtain ⟨e, he⟩ : ∃ e, es[i]? = some e := ⟨_, List.getElem?_eq_getElem (by omega)⟩
      refine Callx.closed (l3Spot es hv i e he) rfl rfl (.inr ⟨rfl, rfl⟩) ?_
      simp -implicitDefEqProofs (maxSteps := 2000000) only [push_cast, Nat.reduceEqDiff, Nat.reduceLT, Nat.reduceLeDiff, Nat.reduceAdd, Nat.reduceMul, Nat.reduceSub, Nat.reduceBEq, ↓reduceIte, reduceCtorEq, eRoom, eSpot, eEvent]
      have hcs := cov_succ he
      have hcl : (cov es i).1.length = i := cov_len (by omega)
      have hin := hv.pos he
      have hchb := cov_ch (es := es) (n := i) (by omega)
      obtain ⟨sp', hsp'⟩ : ∃ s, nextSpot es (cov es i).1 (cov es i).2 e.auth = s := ⟨_, rfl⟩
      rw [hsp'] at hcs ⊢
      have hc1 : (cov es (i + 1)).1 = (cov es i).1 ++ [sp'] := by rw [hcs]
      have e1 : (Int.toNat (i : Int)) = i := Int.toNat_natCast _
      simp only [e1]
      refine iteI (fun hch => ⟨by unfold inI64; omega, rfl, by omega, rfl, by omega, by omega, by omega, fun e' he' => ?_⟩) (fun hch => ⟨rfl, by omega, rfl, by omega, by omega, by omega, fun e' he' => ?_⟩)
      all_goals
        rw [he] at he'
        cases he'
      · have hc2 : ((cov es (i + 1)).2 : Int) = (cov es i).2 + 1 := by rw [hcs]; simp [hch]
        revert hc2
        generalize ((cov es i).2 : Int) + 1 = c5
        intro hc2
        refine ⟨rfl, by omega, ?_⟩
        refine Mkx.closed (l2Full es [e.id] hv (fun x hx => by rw [List.mem_singleton.1 hx]; unfold There; rw [hin]; rfl) (by simp) hB) rfl rfl (.inr ⟨rfl, rfl⟩) ?_
        simp -implicitDefEqProofs (maxSteps := 2000000) only [push_cast, Nat.reduceEqDiff, Nat.reduceLT, Nat.reduceLeDiff, Nat.reduceAdd, Nat.reduceMul, Nat.reduceSub, Nat.reduceBEq, ↓reduceIte, reduceCtorEq, eRoom]
        refine ⟨rfl, by omega, ?_⟩
        have hfl : (fullL es [e.id]).length ≤ 1000 := by
          have h1 := sset_len (l := [e.id] ++ ancL es ([e.id].flatMap (authOf es)))
          have h2 := ancL_len (es := es) (rs := [e.id].flatMap (authOf es))
          unfold fullL
          rw [List.length_append] at h1
          simp only [List.length_singleton] at h1
          omega
        have hat : ∀ x ∈ fullL es [e.id], ∃ (k : Nat) (s : Spot), k ≤ i ∧ posOf x es = some k ∧ (cov es (i + 1)).1[k]? = some s ∧ spotOf es x = some s := fun x hx => full_at hv he hx
        have hnear : nearL es e.id = (fullL es [e.id]).filterMap (spotOf es) := rfl
        have hrow : rowL es i = (List.range (cov es (i + 1)).2).map fun c : Nat => grt (nearL es e.id) (c : Int) := by unfold rowL; rw [he]
        have hcl1 : (cov es (i + 1)).1.length = i + 1 := cov_len (by omega)
        have hch1 := cov_ch (es := es) (n := i + 1) (by omega)
        have hsr : (List.range (i + 1)).map (rowL es) = (List.range i).map (rowL es) ++ [rowL es i] := by rw [List.range_succ, List.map_append]; rfl
        generalize fullL es [e.id] = full at *
        refine WL.loop (ι := Nat) (D := (fun i => if i = 17 then (12, [(false, 0), (false, 1), (false, 2), (false, 3), (false, 4), (false, 5), (false, 6), (false, 7), (false, 8), (false, 9), (false, 10), (true, 11)]) else if i = 12 then (10, [(false, 0), (false, 1), (false, 2), (false, 3), (false, 4), (false, 5), (false, 6), (true, 7), (true, 8), (false, 9)]) else (0, []))) (fun j => j ≤ full.length) (fun j => ⟨93, [(1, .rf 0 0), (2, .rf 1 0), (4, .rf 4 0), (5, .t (.i .i64 (cov es (i + 1)).2)), (6, .t (.i .i64 i)), (8, .sr 5), (9, .sr 6), (10, .t (.i .i64 j))], [.box (.t (eRoom ⟨es⟩)), .box (.ag [.ns, .ns]), .arr 146 2 (.own (.ag [.leaf, .leaf])) ((cov es (i + 1)).1.map eSpot), .arr 150 1 (.own (.sl 3 1 .leaf)) (((List.range i).map (rowL es)).map eIntS), .box (.ag [.sr 2, .sr 3]), .arr 9 1 (.own .leaf) (full.map T.s), .arr 146 2 (.own (.ag [.leaf, .leaf])) (((full.take j).filterMap (spotOf es)).map eSpot)]⟩) (fun j => full.length - j) mixed (by kernel_rfl) 0 (by omega) (Keep.wk (ids := [some 0, some 1, some 7, some 3, some 4, some 9, some 10]) ?_) ?_
        · simp only [push_cast, Nat.reduceEqDiff, Nat.reduceLT, Nat.reduceLeDiff, Nat.reduceAdd, Nat.reduceMul, Nat.reduceSub, Nat.reduceBEq, ↓reduceIte, reduceCtorEq, eRoom, hc1, hc2, List.map_append, eSpot, List.filterMap_nil, List.take_zero] <;> rfl
        · intro j hj
          simp -implicitDefEqProofs (maxSteps := 2000000) only [push_cast, Nat.reduceEqDiff, Nat.reduceLT, Nat.reduceLeDiff, Nat.reduceAdd, Nat.reduceMul, Nat.reduceSub, Nat.reduceBEq, ↓reduceIte, reduceCtorEq, eRoom]
          intro _
          refine iteI (fun h2 => ⟨by omega, by omega, fun x hx => ?_⟩) (fun h2 => ?_)
          · rw [Int.toNat_natCast] at hx
            obtain ⟨k, s, hki, hp, hs, hso⟩ := hat x (List.mem_of_getElem? hx)
            have hatx : atI es x = k := by unfold atI; rw [hp]
            have htx : (full.take (j + 1)).filterMap (spotOf es) = (full.take j).filterMap (spotOf es) ++ [s] := by
              rw [List.take_add_one, hx, List.filterMap_append]
              simp [hso]
            have hnl : ((full.take j).filterMap (spotOf es)).length ≤ full.length := by
              have := List.length_filterMap_le (spotOf es) (full.take j)
              rw [List.length_take] at this
              omega
            refine CallV.t (l2At es x) (.inl rfl) ?_
            rw [hatx]
            simp -implicitDefEqProofs (maxSteps := 2000000) only [push_cast, Nat.reduceEqDiff, Nat.reduceLT, Nat.reduceLeDiff, Nat.reduceAdd, Nat.reduceMul, Nat.reduceSub, Nat.reduceBEq, ↓reduceIte, reduceCtorEq, eRoom, eSpot]
            refine ⟨by omega, by omega, fun s' hs' => ?_⟩
            rw [Int.toNat_natCast, hs] at hs'
            cases hs'
            refine ⟨rfl, by omega, rfl, by omega, by omega, by unfold inI64; omega, j + 1, by omega, by omega, Keep.wk (ids := [some 0, some 1, some 2, some 3, some 4, some 5, some 8]) ?_⟩
            rw [htx]
            simp only [push_cast, Nat.reduceEqDiff, Nat.reduceLT, Nat.reduceLeDiff, Nat.reduceAdd, Nat.reduceMul, Nat.reduceSub, Nat.reduceBEq, ↓reduceIte, reduceCtorEq, eRoom, List.map_append] <;> first | rfl | exact ⟨rfl, rfl⟩
          · rw [List.take_of_length_le (by omega), ← hnear]
            generalize nearL es e.id = near at *
            refine ⟨rfl, by omega, ?_⟩
            refine WL.loop (ι := Nat) (D := (fun i => if i = 17 then (12, [(false, 0), (false, 1), (false, 2), (false, 3), (false, 4), (false, 5), (false, 6), (false, 7), (false, 8), (false, 9), (false, 10), (true, 11)]) else if i = 12 then (10, [(false, 0), (false, 1), (false, 2), (false, 3), (false, 4), (false, 5), (false, 6), (true, 7), (true, 8), (false, 9)]) else (0, []))) (fun c => c ≤ (cov es (i + 1)).2) (fun c => ⟨93, [(1, .rf 0 0), (2, .rf 1 0), (4, .rf 4 0), (5, .t (.i .i64 (cov es (i + 1)).2)), (6, .t (.i .i64 i)), (9, .sr 5), (11, .sr 6), (12, .t (.i .i64 c))], [.box (.t (eRoom ⟨es⟩)), .box (.ag [.ns, .ns]), .arr 146 2 (.own (.ag [.leaf, .leaf])) ((cov es (i + 1)).1.map eSpot), .arr 150 1 (.own (.sl 3 1 .leaf)) (((List.range i).map (rowL es)).map eIntS), .box (.ag [.sr 2, .sr 3]), .arr 146 2 (.own (.ag [.leaf, .leaf])) (near.map eSpot), .arr 3 1 (.own .leaf) (((List.range c).map fun c : Nat => grt near (c : Int)).map (T.i .i64))]⟩) (fun c => (cov es (i + 1)).2 - c) mixed (by kernel_rfl) 0 (by omega) (Keep.wk (ids := [some 0, some 1, some 2, some 3, some 4, some 6, some 7]) ?_) ?_
            · simp only [push_cast, Nat.reduceEqDiff, Nat.reduceLT, Nat.reduceLeDiff, Nat.reduceAdd, Nat.reduceMul, Nat.reduceSub, Nat.reduceBEq, ↓reduceIte, reduceCtorEq, eRoom, List.range_zero, List.map_nil] <;> rfl
            · intro c hcc
              simp -implicitDefEqProofs (maxSteps := 2000000) only [push_cast, Nat.reduceEqDiff, Nat.reduceLT, Nat.reduceLeDiff, Nat.reduceAdd, Nat.reduceMul, Nat.reduceSub, Nat.reduceBEq, ↓reduceIte, reduceCtorEq, eRoom]
              refine iteI (fun h3 => ?_) (fun h3 => ?_)
              · refine Callx.closed (l3Greatest near c) rfl rfl (.inr ⟨rfl, rfl⟩) ?_
                simp -implicitDefEqProofs (maxSteps := 2000000) only [push_cast, Nat.reduceEqDiff, Nat.reduceLT, Nat.reduceLeDiff, Nat.reduceAdd, Nat.reduceMul, Nat.reduceSub, Nat.reduceBEq, ↓reduceIte, reduceCtorEq, eRoom]
                have hrl : (List.range c).length = c := List.length_range
                have hrs : (List.range (c + 1)).map (fun c : Nat => grt near (c : Int)) = (List.range c).map (fun c : Nat => grt near (c : Int)) ++ [grt near (c : Int)] := by rw [List.range_succ, List.map_append]; rfl
                refine ⟨rfl, by omega, rfl, by omega, by omega, by unfold inI64; omega, c + 1, by omega, by omega, Keep.wk (ids := [some 0, some 1, some 2, some 3, some 4, some 5, some 8]) ?_⟩
                rw [hrs]
                simp only [push_cast, Nat.reduceEqDiff, Nat.reduceLT, Nat.reduceLeDiff, Nat.reduceAdd, Nat.reduceMul, Nat.reduceSub, Nat.reduceBEq, ↓reduceIte, reduceCtorEq, eRoom, List.map_append] <;> first | rfl | exact ⟨rfl, rfl⟩
              · have hce : c = (cov es (i + 1)).2 := by omega
                subst hce
                rw [← hrow]
                have hrl : (List.range i).length = i := List.length_range
                refine ⟨rfl, by omega, rfl, by omega, by omega, by unfold inI64; omega, i + 1, by omega, by omega, Keep.wk (ids := [some 0, some 1, some 2, some 8, some 4]) ?_⟩
                rw [hsr]
                simp only [push_cast, Nat.reduceEqDiff, Nat.reduceLT, Nat.reduceLeDiff, Nat.reduceAdd, Nat.reduceMul, Nat.reduceSub, Nat.reduceBEq, ↓reduceIte, reduceCtorEq, eRoom, List.map_append] <;> first | rfl | exact ⟨rfl, rfl⟩
      · have hc2 : ((cov es (i + 1)).2 : Int) = (cov es i).2 := by rw [hcs]; simp [hch]
        refine ⟨rfl, by omega, ?_⟩
        refine Mkx.closed (l2Full es [e.id] hv (fun x hx => by rw [List.mem_singleton.1 hx]; unfold There; rw [hin]; rfl) (by simp) hB) rfl rfl (.inr ⟨rfl, rfl⟩) ?_
        simp -implicitDefEqProofs (maxSteps := 2000000) only [push_cast, Nat.reduceEqDiff, Nat.reduceLT, Nat.reduceLeDiff, Nat.reduceAdd, Nat.reduceMul, Nat.reduceSub, Nat.reduceBEq, ↓reduceIte, reduceCtorEq, eRoom]
        refine ⟨rfl, by omega, ?_⟩
        have hfl : (fullL es [e.id]).length ≤ 1000 := by
          have h1 := sset_len (l := [e.id] ++ ancL es ([e.id].flatMap (authOf es)))
          have h2 := ancL_len (es := es) (rs := [e.id].flatMap (authOf es))
          unfold fullL
          rw [List.length_append] at h1
          simp only [List.length_singleton] at h1
          omega
        have hat : ∀ x ∈ fullL es [e.id], ∃ (k : Nat) (s : Spot), k ≤ i ∧ posOf x es = some k ∧ (cov es (i + 1)).1[k]? = some s ∧ spotOf es x = some s := fun x hx => full_at hv he hx
        have hnear : nearL es e.id = (fullL es [e.id]).filterMap (spotOf es) := rfl
        have hrow : rowL es i = (List.range (cov es (i + 1)).2).map fun c : Nat => grt (nearL es e.id) (c : Int) := by unfold rowL; rw [he]
        have hcl1 : (cov es (i + 1)).1.length = i + 1 := cov_len (by omega)
        have hch1 := cov_ch (es := es) (n := i + 1) (by omega)
        have hsr : (List.range (i + 1)).map (rowL es) = (List.range i).map (rowL es) ++ [rowL es i] := by rw [List.range_succ, List.map_append]; rfl
        generalize fullL es [e.id] = full at *
        refine WL.loop (ι := Nat) (D := (fun i => if i = 17 then (12, [(false, 0), (false, 1), (false, 2), (false, 3), (false, 4), (false, 5), (false, 6), (false, 7), (false, 8), (false, 9), (false, 10), (true, 11)]) else if i = 12 then (10, [(false, 0), (false, 1), (false, 2), (false, 3), (false, 4), (false, 5), (false, 6), (true, 7), (true, 8), (false, 9)]) else (0, []))) (fun j => j ≤ full.length) (fun j => ⟨93, [(1, .rf 0 0), (2, .rf 1 0), (4, .rf 4 0), (5, .t (.i .i64 (cov es (i + 1)).2)), (6, .t (.i .i64 i)), (8, .sr 5), (9, .sr 6), (10, .t (.i .i64 j))], [.box (.t (eRoom ⟨es⟩)), .box (.ag [.ns, .ns]), .arr 146 2 (.own (.ag [.leaf, .leaf])) ((cov es (i + 1)).1.map eSpot), .arr 150 1 (.own (.sl 3 1 .leaf)) (((List.range i).map (rowL es)).map eIntS), .box (.ag [.sr 2, .sr 3]), .arr 9 1 (.own .leaf) (full.map T.s), .arr 146 2 (.own (.ag [.leaf, .leaf])) (((full.take j).filterMap (spotOf es)).map eSpot)]⟩) (fun j => full.length - j) mixed (by kernel_rfl) 0 (by omega) (Keep.wk (ids := [some 0, some 1, some 7, some 3, some 4, some 9, some 10]) ?_) ?_
        · simp only [push_cast, Nat.reduceEqDiff, Nat.reduceLT, Nat.reduceLeDiff, Nat.reduceAdd, Nat.reduceMul, Nat.reduceSub, Nat.reduceBEq, ↓reduceIte, reduceCtorEq, eRoom, hc1, hc2, List.map_append, eSpot, List.filterMap_nil, List.take_zero] <;> rfl
        · intro j hj
          simp -implicitDefEqProofs (maxSteps := 2000000) only [push_cast, Nat.reduceEqDiff, Nat.reduceLT, Nat.reduceLeDiff, Nat.reduceAdd, Nat.reduceMul, Nat.reduceSub, Nat.reduceBEq, ↓reduceIte, reduceCtorEq, eRoom]
          intro _
          refine iteI (fun h2 => ⟨by omega, by omega, fun x hx => ?_⟩) (fun h2 => ?_)
          · rw [Int.toNat_natCast] at hx
            obtain ⟨k, s, hki, hp, hs, hso⟩ := hat x (List.mem_of_getElem? hx)
            have hatx : atI es x = k := by unfold atI; rw [hp]
            have htx : (full.take (j + 1)).filterMap (spotOf es) = (full.take j).filterMap (spotOf es) ++ [s] := by
              rw [List.take_add_one, hx, List.filterMap_append]
              simp [hso]
            have hnl : ((full.take j).filterMap (spotOf es)).length ≤ full.length := by
              have := List.length_filterMap_le (spotOf es) (full.take j)
              rw [List.length_take] at this
              omega
            refine CallV.t (l2At es x) (.inl rfl) ?_
            rw [hatx]
            simp -implicitDefEqProofs (maxSteps := 2000000) only [push_cast, Nat.reduceEqDiff, Nat.reduceLT, Nat.reduceLeDiff, Nat.reduceAdd, Nat.reduceMul, Nat.reduceSub, Nat.reduceBEq, ↓reduceIte, reduceCtorEq, eRoom, eSpot]
            refine ⟨by omega, by omega, fun s' hs' => ?_⟩
            rw [Int.toNat_natCast, hs] at hs'
            cases hs'
            refine ⟨rfl, by omega, rfl, by omega, by omega, by unfold inI64; omega, j + 1, by omega, by omega, Keep.wk (ids := [some 0, some 1, some 2, some 3, some 4, some 5, some 8]) ?_⟩
            rw [htx]
            simp only [push_cast, Nat.reduceEqDiff, Nat.reduceLT, Nat.reduceLeDiff, Nat.reduceAdd, Nat.reduceMul, Nat.reduceSub, Nat.reduceBEq, ↓reduceIte, reduceCtorEq, eRoom, List.map_append] <;> first | rfl | exact ⟨rfl, rfl⟩
          · rw [List.take_of_length_le (by omega), ← hnear]
            generalize nearL es e.id = near at *
            refine ⟨rfl, by omega, ?_⟩
            refine WL.loop (ι := Nat) (D := (fun i => if i = 17 then (12, [(false, 0), (false, 1), (false, 2), (false, 3), (false, 4), (false, 5), (false, 6), (false, 7), (false, 8), (false, 9), (false, 10), (true, 11)]) else if i = 12 then (10, [(false, 0), (false, 1), (false, 2), (false, 3), (false, 4), (false, 5), (false, 6), (true, 7), (true, 8), (false, 9)]) else (0, []))) (fun c => c ≤ (cov es (i + 1)).2) (fun c => ⟨93, [(1, .rf 0 0), (2, .rf 1 0), (4, .rf 4 0), (5, .t (.i .i64 (cov es (i + 1)).2)), (6, .t (.i .i64 i)), (9, .sr 5), (11, .sr 6), (12, .t (.i .i64 c))], [.box (.t (eRoom ⟨es⟩)), .box (.ag [.ns, .ns]), .arr 146 2 (.own (.ag [.leaf, .leaf])) ((cov es (i + 1)).1.map eSpot), .arr 150 1 (.own (.sl 3 1 .leaf)) (((List.range i).map (rowL es)).map eIntS), .box (.ag [.sr 2, .sr 3]), .arr 146 2 (.own (.ag [.leaf, .leaf])) (near.map eSpot), .arr 3 1 (.own .leaf) (((List.range c).map fun c : Nat => grt near (c : Int)).map (T.i .i64))]⟩) (fun c => (cov es (i + 1)).2 - c) mixed (by kernel_rfl) 0 (by omega) (Keep.wk (ids := [some 0, some 1, some 2, some 3, some 4, some 6, some 7]) ?_) ?_
            · simp only [push_cast, Nat.reduceEqDiff, Nat.reduceLT, Nat.reduceLeDiff, Nat.reduceAdd, Nat.reduceMul, Nat.reduceSub, Nat.reduceBEq, ↓reduceIte, reduceCtorEq, eRoom, List.range_zero, List.map_nil] <;> rfl
            · intro c hcc
              simp -implicitDefEqProofs (maxSteps := 2000000) only [push_cast, Nat.reduceEqDiff, Nat.reduceLT, Nat.reduceLeDiff, Nat.reduceAdd, Nat.reduceMul, Nat.reduceSub, Nat.reduceBEq, ↓reduceIte, reduceCtorEq, eRoom]
              refine iteI (fun h3 => ?_) (fun h3 => ?_)
              · refine Callx.closed (l3Greatest near c) rfl rfl (.inr ⟨rfl, rfl⟩) ?_
                simp -implicitDefEqProofs (maxSteps := 2000000) only [push_cast, Nat.reduceEqDiff, Nat.reduceLT, Nat.reduceLeDiff, Nat.reduceAdd, Nat.reduceMul, Nat.reduceSub, Nat.reduceBEq, ↓reduceIte, reduceCtorEq, eRoom]
                have hrl : (List.range c).length = c := List.length_range
                have hrs : (List.range (c + 1)).map (fun c : Nat => grt near (c : Int)) = (List.range c).map (fun c : Nat => grt near (c : Int)) ++ [grt near (c : Int)] := by rw [List.range_succ, List.map_append]; rfl
                refine ⟨rfl, by omega, rfl, by omega, by omega, by unfold inI64; omega, c + 1, by omega, by omega, Keep.wk (ids := [some 0, some 1, some 2, some 3, some 4, some 5, some 8]) ?_⟩
                rw [hrs]
                simp only [push_cast, Nat.reduceEqDiff, Nat.reduceLT, Nat.reduceLeDiff, Nat.reduceAdd, Nat.reduceMul, Nat.reduceSub, Nat.reduceBEq, ↓reduceIte, reduceCtorEq, eRoom, List.map_append] <;> first | rfl | exact ⟨rfl, rfl⟩
              · have hce : c = (cov es (i + 1)).2 := by omega
                subst hce
                rw [← hrow]
                have hrl : (List.range i).length = i := List.length_range
                refine ⟨rfl, by omega, rfl, by omega, by omega, by unfold inI64; omega, i + 1, by omega, by omega, Keep.wk (ids := [some 0, some 1, some 2, some 8, some 4]) ?_⟩
                rw [hsr]
                simp only [push_cast, Nat.reduceEqDiff, Nat.reduceLT, Nat.reduceLeDiff, Nat.reduceAdd, Nat.reduceMul, Nat.reduceSub, Nat.reduceBEq, ↓reduceIte, reduceCtorEq, eRoom, List.map_append] <;> first | rfl | exact ⟨rfl, rfl⟩
    · rw [show i = es.length by omega]
      exact Close.of [some 2, some 3] rfl rfl rfl (by simp only [push_cast, Nat.reduceEqDiff, Nat.reduceLT, Nat.reduceLeDiff, Nat.reduceAdd, Nat.reduceMul, Nat.reduceSub, Nat.reduceBEq, ↓reduceIte, reduceCtorEq] <;> first | rfl | exact ⟨rfl, rfl⟩) (by simp only [push_cast, Nat.reduceEqDiff, Nat.reduceLT, Nat.reduceLeDiff, Nat.reduceAdd, Nat.reduceMul, Nat.reduceSub, Nat.reduceBEq, ↓reduceIte, reduceCtorEq, coverL, sps] <;> first | rfl | exact ⟨rfl, rfl⟩)
end Go.Proofs.Ythhgcklidfilfaa.BX
