/-
  The grant of a name: the document's walk, the library's search.
-/
import Derived.Test.YtkgoglapagmapaaMl
import Derived.Test.YtkgoglapagmapaaFi
namespace Go.Proofs.Ytkgoglapagmapaa.BX
set_option linter.unusedSectionVars false
set_option linter.unusedSimpArgs false
set_option linter.unusedVariables false
open Go Go.RowKit
set_option maxRecDepth 20000
set_option maxHeartbeats 400000
/-- how many stand in front of a name -/
def inFront (gs : List Grant) (u : List UInt8) : Nat := (gs.takeWhile fun g => decide (g.name < u)).length
theorem inFront_at {gs : List Grant} {u : List UInt8} {i : Nat} (h1 : ∀ k g, k < i → gs[k]? = some g → g.name < u) (h2 : ∀ g, gs[i]? = some g → ¬ g.name < u) (hi : i ≤ gs.length) : inFront gs u = i := by
  have : gs.takeWhile (fun g => decide (g.name < u)) = gs.take i := by
    induction gs generalizing i with
    | nil => simp
    | cons x r ih =>
      cases i with
      | zero =>
        have := h2 x rfl
        rw [List.takeWhile_cons_of_neg (by simpa using this)]; rfl
      | succ i =>
        have := h1 0 x (by omega) rfl
        rw [List.takeWhile_cons_of_pos (by simpa using this), List.take_succ_cons, ih (i := i) (fun k g hk hg => h1 (k + 1) g (by omega) (by simpa using hg)) (fun g hg => h2 g (by simpa using hg)) (by simpa using hi)]
  unfold inFront
  rw [this, List.length_take]
  omega
/-- the grants are in order -/
def GOrd (gs : List Grant) : Prop := ∀ (i j : Nat) (a b : Grant), i < j → gs[i]? = some a → gs[j]? = some b → a.name < b.name
theorem gOrd_of {gs : List Grant} (h : ∀ (i : Nat) (a b : Grant), gs[i]? = some a → gs[i + 1]? = some b → Op.bytesLess a.name b.name = true) : GOrd gs := by
  intro i j a b hij ha hb
  induction j generalizing b with
  | zero => omega
  | succ j ih =>
    have hj : j < gs.length := by have := (List.getElem?_eq_some_iff.1 hb).1; omega
    have h1 := h j gs[j] b (List.getElem?_eq_getElem hj) hb
    rw [Go.Proofs.bytesLess_eq, decide_eq_true_eq] at h1
    rcases Nat.lt_or_ge i j with h2 | h2
    · exact List.lt_trans (ih gs[j] h2 (List.getElem?_eq_getElem hj)) h1
    · have : i = j := by omega
      subst this
      rw [List.getElem?_eq_getElem hj] at ha
      cases ha; exact h1
/-- the first grant of a name -/
def grantL (gs : List Grant) (u : List UInt8) : Option Grant := gs.find? fun g => decide (g.name = u)
theorem grant_none {gs : List Grant} {u : List UInt8} : grantL gs u = none ↔ ∀ g ∈ gs, g.name ≠ u := by
  unfold grantL; rw [List.find?_eq_none]; simp
theorem grant_at {gs : List Grant} {u : List UInt8} {i : Nat} {g : Grant} (hg : gs[i]? = some g) (hn : g.name = u) (h : ∀ x ∈ gs.take i, x.name ≠ u) : grantL gs u = some g := by
  obtain ⟨hi, hgi⟩ := List.getElem?_eq_some_iff.1 hg
  have hs : gs = gs.take i ++ g :: gs.drop (i + 1) := by
    rw [← hgi, ← List.drop_eq_getElem_cons hi, List.take_append_drop]
  unfold grantL
  rw [hs, List.find?_append, List.find?_eq_none.2 (by simpa using h), List.find?_cons_of_pos (by simpa using hn)]
  rfl
theorem grant_front {gs : List Grant} {u : List UInt8} {i : Nat} (ho : GOrd gs) (h1 : ∀ k g, k < i → gs[k]? = some g → g.name < u) (h2 : ∀ g, gs[i]? = some g → ¬ g.name < u) :
    (∃ g, gs[i]? = some g ∧ g.name = u ∧ grantL gs u = some g) ∨ ((∀ g, gs[i]? = some g → g.name ≠ u) ∧ grantL gs u = none) := by
  by_cases hg : ∃ g, gs[i]? = some g ∧ g.name = u
  · obtain ⟨g, hg, hn⟩ := hg
    refine .inl ⟨g, hg, hn, grant_at hg hn fun x hx => ?_⟩
    obtain ⟨k, hk, rfl⟩ := List.getElem_of_mem hx
    rw [List.getElem_take]
    rw [List.length_take] at hk
    intro he
    have := h1 k _ (by omega) (List.getElem?_eq_getElem (by omega))
    rw [he] at this
    exact List.lt_irrefl _ this
  · refine .inr ⟨fun g hgi hn => hg ⟨g, hgi, hn⟩, grant_none.2 fun g hm hn => ?_⟩
    obtain ⟨k, hk, rfl⟩ := List.getElem_of_mem hm
    rcases Nat.lt_trichotomy k i with h | h | h
    · have := h1 k _ h (List.getElem?_eq_getElem hk)
      rw [hn] at this
      exact List.lt_irrefl _ this
    · subst h
      exact hg ⟨_, List.getElem?_eq_getElem hk, hn⟩
    · have hi : i < gs.length := by omega
      have q := ho i k _ _ h (List.getElem?_eq_getElem hi) (List.getElem?_eq_getElem hk)
      rw [hn] at q
      exact h2 _ (List.getElem?_eq_getElem hi) q
theorem front_lt {u : List UInt8} : ∀ {gs : List Grant} {k : Nat} {g : Grant}, k < inFront gs u → gs[k]? = some g → g.name < u
  | [], k, g, h, _ => by simp [inFront] at h
  | x :: r, k, g, h, hg => by
    unfold inFront at h
    rw [List.takeWhile_cons] at h
    split at h
    · rename_i hx
      cases k with
      | zero => simp at hg; subst hg; simpa using hx
      | succ k => exact front_lt (gs := r) (k := k) (by unfold inFront; simpa using h) (by simpa using hg)
    · simp at h
theorem front_ge {u : List UInt8} : ∀ {gs : List Grant} {g : Grant}, gs[inFront gs u]? = some g → ¬ g.name < u
  | [], g, h => by simp at h
  | x :: r, g, h => by
    unfold inFront at h
    rw [List.takeWhile_cons] at h
    split at h
    · exact front_ge (gs := r) (by unfold inFront; simpa using h)
    · rename_i hx
      simp at h
      subst h
      simpa using hx
def grT (o : Option Grant) : T := match o with
  | some g => .tp [.i .i64 g.level, .b true]
  | none => .tp [.i .i64 0, .b false]
variable [Bd]
theorem l5Grant (gs : List Grant) (u : List UInt8) : Con P0 156 [eGrantS gs, .s u] (.t (grT (grantL gs u))) [] := by
  refine Con.intro (fn := Try.f156) [.tmp 4, .tmp 5] (fun _ => (0, [])) mixed (by kernel_rfl) rfl (by decide) rfl (by rfl) (by kernel_rfl) ?_
  simp -implicitDefEqProofs (maxSteps := 2000000) only [push_cast, Nat.reduceEqDiff, Nat.reduceLT, Nat.reduceLeDiff, Nat.reduceAdd, Nat.reduceMul, Nat.reduceSub, Nat.reduceBEq, ↓reduceIte, reduceCtorEq]
  refine WL.loop (ι := Nat) (D := (fun _ => (0, []))) (fun i => i ≤ gs.length ∧ ∀ x ∈ gs.take i, x.name ≠ u) (fun i => ⟨25, [(0, .t (eGrantS gs)), (1, .t (.s u)), (6, .t (.i .i64 i))], []⟩) (fun i => gs.length - i) mixed (by kernel_rfl) 0 ⟨by omega, by simp⟩ (Keep.wk (ids := []) ?_) ?_
  · simp only [push_cast, Nat.reduceEqDiff, Nat.reduceLT, Nat.reduceLeDiff, Nat.reduceAdd, Nat.reduceMul, Nat.reduceSub, Nat.reduceBEq, ↓reduceIte, reduceCtorEq] <;> rfl
  · rintro i ⟨hi, hc⟩
    simp -implicitDefEqProofs (maxSteps := 2000000) only [push_cast, Nat.reduceEqDiff, Nat.reduceLT, Nat.reduceLeDiff, Nat.reduceAdd, Nat.reduceMul, Nat.reduceSub, Nat.reduceBEq, ↓reduceIte, reduceCtorEq, eGrant]
    intro _
    have := Bd.hi
    refine iteI (fun h => ⟨by omega, fun g hg => ?_⟩) (fun h => ?_)
    · rw [Int.toNat_natCast] at hg
      refine iteI (fun h1 => ⟨by omega, fun g' hg' => ?_⟩) (fun h1 => ?_)
      · rw [Int.toNat_natCast, hg] at hg'
        cases hg'
        rw [grant_at hg h1 hc]
        rfl
      · refine ⟨by unfold inI64; omega, i + 1, ⟨by omega, take_snoc hg hc h1⟩, by omega, Keep.wk (ids := []) ?_⟩
        simp only [push_cast, Nat.reduceEqDiff, Nat.reduceLT, Nat.reduceLeDiff, Nat.reduceAdd, Nat.reduceMul, Nat.reduceSub, Nat.reduceBEq, ↓reduceIte, reduceCtorEq] <;> rfl
    · rw [List.take_of_length_le (by omega)] at hc
      rw [grant_none.2 hc]
      rfl
theorem cmpGrant (g : Grant) (u : List UInt8) : Con P0 182 [eGrant g, .s u] (.t (.i .i64 (cmpS g.name u))) [] := by
  refine Con.intro (fn := Try.f182) [.tmp 4] (fun _ => (0, [])) mixed (by kernel_rfl) rfl (by decide) rfl (by rfl) (by kernel_rfl) ?_
  simp -implicitDefEqProofs (maxSteps := 2000000) only [push_cast, Nat.reduceEqDiff, Nat.reduceLT, Nat.reduceLeDiff, Nat.reduceAdd, Nat.reduceMul, Nat.reduceSub, Nat.reduceBEq, ↓reduceIte, reduceCtorEq, eGrant]
  refine Callx.closed (compareS g.name u) rfl rfl (.inl rfl) ?_
  simp -implicitDefEqProofs (maxSteps := 2000000) only [push_cast, Nat.reduceEqDiff, Nat.reduceLT, Nat.reduceLeDiff, Nat.reduceAdd, Nat.reduceMul, Nat.reduceSub, Nat.reduceBEq, ↓reduceIte, reduceCtorEq, eGrant]
def bsB (gs : List Grant) (u : List UInt8) : Bool := match gs[inFront gs u]? with
  | some g => decide (g.name = u)
  | none => false
theorem bsearch (gs : List Grant) (u : List UInt8) (ho : GOrd gs) (hB : Bd.B ≤ 2147483648) : Con P0 181 [eGrantS gs, .s u, .fn 182 []] (.t (.tp [.i .i64 (inFront gs u), .b (bsB gs u)])) [] := by
  refine Con.intro (fn := Try.f181) [.tmp 6, .tmp 7] (fun _ => (0, [])) mixed (by kernel_rfl) rfl (by decide) rfl (by rfl) (by kernel_rfl) ?_
  simp -implicitDefEqProofs (maxSteps := 2000000) only [push_cast, Nat.reduceEqDiff, Nat.reduceLT, Nat.reduceLeDiff, Nat.reduceAdd, Nat.reduceMul, Nat.reduceSub, Nat.reduceBEq, ↓reduceIte, reduceCtorEq]
  intro hl
  have := Bd.hi
  refine WL.loop (ι := Nat × Nat) (D := (fun _ => (0, []))) (fun i => i.1 ≤ i.2 ∧ i.2 ≤ gs.length ∧ (∀ k g, k < i.1 → gs[k]? = some g → g.name < u) ∧ ∀ k g, i.2 ≤ k → gs[k]? = some g → ¬ g.name < u) (fun i => ⟨49, [(0, .t (eGrantS gs)), (1, .t (.s u)), (2, .t (.fn 182 [])), (8, .t (.i .i64 gs.length)), (9, .t (.i .i64 i.1)), (10, .t (.i .i64 i.2))], []⟩) (fun i => i.2 - i.1) mixed (by kernel_rfl) (0, gs.length) ⟨by simp, by simp, by simp, fun k g hk hg => by have := (List.getElem?_eq_some_iff.1 hg).1; simp only at hk; omega⟩ (Keep.wk (ids := []) ?_) ?_
  · simp only [push_cast, Nat.reduceEqDiff, Nat.reduceLT, Nat.reduceLeDiff, Nat.reduceAdd, Nat.reduceMul, Nat.reduceSub, Nat.reduceBEq, ↓reduceIte, reduceCtorEq] <;> rfl
  · rintro ⟨lo, hi⟩ ⟨h1, h2, h3, h4⟩
    simp only at h1 h2 h3 h4
    simp -implicitDefEqProofs (maxSteps := 2000000) only [push_cast, Nat.reduceEqDiff, Nat.reduceLT, Nat.reduceLeDiff, Nat.reduceAdd, Nat.reduceMul, Nat.reduceSub, Nat.reduceBEq, ↓reduceIte, reduceCtorEq]
    refine iteI (fun h => ?_) (fun h => ?_)
    · have hm : IntKind.i64.wrap (IntKind.u64.wrap ((lo : Int) + hi) / 2 ^ Int.toNat 1) = (((lo + hi) / 2 : Nat) : Int) := by
        rw [IntWalk.u64_in _ ⟨by omega, by omega⟩]
        have : (2 : Int) ^ Int.toNat 1 = 2 := rfl
        rw [this, IntWalk.i64_in _ ⟨by omega, by omega⟩]
        omega
      rw [hm]
      obtain ⟨m, hme⟩ : ∃ m, (lo + hi) / 2 = m := ⟨_, rfl⟩
      rw [hme]
      refine ⟨by unfold inI64; omega, by omega, by omega, by omega, fun g hg => ?_⟩
      rw [Int.toNat_natCast] at hg
      refine Callx.closed (cmpGrant g u) rfl rfl (.inl rfl) ?_
      simp -implicitDefEqProofs (maxSteps := 2000000) only [push_cast, Nat.reduceEqDiff, Nat.reduceLT, Nat.reduceLeDiff, Nat.reduceAdd, Nat.reduceMul, Nat.reduceSub, Nat.reduceBEq, ↓reduceIte, reduceCtorEq]
      have hlt : cmpS g.name u < 0 ↔ g.name < u := by rw [cmpS_neg, Go.Proofs.bytesLess_eq, decide_eq_true_eq]
      refine iteI (fun hc => ?_) (fun hc => ?_)
      · refine ⟨by unfold inI64; omega, (m + 1, hi), ⟨by simp only; omega, h2, fun k x hk hx => ?_, h4⟩, by simp only; omega, Keep.wk (ids := []) ?_⟩
        · rcases Nat.lt_or_ge k m with h | h
          · exact List.lt_trans (ho k m x g h hx hg) (hlt.1 hc)
          · have : k = m := by simp only at hk; omega
            subst this
            rw [hg] at hx; cases hx; exact hlt.1 hc
        · simp only [push_cast, Nat.reduceEqDiff, Nat.reduceLT, Nat.reduceLeDiff, Nat.reduceAdd, Nat.reduceMul, Nat.reduceSub, Nat.reduceBEq, ↓reduceIte, reduceCtorEq] <;> rfl
      · refine ⟨(lo, m), ⟨by simp only; omega, by simp only; omega, h3, fun k x hk hx hl => ?_⟩, by simp only; omega, Keep.wk (ids := []) ?_⟩
        · refine hc (hlt.2 ?_)
          rcases Nat.lt_or_ge m k with h | h
          · exact List.lt_trans (ho m k g x h hg hx) hl
          · have : k = m := by simp only at hk; omega
            subst this
            rw [hg] at hx; cases hx; exact hl
        · simp only [push_cast, Nat.reduceEqDiff, Nat.reduceLT, Nat.reduceLeDiff, Nat.reduceAdd, Nat.reduceMul, Nat.reduceSub, Nat.reduceBEq, ↓reduceIte, reduceCtorEq] <;> rfl
    · have hlh : lo = hi := by omega
      subst hlh
      have hf := inFront_at h3 (fun g hg => h4 lo g (Nat.le_refl _) hg) h2
      unfold bsB
      rw [hf]
      refine iteI (fun hc => ⟨by omega, fun g hg => ?_⟩) (fun hc => ?_)
      · rw [Int.toNat_natCast] at hg
        refine Callx.closed (cmpGrant g u) rfl rfl (.inl rfl) ?_
        simp -implicitDefEqProofs (maxSteps := 2000000) only [push_cast, Nat.reduceEqDiff, Nat.reduceLT, Nat.reduceLeDiff, Nat.reduceAdd, Nat.reduceMul, Nat.reduceSub, Nat.reduceBEq, ↓reduceIte, reduceCtorEq]
        rw [hg]
        simp only [cmpS_zero]
      · rw [List.getElem?_eq_none (by omega)]
theorem grantOf (e : Event) (u : List UInt8) (ho : GOrd e.grants) (hB : Bd.B ≤ 2147483648) : Con P0 160 [.po (eEvent e) 0, .s u] (.t (grT (grantL e.grants u))) [] := by
  refine Con.intro (fn := Try.f160) [.tmp 4, .tmp 5] (fun _ => (0, [])) mixed (by kernel_rfl) rfl (by decide) rfl (by rfl) (by kernel_rfl) ?_
  simp -implicitDefEqProofs (maxSteps := 2000000) only [push_cast, Nat.reduceEqDiff, Nat.reduceLT, Nat.reduceLeDiff, Nat.reduceAdd, Nat.reduceMul, Nat.reduceSub, Nat.reduceBEq, ↓reduceIte, reduceCtorEq, eEvent]
  refine Callx.closed (bsearch e.grants u ho hB) rfl rfl (.inr ⟨rfl, rfl⟩) ?_
  simp -implicitDefEqProofs (maxSteps := 2000000) only [push_cast, Nat.reduceEqDiff, Nat.reduceLT, Nat.reduceLeDiff, Nat.reduceAdd, Nat.reduceMul, Nat.reduceSub, Nat.reduceBEq, ↓reduceIte, reduceCtorEq, eEvent, eGrant]
  rcases grant_front ho (fun k g => front_lt (u := u)) (fun g => front_ge) with ⟨g, h1, h2, h3⟩ | ⟨h1, h2⟩
  · have hb : bsB e.grants u = true := by unfold bsB; rw [h1]; simp [h2]
    have hl := (List.getElem?_eq_some_iff.1 h1).1
    rw [hb, if_neg (by simp), h3]
    refine ⟨by omega, fun a ha => ?_⟩
    rw [Int.toNat_natCast, h1] at ha
    cases ha
    rfl
  · have hb : bsB e.grants u = false := by
      unfold bsB
      split
      · rename_i g hg; simp [h1 g hg]
      · rfl
    rw [hb, if_pos (by rfl), h2]
    rfl
def sDefault : List UInt8 := [42, 100, 101, 102, 97, 117, 108, 116]
/-- the level that a power event gives -/
def levelBy (gs : List Grant) (u : List UInt8) : Int := match grantL gs u with
  | some g => g.level
  | none => match grantL gs sDefault with
    | some g => g.level
    | none => 0
theorem l5ByGrants (gs : List Grant) (u : List UInt8) : Con P0 135 [eGrantS gs, .s u] (.t (.i .i64 (levelBy gs u))) [] := by
  refine Con.intro (fn := Try.f135) [.tmp 4] (fun _ => (0, [])) mixed (by kernel_rfl) rfl (by decide) rfl (by rfl) (by kernel_rfl) ?_
  simp -implicitDefEqProofs (maxSteps := 2000000) only [push_cast, Nat.reduceEqDiff, Nat.reduceLT, Nat.reduceLeDiff, Nat.reduceAdd, Nat.reduceMul, Nat.reduceSub, Nat.reduceBEq, ↓reduceIte, reduceCtorEq]
  refine Callx.closed (l5Grant gs u) rfl rfl (.inl rfl) ?_
  unfold levelBy
  cases h : grantL gs u with
  | some g =>
    simp -implicitDefEqProofs (maxSteps := 2000000) only [push_cast, Nat.reduceEqDiff, Nat.reduceLT, Nat.reduceLeDiff, Nat.reduceAdd, Nat.reduceMul, Nat.reduceSub, Nat.reduceBEq, ↓reduceIte, reduceCtorEq, grT]
  | none =>
    simp -implicitDefEqProofs (maxSteps := 2000000) only [push_cast, Nat.reduceEqDiff, Nat.reduceLT, Nat.reduceLeDiff, Nat.reduceAdd, Nat.reduceMul, Nat.reduceSub, Nat.reduceBEq, ↓reduceIte, reduceCtorEq, grT]
    refine Callx.closed (l5Grant gs sDefault) rfl rfl (.inl rfl) ?_
    cases h : grantL gs sDefault with
    | some g =>
      simp -implicitDefEqProofs (maxSteps := 2000000) only [push_cast, Nat.reduceEqDiff, Nat.reduceLT, Nat.reduceLeDiff, Nat.reduceAdd, Nat.reduceMul, Nat.reduceSub, Nat.reduceBEq, ↓reduceIte, reduceCtorEq, grT]
    | none =>
      simp -implicitDefEqProofs (maxSteps := 2000000) only [push_cast, Nat.reduceEqDiff, Nat.reduceLT, Nat.reduceLeDiff, Nat.reduceAdd, Nat.reduceMul, Nat.reduceSub, Nat.reduceBEq, ↓reduceIte, reduceCtorEq, grT]
theorem implLevelBy (e : Event) (u : List UInt8) (ho : GOrd e.grants) (hB : Bd.B ≤ 2147483648) : Con P0 138 [.po (eEvent e) 0, .s u] (.t (.i .i64 (levelBy e.grants u))) [] := by
  refine Con.intro (fn := Try.f138) [.tmp 4] (fun _ => (0, [])) mixed (by kernel_rfl) rfl (by decide) rfl (by rfl) (by kernel_rfl) ?_
  simp -implicitDefEqProofs (maxSteps := 2000000) only [push_cast, Nat.reduceEqDiff, Nat.reduceLT, Nat.reduceLeDiff, Nat.reduceAdd, Nat.reduceMul, Nat.reduceSub, Nat.reduceBEq, ↓reduceIte, reduceCtorEq]
  refine Callx.closed (grantOf e u ho hB) rfl rfl (.inl rfl) ?_
  unfold levelBy
  cases h : grantL e.grants u with
  | some g =>
    simp -implicitDefEqProofs (maxSteps := 2000000) only [push_cast, Nat.reduceEqDiff, Nat.reduceLT, Nat.reduceLeDiff, Nat.reduceAdd, Nat.reduceMul, Nat.reduceSub, Nat.reduceBEq, ↓reduceIte, reduceCtorEq, grT]
  | none =>
    simp -implicitDefEqProofs (maxSteps := 2000000) only [push_cast, Nat.reduceEqDiff, Nat.reduceLT, Nat.reduceLeDiff, Nat.reduceAdd, Nat.reduceMul, Nat.reduceSub, Nat.reduceBEq, ↓reduceIte, reduceCtorEq, grT]
    refine Callx.closed (grantOf e sDefault ho hB) rfl rfl (.inl rfl) ?_
    cases h : grantL e.grants sDefault with
    | some g =>
      simp -implicitDefEqProofs (maxSteps := 2000000) only [push_cast, Nat.reduceEqDiff, Nat.reduceLT, Nat.reduceLeDiff, Nat.reduceAdd, Nat.reduceMul, Nat.reduceSub, Nat.reduceBEq, ↓reduceIte, reduceCtorEq, grT]
    | none =>
      simp -implicitDefEqProofs (maxSteps := 2000000) only [push_cast, Nat.reduceEqDiff, Nat.reduceLT, Nat.reduceLeDiff, Nat.reduceAdd, Nat.reduceMul, Nat.reduceSub, Nat.reduceBEq, ↓reduceIte, reduceCtorEq, grT]
end Go.Proofs.Ytkgoglapagmapaa.BX
