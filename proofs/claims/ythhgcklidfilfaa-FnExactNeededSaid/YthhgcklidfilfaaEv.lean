/-
  'EventOk', the document's and the program's.
-/
import Derived.Test.YthhgcklidfilfaaWd
import Derived.Test.YthhgcklidfilfaaTo
import Derived.Test.YthhgcklidfilfaaSz
import Derived.Test.YthhgcklidfilfaaLa
namespace Go.Proofs.Ythhgcklidfilfaa.BX
set_option linter.unusedSectionVars false
set_option linter.unusedSimpArgs false
set_option linter.unusedVariables false
open Go Go.RowKit
set_option maxRecDepth 20000
set_option maxHeartbeats 400000

def sCreate : List UInt8 := [99, 114, 101, 97, 116, 101]
def sMember : List UInt8 := [109, 101, 109, 98, 101, 114]
def sRules : List UInt8 := [106, 111, 105, 110, 95, 114, 117, 108, 101, 115]
def sPower : List UInt8 := [112, 111, 119, 101, 114]
def sJoin : List UInt8 := [106, 111, 105, 110]
def sInvite : List UInt8 := [105, 110, 118, 105, 116, 101]
def sLeave : List UInt8 := [108, 101, 97, 118, 101]
def sBan : List UInt8 := [98, 97, 110]
def sPublic : List UInt8 := [112, 117, 98, 108, 105, 99]
/-- a list of references is right -/
def refsB (xs : List (List UInt8)) (own : List UInt8) : Bool := decide ((xs.length : Int) ≤ 10) && (decide (∀ x ∈ xs, isW x = true ∧ x ≠ own) && decide xs.Nodup)
def nameB : List UInt8 → Bool
  | [] => isW []
  | c :: r => if (c.toNat : Int) = 42 ∨ (c.toNat : Int) = 35 then isW r else isW (c :: r)
def grantB (g : Grant) : Bool := nameB g.name && (decide (-1000000 ≤ g.level) && decide (g.level ≤ 1000000))
open Classical in
noncomputable def grantsB (gs : List Grant) : Bool := decide ((gs.length : Int) ≤ 50) && (decide (∀ g ∈ gs, grantB g = true) && decide (∀ (i : Nat) (a b : Grant), gs[i]? = some a → gs[i + 1]? = some b → Op.bytesLess a.name b.name = true))
noncomputable def contentB (e : Event) : Bool :=
  if e.typ = sCreate then (e.isState && decide (e.key = [])) && decide ((e.grants.length : Int) = 0) && decide ((e.prev.length : Int) = 0) && decide ((e.auth.length : Int) = 0) && decide (e.value = [])
  else if e.typ = sMember then e.isState && decide (¬ e.key = []) && decide ((e.grants.length : Int) = 0) && decide (e.value ∈ [sJoin, sInvite, sLeave, sBan])
  else if e.typ = sRules then (e.isState && decide (e.key = [])) && decide ((e.grants.length : Int) = 0) && decide (e.value ∈ [sPublic, sInvite])
  else if e.typ = sPower then (e.isState && decide (e.key = [])) && decide (e.value = []) && grantsB e.grants
  else decide ((e.grants.length : Int) = 0) && (decide (e.value = []) || isW e.value)
noncomputable def ev5 (e : Event) : Int := if ¬ contentB e = true then 5 else 0
noncomputable def ev4 (e : Event) : Int := if ¬ (refsB e.prev e.id = true ∧ refsB e.auth e.id = true) then 4 else ev5 e
noncomputable def ev3 (e : Event) : Int := if e.time < 0 ∨ 1000000000000 < e.time then 3 else ev4 e
noncomputable def ev2 (e : Event) : Int := if ¬ e.key = [] ∧ ¬ (e.isState = true ∧ isW e.key = true) then 2 else ev3 e
noncomputable def evOk (e : Event) : Int := if ¬ (isW e.id = true ∧ isW e.sender = true ∧ isW e.typ = true) then 1 else ev2 e
theorem nodup_snoc {α : Type} {s : List α} {i : Nat} {a : α} (ha : s[i]? = some a) : (s.take (i + 1)).Nodup ↔ (s.take i).Nodup ∧ a ∉ s.take i := by
  rw [List.take_add_one, ha, Option.toList_some, List.nodup_append]
  refine ⟨fun h => ⟨h.1, fun hm => h.2.2 a hm a (by simp) rfl⟩, fun h => ⟨h.1, by simp, fun x hx y hy => ?_⟩⟩
  simp only [List.mem_singleton] at hy
  subst hy
  rintro rfl
  exact h.2 hx
theorem refsB_no1 {xs : List (List UInt8)} {own a : List UInt8} (ha : a ∈ xs) (h : ¬ (isW a = true ∧ a ≠ own)) : refsB xs own = false := by
  unfold refsB
  rw [decide_eq_false (p := ∀ x ∈ xs, isW x = true ∧ x ≠ own) (fun hh => h (hh a ha))]
  simp
theorem refsB_no2 {xs : List (List UInt8)} {own a : List UInt8} {i : Nat} (ha : xs[i]? = some a) (h : a ∈ xs.take i) : refsB xs own = false := by
  unfold refsB
  rw [decide_eq_false (p := xs.Nodup) (fun hh => ?_)]
  · simp
  · have := (nodup_snoc ha).1 (hh.sublist (List.take_sublist _ _))
    exact this.2 h
theorem grantsB_no1 {gs : List Grant} {g : Grant} (hg : g ∈ gs) (h : ¬ grantB g = true) : grantsB gs = false := by
  unfold grantsB
  rw [decide_eq_false (p := ∀ g ∈ gs, grantB g = true) (fun hh => h (hh g hg))]
  simp
theorem grantsB_no2 {gs : List Grant} {j : Nat} {a b : Grant} (ha : gs[j]? = some a) (hb : gs[j + 1]? = some b) (h : Op.bytesLess a.name b.name = false) : grantsB gs = false := by
  unfold grantsB
  rw [@decide_eq_false _ (Classical.propDecidable _) (fun hh : ∀ (i : Nat) (a b : Grant), gs[i]? = some a → gs[i + 1]? = some b → Op.bytesLess a.name b.name = true => by rw [hh j a b ha hb] at h; cases h)]
  simp
theorem grantsB_no3 {gs : List Grant} (h : 50 < (gs.length : Int)) : grantsB gs = false := by
  unfold grantsB
  rw [decide_eq_false (p := (gs.length : Int) ≤ 50) (by omega)]; rfl
theorem grantsB_yes {gs : List Grant} (h1 : ∀ g ∈ gs, grantB g = true) (h2 : ∀ (i : Nat) (a b : Grant), gs[i]? = some a → gs[i + 1]? = some b → Op.bytesLess a.name b.name = true) : grantsB gs = decide ((gs.length : Int) ≤ 50) := by
  unfold grantsB
  rw [decide_eq_true h1, @decide_eq_true _ (Classical.propDecidable _) h2, Bool.and_self, Bool.and_true]
theorem less_snoc {gs : List Grant} {i : Nat} {b : Grant} (hb : gs[i]? = some b) (hc : ∀ (j : Nat) (x y : Grant), j + 1 < i → gs[j]? = some x → gs[j + 1]? = some y → Op.bytesLess x.name y.name = true) (h : 0 < i → ∀ a, gs[i - 1]? = some a → Op.bytesLess a.name b.name = true) :
    ∀ (j : Nat) (x y : Grant), j + 1 < i + 1 → gs[j]? = some x → gs[j + 1]? = some y → Op.bytesLess x.name y.name = true := by
  intro j x y hj hx hy
  rcases Nat.lt_or_ge (j + 1) i with h' | h'
  · exact hc j x y h' hx hy
  · have : i = j + 1 := by omega
    subst this
    rw [hb] at hy
    cases hy
    exact h (by omega) x hx
theorem toNat_pred {i : Nat} : ((i : Int) - 1).toNat = i - 1 := by omega
variable [Bd]
theorem l1Has (xs : List (List UInt8)) (s : List UInt8) : Con P0 163 [eStringS xs, .s s] (.t (.b (decide (s ∈ xs)))) [] := by
  refine Con.intro (fn := Try.f163) [.tmp 4] (fun _ => (0, [])) mixed (by kernel_rfl) rfl (by decide) rfl (by rfl) (by kernel_rfl) ?_
  simp -implicitDefEqProofs (maxSteps := 2000000) only [push_cast, Nat.reduceEqDiff, Nat.reduceLT, Nat.reduceLeDiff, Nat.reduceAdd, Nat.reduceMul, Nat.reduceSub, Nat.reduceBEq, ↓reduceIte, reduceCtorEq]
  refine WL.loop (ι := Nat) (D := (fun _ => (0, []))) (fun i => i ≤ xs.length ∧ ∀ c ∈ xs.take i, c ≠ s) (fun i => ⟨18, [(0, .t (eStringS xs)), (1, .t (.s s)), (5, .t (.i .i64 i))], []⟩) (fun i => xs.length - i) mixed (by kernel_rfl) 0 ⟨by omega, by simp⟩ (Keep.wk (ids := []) ?_) ?_
  · simp only [push_cast, Nat.reduceEqDiff, Nat.reduceLT, Nat.reduceLeDiff, Nat.reduceAdd, Nat.reduceMul, Nat.reduceSub, Nat.reduceBEq, ↓reduceIte, reduceCtorEq] <;> rfl
  · rintro i ⟨hi, hc⟩
    simp -implicitDefEqProofs (maxSteps := 2000000) only [push_cast, Nat.reduceEqDiff, Nat.reduceLT, Nat.reduceLeDiff, Nat.reduceAdd, Nat.reduceMul, Nat.reduceSub, Nat.reduceBEq, ↓reduceIte, reduceCtorEq]
    intro _
    have := Bd.hi
    split
    · rename_i h
      refine ⟨by omega, fun a ha => ?_⟩
      rw [Int.toNat_natCast] at ha
      split
      · rename_i he
        exact congrArg T.b (decide_eq_true (he ▸ List.mem_of_getElem? ha)).symm
      · rename_i he
        refine ⟨by unfold inI64; omega, i + 1, ⟨by omega, take_snoc ha hc he⟩, by omega, Keep.wk (ids := []) ?_⟩
        simp only [push_cast, Nat.reduceEqDiff, Nat.reduceLT, Nat.reduceLeDiff, Nat.reduceAdd, Nat.reduceMul, Nat.reduceSub, Nat.reduceBEq, ↓reduceIte, reduceCtorEq] <;> rfl
    · rw [List.take_of_length_le (by omega)] at hc
      exact congrArg T.b (decide_eq_false fun hm => hc s hm rfl).symm
theorem l1RefsOk (xs : List (List UInt8)) (own : List UInt8) : Con P0 161 [eStringS xs, .s own] (.t (.b (refsB xs own))) [] := by
  refine Con.intro (fn := Try.f161) [.tmp 4] (fun i => if i = 6 then (24, []) else (0, [])) mixed (by kernel_rfl) rfl (by decide) rfl (by rfl) (by kernel_rfl) ?_
  simp -implicitDefEqProofs (maxSteps := 2000000) only [push_cast, Nat.reduceEqDiff, Nat.reduceLT, Nat.reduceLeDiff, Nat.reduceAdd, Nat.reduceMul, Nat.reduceSub, Nat.reduceBEq, ↓reduceIte, reduceCtorEq]
  intro _
  refine iteI (fun h => ?_) (fun h => ?_)
  · refine congrArg T.b ?_
    unfold refsB
    rw [decide_eq_false (by omega)]; rfl
  refine WL.loop (ι := Nat) (D := (fun i => if i = 6 then (24, []) else (0, []))) (fun i => i ≤ xs.length ∧ (∀ x ∈ xs.take i, isW x = true ∧ x ≠ own) ∧ (xs.take i).Nodup) (fun i => ⟨39, [(0, .t (eStringS xs)), (1, .t (.s own)), (5, .t (.i .i64 i))], []⟩) (fun i => xs.length - i) mixed (by kernel_rfl) 0 ⟨by omega, by simp, by simp⟩ (Keep.wk (ids := []) ?_) ?_
  · simp only [push_cast, Nat.reduceEqDiff, Nat.reduceLT, Nat.reduceLeDiff, Nat.reduceAdd, Nat.reduceMul, Nat.reduceSub, Nat.reduceBEq, ↓reduceIte, reduceCtorEq] <;> rfl
  · rintro i ⟨hi, hc, hn⟩
    simp -implicitDefEqProofs (maxSteps := 2000000) only [push_cast, Nat.reduceEqDiff, Nat.reduceLT, Nat.reduceLeDiff, Nat.reduceAdd, Nat.reduceMul, Nat.reduceSub, Nat.reduceBEq, ↓reduceIte, reduceCtorEq]
    intro _
    have := Bd.hi
    refine iteI (fun h => ?_) (fun h => ?_)
    · refine ⟨by omega, fun a ha => CallV.t (l1Word a) (.inl rfl) ?_⟩
      rw [Int.toNat_natCast] at ha
      simp -implicitDefEqProofs (maxSteps := 2000000) only [push_cast, Nat.reduceEqDiff, Nat.reduceLT, Nat.reduceLeDiff, Nat.reduceAdd, Nat.reduceMul, Nat.reduceSub, Nat.reduceBEq, ↓reduceIte, reduceCtorEq]
      have he : (Int.toNat 0) = 0 := rfl
      rw [he, List.drop_zero, Int.toNat_natCast, ← List.map_take]
      have no : ∀ {b : Bool}, b = false → T.b false = T.b b := fun h => congrArg T.b h.symm
      refine iteI (fun h1 => ?_) (fun h1 => ?_)
      · exact no (refsB_no1 (List.mem_of_getElem? ha) (by simp_all))
      refine ⟨by omega, fun a' ha' => ?_⟩
      rw [ha] at ha'; cases ha'
      refine iteI (fun h2 => ?_) (fun h2 => ?_)
      · exact no (refsB_no1 (List.mem_of_getElem? ha) (by simp_all))
      refine ⟨by omega, by omega, fun a' ha' => CallV.t (l1Has (xs.take i) a') (.inl rfl) ?_⟩
      rw [ha] at ha'; cases ha'
      simp -implicitDefEqProofs (maxSteps := 2000000) only [push_cast, Nat.reduceEqDiff, Nat.reduceLT, Nat.reduceLeDiff, Nat.reduceAdd, Nat.reduceMul, Nat.reduceSub, Nat.reduceBEq, ↓reduceIte, reduceCtorEq]
      refine iteI (fun h3 => ?_) (fun h3 => ?_)
      · exact no (refsB_no2 ha h3)
      refine ⟨by unfold inI64; omega, i + 1, ⟨by omega, take_snoc ha hc ⟨by simpa using h1, h2⟩, (nodup_snoc ha).2 ⟨hn, h3⟩⟩, by omega, Keep.wk (ids := []) ?_⟩
      simp only [push_cast, Nat.reduceEqDiff, Nat.reduceLT, Nat.reduceLeDiff, Nat.reduceAdd, Nat.reduceMul, Nat.reduceSub, Nat.reduceBEq, ↓reduceIte, reduceCtorEq] <;> rfl
    · rw [List.take_of_length_le (by omega)] at hc hn
      refine congrArg T.b ?_
      unfold refsB
      rw [decide_eq_true (p := ((xs.length : Int) ≤ 10)) (by omega), decide_eq_true hc, decide_eq_true hn]; rfl
theorem refsOk (xs : List (List UInt8)) (own : List UInt8) : Con P0 166 [eStringS xs, .s own] (.t (.b (refsB xs own))) [] := by
  refine Con.intro (fn := Try.f166) [.tmp 4] (fun _ => (0, [])) mixed (by kernel_rfl) rfl (by decide) rfl (by rfl) (by kernel_rfl) ?_
  simp -implicitDefEqProofs (maxSteps := 2000000) only [push_cast, Nat.reduceEqDiff, Nat.reduceLT, Nat.reduceLeDiff, Nat.reduceAdd, Nat.reduceMul, Nat.reduceSub, Nat.reduceBEq, ↓reduceIte, reduceCtorEq]
  intro _
  refine iteI (fun h => ?_) (fun h => ?_)
  · refine congrArg T.b ?_
    unfold refsB
    rw [decide_eq_false (by omega)]; rfl
  intro _
  refine WL.loop (ι := Nat) (D := (fun _ => (0, []))) (fun i => i ≤ xs.length ∧ (∀ x ∈ xs.take i, isW x = true ∧ x ≠ own) ∧ (xs.take i).Nodup) (fun i => ⟨40, [(0, .t (eStringS xs)), (1, .t (.s own)), (12, .t (eStringS xs)), (13, .t (.i .i64 xs.length)), (14, .t (.i .i64 i))], []⟩) (fun i => xs.length - i) mixed (by kernel_rfl) 0 ⟨by omega, by simp, by simp⟩ (Keep.wk (ids := []) ?_) ?_
  · simp only [push_cast, Nat.reduceEqDiff, Nat.reduceLT, Nat.reduceLeDiff, Nat.reduceAdd, Nat.reduceMul, Nat.reduceSub, Nat.reduceBEq, ↓reduceIte, reduceCtorEq] <;> rfl
  · rintro i ⟨hi, hc, hn⟩
    simp -implicitDefEqProofs (maxSteps := 2000000) only [push_cast, Nat.reduceEqDiff, Nat.reduceLT, Nat.reduceLeDiff, Nat.reduceAdd, Nat.reduceMul, Nat.reduceSub, Nat.reduceBEq, ↓reduceIte, reduceCtorEq]
    have := Bd.hi
    refine iteI (fun h => ?_) (fun h => ?_)
    · refine ⟨by omega, fun a ha => Callx.closed (isWord a) rfl rfl (.inl rfl) ?_⟩
      rw [Int.toNat_natCast] at ha
      simp -implicitDefEqProofs (maxSteps := 2000000) only [push_cast, Nat.reduceEqDiff, Nat.reduceLT, Nat.reduceLeDiff, Nat.reduceAdd, Nat.reduceMul, Nat.reduceSub, Nat.reduceBEq, ↓reduceIte, reduceCtorEq]
      have no : ∀ {b : Bool}, b = false → T.b false = T.b b := fun h => congrArg T.b h.symm
      refine iteI (fun h1 => ?_) (fun h1 => ?_)
      · exact no (refsB_no1 (List.mem_of_getElem? ha) (by simp_all))
      refine iteI (fun h2 => ?_) (fun h2 => ?_)
      · exact no (refsB_no1 (List.mem_of_getElem? ha) (by simp_all))
      have he : (Int.toNat 0) = 0 := rfl
      rw [he, List.drop_zero, Int.toNat_natCast, ← List.map_take]
      refine ⟨by omega, fun _ => ?_⟩
      have hl : (xs.take i).length = i := by rw [List.length_take]; omega
      refine WL.loop (ι := Nat) (D := (fun _ => (0, []))) (fun j => j ≤ i ∧ ∀ c ∈ (xs.take i).take j, c ≠ a) (fun j => ⟨40, [(0, .t (eStringS xs)), (1, .t (.s own)), (12, .t (eStringS xs)), (13, .t (.i .i64 xs.length)), (14, .t (.i .i64 i)), (6, .t (.s a)), (29, .t (eStringS (xs.take i))), (30, .t (.i .i64 i)), (31, .t (.i .i64 j))], []⟩) (fun j => i - j) mixed (by kernel_rfl) 0 ⟨by omega, by simp⟩ (Keep.wk (ids := []) ?_) ?_
      · simp only [push_cast, Nat.reduceEqDiff, Nat.reduceLT, Nat.reduceLeDiff, Nat.reduceAdd, Nat.reduceMul, Nat.reduceSub, Nat.reduceBEq, ↓reduceIte, reduceCtorEq, List.length_map, hl] <;> first | rfl | trivial
      rintro j ⟨hj, hcj⟩
      simp -implicitDefEqProofs (maxSteps := 2000000) only [push_cast, Nat.reduceEqDiff, Nat.reduceLT, Nat.reduceLeDiff, Nat.reduceAdd, Nat.reduceMul, Nat.reduceSub, Nat.reduceBEq, ↓reduceIte, reduceCtorEq]
      refine iteI (fun h3 => ?_) (fun h3 => ?_)
      · refine ⟨by omega, fun b hb => ?_⟩
        rw [Int.toNat_natCast] at hb
        refine iteI (fun h4 => ?_) (fun h4 => ?_)
        · exact no (refsB_no2 ha (h4 ▸ List.mem_of_getElem? hb))
        refine ⟨by unfold inI64; omega, j + 1, ⟨by omega, take_snoc hb hcj fun e => h4 e.symm⟩, by omega, Keep.wk (ids := []) ?_⟩
        simp only [push_cast, Nat.reduceEqDiff, Nat.reduceLT, Nat.reduceLeDiff, Nat.reduceAdd, Nat.reduceMul, Nat.reduceSub, Nat.reduceBEq, ↓reduceIte, reduceCtorEq] <;> rfl
      · rw [List.take_of_length_le (by omega)] at hcj
        refine ⟨by unfold inI64; omega, i + 1, ⟨by omega, take_snoc ha hc ⟨by simpa using h1, h2⟩, (nodup_snoc ha).2 ⟨hn, fun hm => hcj a hm rfl⟩⟩, by omega, Keep.wk (ids := []) ?_⟩
        simp only [push_cast, Nat.reduceEqDiff, Nat.reduceLT, Nat.reduceLeDiff, Nat.reduceAdd, Nat.reduceMul, Nat.reduceSub, Nat.reduceBEq, ↓reduceIte, reduceCtorEq] <;> rfl
    · rw [List.take_of_length_le (by omega)] at hc hn
      refine congrArg T.b ?_
      unfold refsB
      rw [decide_eq_true (p := ((xs.length : Int) ≤ 10)) (by omega), decide_eq_true hc, decide_eq_true hn]; rfl
theorem l1NameOk (s : List UInt8) : Con P0 203 [.s s] (.t (.b (nameB s))) [] := by
  refine Con.intro (fn := Try.f203) [.tmp 2] (fun _ => (0, [])) mixed (by kernel_rfl) rfl (by decide) rfl (by rfl) (by kernel_rfl) ?_
  simp -implicitDefEqProofs (maxSteps := 2000000) only [push_cast, Nat.reduceEqDiff, Nat.reduceLT, Nat.reduceLeDiff, Nat.reduceAdd, Nat.reduceMul, Nat.reduceSub, Nat.reduceBEq, ↓reduceIte, reduceCtorEq]
  intro _
  refine iteI (fun h => ?_) (fun h => ?_)
  · refine ⟨by omega, fun c hc => ?_⟩
    obtain ⟨r, rfl⟩ : ∃ r, s = c :: r := by
      cases s with
      | nil => cases hc
      | cons d r => simp at hc; subst hc; exact ⟨r, rfl⟩
    simp -implicitDefEqProofs (maxSteps := 2000000) only [push_cast, Nat.reduceEqDiff, Nat.reduceLT, Nat.reduceLeDiff, Nat.reduceAdd, Nat.reduceMul, Nat.reduceSub, Nat.reduceBEq, ↓reduceIte, reduceCtorEq]
    have hd : List.drop (Int.toNat 1) (List.take (c :: r).length (c :: r)) = r := by simp
    refine iteI (fun h1 => ?_) (fun h1 => ?_)
    · refine ⟨by omega, ?_⟩
      refine Callx.closed (l1Word r) (by simp) rfl (.inl rfl) ?_
      simp -implicitDefEqProofs (maxSteps := 2000000) only [push_cast, Nat.reduceEqDiff, Nat.reduceLT, Nat.reduceLeDiff, Nat.reduceAdd, Nat.reduceMul, Nat.reduceSub, Nat.reduceBEq, ↓reduceIte, reduceCtorEq]
      exact congrArg T.b (Eq.symm (if_pos (.inl h1)))
    · refine ⟨by omega, fun c' hc' => ?_⟩
      simp at hc'
      subst hc'
      simp -implicitDefEqProofs (maxSteps := 2000000) only [push_cast, Nat.reduceEqDiff, Nat.reduceLT, Nat.reduceLeDiff, Nat.reduceAdd, Nat.reduceMul, Nat.reduceSub, Nat.reduceBEq, ↓reduceIte, reduceCtorEq]
      refine iteI (fun h2 => ?_) (fun h2 => ?_)
      · refine ⟨by omega, ?_⟩
        refine Callx.closed (l1Word r) (by simp) rfl (.inl rfl) ?_
        simp -implicitDefEqProofs (maxSteps := 2000000) only [push_cast, Nat.reduceEqDiff, Nat.reduceLT, Nat.reduceLeDiff, Nat.reduceAdd, Nat.reduceMul, Nat.reduceSub, Nat.reduceBEq, ↓reduceIte, reduceCtorEq]
        exact congrArg T.b (Eq.symm (if_pos (.inr h2)))
      · refine Callx.closed (l1Word (c :: r)) rfl rfl (.inl rfl) ?_
        simp -implicitDefEqProofs (maxSteps := 2000000) only [push_cast, Nat.reduceEqDiff, Nat.reduceLT, Nat.reduceLeDiff, Nat.reduceAdd, Nat.reduceMul, Nat.reduceSub, Nat.reduceBEq, ↓reduceIte, reduceCtorEq]
        exact congrArg T.b (Eq.symm (if_neg (by omega)))
  · have hs : s = [] := by
      cases s with
      | nil => rfl
      | cons d r => exact absurd (by simp only [List.length_cons]; omega) h
    subst hs
    refine Callx.closed (l1Word []) rfl rfl (.inl rfl) ?_
    simp -implicitDefEqProofs (maxSteps := 2000000) only [push_cast, Nat.reduceEqDiff, Nat.reduceLT, Nat.reduceLeDiff, Nat.reduceAdd, Nat.reduceMul, Nat.reduceSub, Nat.reduceBEq, ↓reduceIte, reduceCtorEq]
    rfl
theorem l1GrantsOk (gs : List Grant) : Con P0 181 [eGrantS gs] (.t (.b (grantsB gs))) [] := by
  refine Con.intro (fn := Try.f181) [.tmp 2] (fun i => if i = 6 then (16, []) else (0, [])) mixed (by kernel_rfl) rfl (by decide) rfl (by rfl) (by kernel_rfl) ?_
  simp -implicitDefEqProofs (maxSteps := 2000000) only [push_cast, Nat.reduceEqDiff, Nat.reduceLT, Nat.reduceLeDiff, Nat.reduceAdd, Nat.reduceMul, Nat.reduceSub, Nat.reduceBEq, ↓reduceIte, reduceCtorEq]
  have no : ∀ {b : Bool}, b = false → T.b false = T.b b := fun h => congrArg T.b h.symm
  refine WL.loop (ι := Nat) (D := (fun i => if i = 6 then (16, []) else (0, []))) (fun i => i ≤ gs.length ∧ (∀ g ∈ gs.take i, grantB g = true) ∧ ∀ (j : Nat) (x y : Grant), j + 1 < i → gs[j]? = some x → gs[j + 1]? = some y → Op.bytesLess x.name y.name = true) (fun i => ⟨52, [(0, .t (eGrantS gs)), (3, .t (.i .i64 i))], []⟩) (fun i => gs.length - i) mixed (by kernel_rfl) 0 ⟨by omega, by simp, fun j x y hj => absurd hj (by omega)⟩ (Keep.wk (ids := []) ?_) ?_
  · simp only [push_cast, Nat.reduceEqDiff, Nat.reduceLT, Nat.reduceLeDiff, Nat.reduceAdd, Nat.reduceMul, Nat.reduceSub, Nat.reduceBEq, ↓reduceIte, reduceCtorEq] <;> rfl
  · rintro i ⟨hi, hc, ho⟩
    simp -implicitDefEqProofs (maxSteps := 2000000) only [push_cast, Nat.reduceEqDiff, Nat.reduceLT, Nat.reduceLeDiff, Nat.reduceAdd, Nat.reduceMul, Nat.reduceSub, Nat.reduceBEq, ↓reduceIte, reduceCtorEq, eGrant]
    intro _
    have := Bd.hi
    refine iteI (fun h => ?_) (fun h => ?_)
    · refine ⟨by omega, fun a ha => Callx.closed (l1NameOk a.name) rfl rfl (.inl rfl) ?_⟩
      rw [Int.toNat_natCast] at ha
      simp -implicitDefEqProofs (maxSteps := 2000000) only [push_cast, Nat.reduceEqDiff, Nat.reduceLT, Nat.reduceLeDiff, Nat.reduceAdd, Nat.reduceMul, Nat.reduceSub, Nat.reduceBEq, ↓reduceIte, reduceCtorEq, eGrant]
      have bad : ¬ grantB a = true → grantsB gs = false := fun h => grantsB_no1 (List.mem_of_getElem? ha) h
      refine iteI (fun h1 => no (bad ?_)) (fun h1 => ⟨by omega, fun a' ha' => ?_⟩)
      · unfold grantB; simp only [Bool.not_eq_true'] at h1; rw [h1]; simp
      rw [Int.toNat_natCast, ha] at ha'; cases ha'
      refine iteI (fun h2 => no (bad ?_)) (fun h2 => ⟨by omega, fun a' ha' => ?_⟩)
      · unfold grantB; rw [decide_eq_false (p := -1000000 ≤ a.level) (by omega)]; simp
      rw [Int.toNat_natCast, ha] at ha'; cases ha'
      refine iteI (fun h3 => no (bad ?_)) (fun h3 => ?_)
      · unfold grantB; rw [decide_eq_false (p := a.level ≤ 1000000) (by omega)]; simp
      have good : grantB a = true := by
        unfold grantB
        rw [decide_eq_true (p := -1000000 ≤ a.level) (by omega), decide_eq_true (p := a.level ≤ 1000000) (by omega)]
        simpa using h1
      refine iteI (fun h4 => ⟨by unfold inI64; omega, by omega, fun b hb => ⟨by omega, fun a' ha' => ?_⟩⟩) (fun h4 => ?_)
      · rw [Int.toNat_natCast, ha] at ha'; cases ha'
        rw [toNat_pred] at hb
        cases hl : Op.bytesLess b.name a.name with
        | false =>
          refine no (grantsB_no2 hb (by rw [show i - 1 + 1 = i by omega]; exact ha) hl)
        | true =>
          simp only [Bool.not_true, Bool.false_eq_true, if_false]
          refine ⟨by unfold inI64; omega, i + 1, ⟨by omega, take_snoc ha hc good, less_snoc ha ho fun _ x hx => by rw [hb] at hx; cases hx; exact hl⟩, by omega, Keep.wk (ids := []) ?_⟩
          simp only [push_cast, Nat.reduceEqDiff, Nat.reduceLT, Nat.reduceLeDiff, Nat.reduceAdd, Nat.reduceMul, Nat.reduceSub, Nat.reduceBEq, ↓reduceIte, reduceCtorEq] <;> rfl
      · refine ⟨by unfold inI64; omega, i + 1, ⟨by omega, take_snoc ha hc good, less_snoc ha ho fun h0 => absurd h0 (by omega)⟩, by omega, Keep.wk (ids := []) ?_⟩
        simp only [push_cast, Nat.reduceEqDiff, Nat.reduceLT, Nat.reduceLeDiff, Nat.reduceAdd, Nat.reduceMul, Nat.reduceSub, Nat.reduceBEq, ↓reduceIte, reduceCtorEq] <;> rfl
    · rw [List.take_of_length_le (by omega)] at hc
      intro _
      exact congrArg T.b (grantsB_yes hc fun j x y hx hy => ho j x y (by have := (List.getElem?_eq_some_iff.1 hy).1; omega) hx hy).symm
theorem grantsOk (gs : List Grant) : Con P0 252 [eGrantS gs] (.t (.b (grantsB gs))) [] := by
  refine Con.intro (fn := Try.f252) [.tmp 2] (fun i => if i = 9 then (28, []) else (0, [])) mixed (by kernel_rfl) rfl (by decide) rfl (by rfl) (by kernel_rfl) ?_
  simp -implicitDefEqProofs (maxSteps := 2000000) only [push_cast, Nat.reduceEqDiff, Nat.reduceLT, Nat.reduceLeDiff, Nat.reduceAdd, Nat.reduceMul, Nat.reduceSub, Nat.reduceBEq, ↓reduceIte, reduceCtorEq]
  have no : ∀ {b : Bool}, b = false → T.b false = T.b b := fun h => congrArg T.b h.symm
  intro _
  refine iteI (fun h => no (grantsB_no3 h)) (fun h => ?_)
  intro _
  refine WL.loop (ι := Nat) (D := (fun i => if i = 9 then (28, []) else (0, []))) (fun i => i ≤ gs.length ∧ (∀ g ∈ gs.take i, grantB g = true) ∧ ∀ (j : Nat) (x y : Grant), j + 1 < i → gs[j]? = some x → gs[j + 1]? = some y → Op.bytesLess x.name y.name = true) (fun i => ⟨61, [(0, .t (eGrantS gs)), (9, .t (eGrantS gs)), (10, .t (.i .i64 gs.length)), (11, .t (.i .i64 i))], []⟩) (fun i => gs.length - i) mixed (by kernel_rfl) 0 ⟨by omega, by simp, fun j x y hj => absurd hj (by omega)⟩ (Keep.wk (ids := []) ?_) ?_
  · simp only [push_cast, Nat.reduceEqDiff, Nat.reduceLT, Nat.reduceLeDiff, Nat.reduceAdd, Nat.reduceMul, Nat.reduceSub, Nat.reduceBEq, ↓reduceIte, reduceCtorEq] <;> rfl
  · rintro i ⟨hi, hc, ho⟩
    simp -implicitDefEqProofs (maxSteps := 2000000) only [push_cast, Nat.reduceEqDiff, Nat.reduceLT, Nat.reduceLeDiff, Nat.reduceAdd, Nat.reduceMul, Nat.reduceSub, Nat.reduceBEq, ↓reduceIte, reduceCtorEq, eGrant]
    have := Bd.hi
    refine iteI (fun h => ?_) (fun h => ?_)
    · refine ⟨by omega, fun a ha => ?_⟩
      rw [Int.toNat_natCast] at ha
      have bad : ¬ grantB a = true → grantsB gs = false := fun h => grantsB_no1 (List.mem_of_getElem? ha) h
      obtain ⟨nm, lv⟩ := a
      have mk : nameB nm = true → ¬ lv < -1000000 → ¬ 1000000 < lv → grantB ⟨nm, lv⟩ = true := by
        intro q1 q2 q3
        unfold grantB
        rw [q1, decide_eq_true (p := -1000000 ≤ lv) (by omega), decide_eq_true (p := lv ≤ 1000000) (by omega)]; rfl
      cases nm with
      | nil =>
        simp -implicitDefEqProofs (maxSteps := 2000000) only [push_cast, Nat.reduceEqDiff, Nat.reduceLT, Nat.reduceLeDiff, Nat.reduceAdd, Nat.reduceMul, Nat.reduceSub, Nat.reduceBEq, ↓reduceIte, reduceCtorEq, eGrant]
        refine CallV.t (isWord []) (.inl rfl) ?_
        simp -implicitDefEqProofs (maxSteps := 2000000) only [push_cast, Nat.reduceEqDiff, Nat.reduceLT, Nat.reduceLeDiff, Nat.reduceAdd, Nat.reduceMul, Nat.reduceSub, Nat.reduceBEq, ↓reduceIte, reduceCtorEq]
        refine iteI (fun h1 => no (bad ?_)) (fun h1 => absurd rfl h1)
        unfold grantB nameB isW
        simp
      | cons c r =>
      simp -implicitDefEqProofs (maxSteps := 2000000) only [push_cast, Nat.reduceEqDiff, Nat.reduceLT, Nat.reduceLeDiff, Nat.reduceAdd, Nat.reduceMul, Nat.reduceSub, Nat.reduceBEq, ↓reduceIte, reduceCtorEq, eGrant]
      refine ⟨by omega, fun c' hc' => ?_⟩
      simp only [Int.toNat_zero, List.getElem?_cons_zero, Option.some.injEq] at hc'
      subst hc'
      simp -implicitDefEqProofs (maxSteps := 2000000) only [push_cast, Nat.reduceEqDiff, Nat.reduceLT, Nat.reduceLeDiff, Nat.reduceAdd, Nat.reduceMul, Nat.reduceSub, Nat.reduceBEq, ↓reduceIte, reduceCtorEq, eGrant]
      have hd : List.drop (Int.toNat 1) (List.take ((r.length : Int) + 1).toNat (c :: r)) = r := by
        rw [show ((r.length : Int) + 1).toNat = (c :: r).length by simp only [List.length_cons]; omega, List.take_length]; rfl
      refine iteI (fun k1 => ⟨by omega, ?_⟩) (fun k1 => ⟨by omega, fun c' hc' => ?_⟩)
      · rw [hd]
        have hw : isW r = nameB (c :: r) := (if_pos (.inl k1)).symm
        refine CallV.t (isWord r) (.inl rfl) ?_
        simp -implicitDefEqProofs (maxSteps := 2000000) only [push_cast, Nat.reduceEqDiff, Nat.reduceLT, Nat.reduceLeDiff, Nat.reduceAdd, Nat.reduceMul, Nat.reduceSub, Nat.reduceBEq, ↓reduceIte, reduceCtorEq, eGrant]
        rw [hw]
        refine iteI (fun h1 => no (bad ?_)) (fun h1 => ?_)
        · unfold grantB; simp only [Bool.not_eq_true'] at h1; rw [h1]; simp
        refine iteI (fun h2 => no (bad ?_)) (fun h2 => ?_)
        · unfold grantB; rw [decide_eq_false (p := -1000000 ≤ lv) (by omega)]; simp
        refine iteI (fun h3 => no (bad ?_)) (fun h3 => ?_)
        · unfold grantB; rw [decide_eq_false (p := lv ≤ 1000000) (by omega)]; simp
        have good := mk (by simpa using h1) h2 h3
        refine iteI (fun h4 => ⟨by unfold inI64; omega, by omega, fun b hb => ?_⟩) (fun h4 => ?_)
        · rw [toNat_pred] at hb
          cases hl : Op.bytesLess b.name (c :: r) with
          | false =>
            refine no (grantsB_no2 hb (by rw [show i - 1 + 1 = i by omega]; exact ha) hl)
          | true =>
            simp only [Bool.not_true, Bool.false_eq_true, if_false]
            refine ⟨by unfold inI64; omega, i + 1, ⟨by omega, take_snoc ha hc good, less_snoc ha ho fun _ x hx => by rw [hb] at hx; cases hx; exact hl⟩, by omega, Keep.wk (ids := []) ?_⟩
            simp only [push_cast, Nat.reduceEqDiff, Nat.reduceLT, Nat.reduceLeDiff, Nat.reduceAdd, Nat.reduceMul, Nat.reduceSub, Nat.reduceBEq, ↓reduceIte, reduceCtorEq] <;> rfl
        · refine ⟨by unfold inI64; omega, i + 1, ⟨by omega, take_snoc ha hc good, less_snoc ha ho fun h0 => absurd h0 (by omega)⟩, by omega, Keep.wk (ids := []) ?_⟩
          simp only [push_cast, Nat.reduceEqDiff, Nat.reduceLT, Nat.reduceLeDiff, Nat.reduceAdd, Nat.reduceMul, Nat.reduceSub, Nat.reduceBEq, ↓reduceIte, reduceCtorEq] <;> rfl

      simp only [Int.toNat_zero, List.getElem?_cons_zero, Option.some.injEq] at hc'
      subst hc'
      simp -implicitDefEqProofs (maxSteps := 2000000) only [push_cast, Nat.reduceEqDiff, Nat.reduceLT, Nat.reduceLeDiff, Nat.reduceAdd, Nat.reduceMul, Nat.reduceSub, Nat.reduceBEq, ↓reduceIte, reduceCtorEq, eGrant]
      refine iteI (fun k2 => ⟨by omega, ?_⟩) (fun k2 => ?_)
      · rw [hd]
        have hw : isW r = nameB (c :: r) := (if_pos (.inr k2)).symm
        refine CallV.t (isWord r) (.inl rfl) ?_
        simp -implicitDefEqProofs (maxSteps := 2000000) only [push_cast, Nat.reduceEqDiff, Nat.reduceLT, Nat.reduceLeDiff, Nat.reduceAdd, Nat.reduceMul, Nat.reduceSub, Nat.reduceBEq, ↓reduceIte, reduceCtorEq, eGrant]
        rw [hw]
        refine iteI (fun h1 => no (bad ?_)) (fun h1 => ?_)
        · unfold grantB; simp only [Bool.not_eq_true'] at h1; rw [h1]; simp
        refine iteI (fun h2 => no (bad ?_)) (fun h2 => ?_)
        · unfold grantB; rw [decide_eq_false (p := -1000000 ≤ lv) (by omega)]; simp
        refine iteI (fun h3 => no (bad ?_)) (fun h3 => ?_)
        · unfold grantB; rw [decide_eq_false (p := lv ≤ 1000000) (by omega)]; simp
        have good := mk (by simpa using h1) h2 h3
        refine iteI (fun h4 => ⟨by unfold inI64; omega, by omega, fun b hb => ?_⟩) (fun h4 => ?_)
        · rw [toNat_pred] at hb
          cases hl : Op.bytesLess b.name (c :: r) with
          | false =>
            refine no (grantsB_no2 hb (by rw [show i - 1 + 1 = i by omega]; exact ha) hl)
          | true =>
            simp only [Bool.not_true, Bool.false_eq_true, if_false]
            refine ⟨by unfold inI64; omega, i + 1, ⟨by omega, take_snoc ha hc good, less_snoc ha ho fun _ x hx => by rw [hb] at hx; cases hx; exact hl⟩, by omega, Keep.wk (ids := []) ?_⟩
            simp only [push_cast, Nat.reduceEqDiff, Nat.reduceLT, Nat.reduceLeDiff, Nat.reduceAdd, Nat.reduceMul, Nat.reduceSub, Nat.reduceBEq, ↓reduceIte, reduceCtorEq] <;> rfl
        · refine ⟨by unfold inI64; omega, i + 1, ⟨by omega, take_snoc ha hc good, less_snoc ha ho fun h0 => absurd h0 (by omega)⟩, by omega, Keep.wk (ids := []) ?_⟩
          simp only [push_cast, Nat.reduceEqDiff, Nat.reduceLT, Nat.reduceLeDiff, Nat.reduceAdd, Nat.reduceMul, Nat.reduceSub, Nat.reduceBEq, ↓reduceIte, reduceCtorEq] <;> rfl

      · have hw : isW (c :: r) = nameB (c :: r) := (if_neg (by omega)).symm
        refine CallV.t (isWord (c :: r)) (.inl rfl) ?_
        simp -implicitDefEqProofs (maxSteps := 2000000) only [push_cast, Nat.reduceEqDiff, Nat.reduceLT, Nat.reduceLeDiff, Nat.reduceAdd, Nat.reduceMul, Nat.reduceSub, Nat.reduceBEq, ↓reduceIte, reduceCtorEq, eGrant]
        rw [hw]
        refine iteI (fun h1 => no (bad ?_)) (fun h1 => ?_)
        · unfold grantB; simp only [Bool.not_eq_true'] at h1; rw [h1]; simp
        refine iteI (fun h2 => no (bad ?_)) (fun h2 => ?_)
        · unfold grantB; rw [decide_eq_false (p := -1000000 ≤ lv) (by omega)]; simp
        refine iteI (fun h3 => no (bad ?_)) (fun h3 => ?_)
        · unfold grantB; rw [decide_eq_false (p := lv ≤ 1000000) (by omega)]; simp
        have good := mk (by simpa using h1) h2 h3
        refine iteI (fun h4 => ⟨by unfold inI64; omega, by omega, fun b hb => ?_⟩) (fun h4 => ?_)
        · rw [toNat_pred] at hb
          cases hl : Op.bytesLess b.name (c :: r) with
          | false =>
            refine no (grantsB_no2 hb (by rw [show i - 1 + 1 = i by omega]; exact ha) hl)
          | true =>
            simp only [Bool.not_true, Bool.false_eq_true, if_false]
            refine ⟨by unfold inI64; omega, i + 1, ⟨by omega, take_snoc ha hc good, less_snoc ha ho fun _ x hx => by rw [hb] at hx; cases hx; exact hl⟩, by omega, Keep.wk (ids := []) ?_⟩
            simp only [push_cast, Nat.reduceEqDiff, Nat.reduceLT, Nat.reduceLeDiff, Nat.reduceAdd, Nat.reduceMul, Nat.reduceSub, Nat.reduceBEq, ↓reduceIte, reduceCtorEq] <;> rfl
        · refine ⟨by unfold inI64; omega, i + 1, ⟨by omega, take_snoc ha hc good, less_snoc ha ho fun h0 => absurd h0 (by omega)⟩, by omega, Keep.wk (ids := []) ?_⟩
          simp only [push_cast, Nat.reduceEqDiff, Nat.reduceLT, Nat.reduceLeDiff, Nat.reduceAdd, Nat.reduceMul, Nat.reduceSub, Nat.reduceBEq, ↓reduceIte, reduceCtorEq] <;> rfl
    · rw [List.take_of_length_le (by omega)] at hc
      rw [grantsB_yes hc fun j x y hx hy => ho j x y (by have := (List.getElem?_eq_some_iff.1 hy).1; omega) hx hy, decide_eq_true (by omega)]

/-! ### what fits a kind -/
def eHd (p : Bool) (v : List UInt8) (g : List Grant) (o : Bool) : List T := [.b p, .s v, eGrantS g, .b o]
theorem bare (p : Bool) (v : List UInt8) (g : List Grant) (o : Bool) : Con P0 247 [.ag (eHd p v g o)] (.t (.b (p && decide ((g.length : Int) = 0)))) [] := by
  refine Con.intro (fn := Try.f247) [.tmp 2] (fun _ => (0, [])) mixed (by kernel_rfl) rfl (by decide) rfl (by rfl) (by kernel_rfl) ?_
  simp -implicitDefEqProofs (maxSteps := 2000000) only [push_cast, Nat.reduceEqDiff, Nat.reduceLT, Nat.reduceLeDiff, Nat.reduceAdd, Nat.reduceMul, Nat.reduceSub, Nat.reduceBEq, ↓reduceIte, reduceCtorEq, eHd]
  cases p <;> simp -implicitDefEqProofs (maxSteps := 2000000) only [push_cast, Nat.reduceEqDiff, Nat.reduceLT, Nat.reduceLeDiff, Nat.reduceAdd, Nat.reduceMul, Nat.reduceSub, Nat.reduceBEq, ↓reduceIte, reduceCtorEq]
  all_goals first | trivial | exact fun _ => trivial
theorem createFits (p : Bool) (v : List UInt8) (g : List Grant) (o : Bool) : Con P0 248 [.ag (eHd p v g o)] (.t (.b ((p && decide ((g.length : Int) = 0)) && decide (v = []) && !o))) [] := by
  refine Con.intro (fn := Try.f248) [.tmp 2] (fun _ => (0, [])) mixed (by kernel_rfl) rfl (by decide) rfl (by rfl) (by kernel_rfl) ?_
  simp -implicitDefEqProofs (maxSteps := 2000000) only [push_cast, Nat.reduceEqDiff, Nat.reduceLT, Nat.reduceLeDiff, Nat.reduceAdd, Nat.reduceMul, Nat.reduceSub, Nat.reduceBEq, ↓reduceIte, reduceCtorEq, eHd]
  refine Callx.closed (bare p v g o) rfl rfl (.inl rfl) ?_
  simp -implicitDefEqProofs (maxSteps := 2000000) only [push_cast, Nat.reduceEqDiff, Nat.reduceLT, Nat.reduceLeDiff, Nat.reduceAdd, Nat.reduceMul, Nat.reduceSub, Nat.reduceBEq, ↓reduceIte, reduceCtorEq, eHd]
  cases p && decide ((g.length : Int) = 0) <;> simp -implicitDefEqProofs (maxSteps := 2000000) only [push_cast, Nat.reduceEqDiff, Nat.reduceLT, Nat.reduceLeDiff, Nat.reduceAdd, Nat.reduceMul, Nat.reduceSub, Nat.reduceBEq, ↓reduceIte, reduceCtorEq]
  repeat' first | refine iteI (fun _ => ?_) (fun _ => ?_) | intro _
  all_goals first
    | rfl
    | (refine congrArg T.b ?_; simp_all)
theorem memberFits (p : Bool) (v : List UInt8) (g : List Grant) (o st : Bool) (k : List UInt8) : Con P0 249 [.ag (eHd p v g o ++ [.b st, .s k])] (.t (.b (st && decide (¬ k = []) && decide ((g.length : Int) = 0) && decide (v ∈ [sJoin, sInvite, sLeave, sBan])))) [] := by
  refine Con.intro (fn := Try.f249) [.tmp 2] (fun _ => (0, [])) mixed (by kernel_rfl) rfl (by decide) rfl (by rfl) (by kernel_rfl) ?_
  simp -implicitDefEqProofs (maxSteps := 2000000) only [push_cast, Nat.reduceEqDiff, Nat.reduceLT, Nat.reduceLeDiff, Nat.reduceAdd, Nat.reduceMul, Nat.reduceSub, Nat.reduceBEq, ↓reduceIte, reduceCtorEq, eHd]
  repeat' first | refine iteI (fun _ => ?_) (fun _ => ?_) | intro _
  all_goals first
    | rfl
    | (refine congrArg T.b ?_; simp_all [sJoin, sInvite, sLeave, sBan])
theorem joinFits (p : Bool) (v : List UInt8) (g : List Grant) (o : Bool) : Con P0 250 [.ag (eHd p v g o)] (.t (.b ((p && decide ((g.length : Int) = 0)) && decide (v ∈ [sPublic, sInvite])))) [] := by
  refine Con.intro (fn := Try.f250) [.tmp 2] (fun _ => (0, [])) mixed (by kernel_rfl) rfl (by decide) rfl (by rfl) (by kernel_rfl) ?_
  simp -implicitDefEqProofs (maxSteps := 2000000) only [push_cast, Nat.reduceEqDiff, Nat.reduceLT, Nat.reduceLeDiff, Nat.reduceAdd, Nat.reduceMul, Nat.reduceSub, Nat.reduceBEq, ↓reduceIte, reduceCtorEq, eHd]
  refine Callx.closed (bare p v g o) rfl rfl (.inl rfl) ?_
  simp -implicitDefEqProofs (maxSteps := 2000000) only [push_cast, Nat.reduceEqDiff, Nat.reduceLT, Nat.reduceLeDiff, Nat.reduceAdd, Nat.reduceMul, Nat.reduceSub, Nat.reduceBEq, ↓reduceIte, reduceCtorEq, eHd]
  cases p && decide ((g.length : Int) = 0) <;> simp -implicitDefEqProofs (maxSteps := 2000000) only [push_cast, Nat.reduceEqDiff, Nat.reduceLT, Nat.reduceLeDiff, Nat.reduceAdd, Nat.reduceMul, Nat.reduceSub, Nat.reduceBEq, ↓reduceIte, reduceCtorEq]
  repeat' first | refine iteI (fun _ => ?_) (fun _ => ?_) | intro _
  all_goals first
    | rfl
    | (refine congrArg T.b ?_; simp_all [sPublic, sInvite])
theorem powerFits (p : Bool) (v : List UInt8) (g : List Grant) (o : Bool) : Con P0 251 [.ag (eHd p v g o)] (.t (.b (p && decide (v = []) && grantsB g))) [] := by
  refine Con.intro (fn := Try.f251) [.tmp 2] (fun _ => (0, [])) mixed (by kernel_rfl) rfl (by decide) rfl (by rfl) (by kernel_rfl) ?_
  simp -implicitDefEqProofs (maxSteps := 2000000) only [push_cast, Nat.reduceEqDiff, Nat.reduceLT, Nat.reduceLeDiff, Nat.reduceAdd, Nat.reduceMul, Nat.reduceSub, Nat.reduceBEq, ↓reduceIte, reduceCtorEq, eHd]
  refine iteI (fun h1 => iteI (fun h2 => ?_) (fun h2 => ?_)) (fun h1 => ?_)
  · refine Callx.closed (grantsOk g) rfl rfl (.inl rfl) ?_
    simp -implicitDefEqProofs (maxSteps := 2000000) only [push_cast, Nat.reduceEqDiff, Nat.reduceLT, Nat.reduceLeDiff, Nat.reduceAdd, Nat.reduceMul, Nat.reduceSub, Nat.reduceBEq, ↓reduceIte, reduceCtorEq]
    simp [h1, h2]
  · simp [h2]
  · simp [h1]
theorem otherFits (p : Bool) (v : List UInt8) (g : List Grant) (o : Bool) : Con P0 253 [.ag (eHd p v g o)] (.t (.b (decide ((g.length : Int) = 0) && (decide (v = []) || isW v)))) [] := by
  refine Con.intro (fn := Try.f253) [.tmp 2] (fun _ => (0, [])) mixed (by kernel_rfl) rfl (by decide) rfl (by rfl) (by kernel_rfl) ?_
  simp -implicitDefEqProofs (maxSteps := 2000000) only [push_cast, Nat.reduceEqDiff, Nat.reduceLT, Nat.reduceLeDiff, Nat.reduceAdd, Nat.reduceMul, Nat.reduceSub, Nat.reduceBEq, ↓reduceIte, reduceCtorEq, eHd]
  intro _
  refine iteI (fun h1 => iteI (fun h2 => ?_) (fun h2 => ?_)) (fun h1 => ?_)
  · simp [h1, h2]
  · refine Callx.closed (isWord v) rfl rfl (.inl rfl) ?_
    simp -implicitDefEqProofs (maxSteps := 2000000) only [push_cast, Nat.reduceEqDiff, Nat.reduceLT, Nat.reduceLeDiff, Nat.reduceAdd, Nat.reduceMul, Nat.reduceSub, Nat.reduceBEq, ↓reduceIte, reduceCtorEq]
    simp [h1, h2]
  · rw [decide_eq_false h1]; rfl
@[push_cast] theorem meth_c : methOf P0 234 "loop.example/s01366/impl.fits" = some 248 := by kernel_rfl
@[push_cast] theorem meth_m : methOf P0 236 "loop.example/s01366/impl.fits" = some 249 := by kernel_rfl
@[push_cast] theorem meth_j : methOf P0 237 "loop.example/s01366/impl.fits" = some 250 := by kernel_rfl
@[push_cast] theorem meth_p : methOf P0 238 "loop.example/s01366/impl.fits" = some 251 := by kernel_rfl
@[push_cast] theorem meth_o : methOf P0 239 "loop.example/s01366/impl.fits" = some 253 := by kernel_rfl
@[push_cast] theorem conc_c : P0.concrete 234 = true := by kernel_rfl
@[push_cast] theorem conc_m : P0.concrete 236 = true := by kernel_rfl
@[push_cast] theorem conc_j : P0.concrete 237 = true := by kernel_rfl
@[push_cast] theorem conc_p : P0.concrete 238 = true := by kernel_rfl
@[push_cast] theorem conc_o : P0.concrete 239 = true := by kernel_rfl
def eHdE (e : Event) : List T := eHd (e.isState && decide (e.key = [])) e.value e.grants (decide (0 < (e.prev.length : Int) + e.auth.length))
/-- the content of an event, behind an interface -/
def contT (e : Event) : T :=
  if e.typ = sCreate then .ifc 234 (.ag (eHdE e)) else if e.typ = sMember then .ifc 236 (.ag (eHdE e ++ [.b e.isState, .s e.key]))
  else if e.typ = sRules then .ifc 237 (.ag (eHdE e)) else if e.typ = sPower then .ifc 238 (.ag (eHdE e)) else .ifc 239 (.ag (eHdE e))
theorem contentOf (e : Event) (hB : Bd.B ≤ 2147483648) : Con P0 167 [eEvent e] (.t (contT e)) [] := by
  refine Con.intro (fn := Try.f167) [.tmp 2] (fun _ => (0, [])) mixed (by kernel_rfl) rfl (by decide) rfl (by rfl) (by kernel_rfl) ?_
  simp -implicitDefEqProofs (maxSteps := 2000000) only [push_cast, Nat.reduceEqDiff, Nat.reduceLT, Nat.reduceLeDiff, Nat.reduceAdd, Nat.reduceMul, Nat.reduceSub, Nat.reduceBEq, ↓reduceIte, reduceCtorEq, eEvent]
  refine iteI (fun h => ?_) (fun h => ?_) <;>
  · intro _ _
    refine ⟨by unfold inI64; omega, ?_⟩
    unfold contT eHdE eHd
    repeat' refine iteI (fun _ => ?_) (fun _ => ?_)
    all_goals simp [*, sCreate, sMember, sRules, sPower]
theorem l1ContentOk (e : Event) : Con P0 162 [eEvent e] (.t (.b (contentB e))) [] := by
  refine Con.intro (fn := Try.f162) [.tmp 2] (fun _ => (0, [])) mixed (by kernel_rfl) rfl (by decide) rfl (by rfl) (by kernel_rfl) ?_
  simp -implicitDefEqProofs (maxSteps := 2000000) only [push_cast, Nat.reduceEqDiff, Nat.reduceLT, Nat.reduceLeDiff, Nat.reduceAdd, Nat.reduceMul, Nat.reduceSub, Nat.reduceBEq, ↓reduceIte, reduceCtorEq, eEvent]
  have := Bd.lo
  repeat' first | refine iteI (fun _ => ?_) (fun _ => ?_) | intro _
  all_goals first
    | (refine congrArg T.b ?_; unfold contentB; simp_all [sCreate, sMember, sRules, sPower]; done)
    | (refine ⟨rfl, by omega, Callx.closed (l1Has [sJoin, sInvite, sLeave, sBan] e.value) rfl rfl (.inr ⟨rfl, rfl⟩) ?_⟩
       simp -implicitDefEqProofs (maxSteps := 2000000) only [push_cast, Nat.reduceEqDiff, Nat.reduceLT, Nat.reduceLeDiff, Nat.reduceAdd, Nat.reduceMul, Nat.reduceSub, Nat.reduceBEq, ↓reduceIte, reduceCtorEq]
       refine congrArg T.b ?_
       unfold contentB
       simp_all [sCreate, sMember, sRules, sPower])
    | (refine ⟨rfl, by omega, Callx.closed (l1Has [sPublic, sInvite] e.value) rfl rfl (.inr ⟨rfl, rfl⟩) ?_⟩
       simp -implicitDefEqProofs (maxSteps := 2000000) only [push_cast, Nat.reduceEqDiff, Nat.reduceLT, Nat.reduceLeDiff, Nat.reduceAdd, Nat.reduceMul, Nat.reduceSub, Nat.reduceBEq, ↓reduceIte, reduceCtorEq]
       refine congrArg T.b ?_
       unfold contentB
       simp_all [sCreate, sMember, sRules, sPower])
    | (refine Callx.closed (l1GrantsOk e.grants) rfl rfl (.inl rfl) ?_
       simp -implicitDefEqProofs (maxSteps := 2000000) only [push_cast, Nat.reduceEqDiff, Nat.reduceLT, Nat.reduceLeDiff, Nat.reduceAdd, Nat.reduceMul, Nat.reduceSub, Nat.reduceBEq, ↓reduceIte, reduceCtorEq]
       refine congrArg T.b ?_
       unfold contentB
       simp_all [sCreate, sMember, sRules, sPower])
    | (refine Callx.closed (l1Word e.value) rfl rfl (.inl rfl) ?_
       simp -implicitDefEqProofs (maxSteps := 2000000) only [push_cast, Nat.reduceEqDiff, Nat.reduceLT, Nat.reduceLeDiff, Nat.reduceAdd, Nat.reduceMul, Nat.reduceSub, Nat.reduceBEq, ↓reduceIte, reduceCtorEq]
       refine congrArg T.b ?_
       unfold contentB
       simp_all [sCreate, sMember, sRules, sPower])
theorem specEventOk (e : Event) : Con P0 116 [eEvent e] (.t (.i .i64 (evOk e))) [] := by
  refine Con.intro (fn := Try.f116) [.tmp 2] (fun _ => (0, [])) mixed (by kernel_rfl) rfl (by decide) rfl (by rfl) (by kernel_rfl) ?_
  simp -implicitDefEqProofs (maxSteps := 2000000) only [push_cast, Nat.reduceEqDiff, Nat.reduceLT, Nat.reduceLeDiff, Nat.reduceAdd, Nat.reduceMul, Nat.reduceSub, Nat.reduceBEq, ↓reduceIte, reduceCtorEq, eEvent]
  have leaf : ∀ {n : Int}, evOk e = n → T.i .i64 n = T.i .i64 (evOk e) := fun h => congrArg (T.i .i64) h.symm
  refine Callx.closed (l1Word e.id) rfl rfl (.inl rfl) ?_
  simp -implicitDefEqProofs (maxSteps := 2000000) only [push_cast, Nat.reduceEqDiff, Nat.reduceLT, Nat.reduceLeDiff, Nat.reduceAdd, Nat.reduceMul, Nat.reduceSub, Nat.reduceBEq, ↓reduceIte, reduceCtorEq, eEvent]
  refine iteI (fun h1 => leaf (if_pos (by simp_all))) (fun h1 => ?_)
  refine Callx.closed (l1Word e.sender) rfl rfl (.inl rfl) ?_
  simp -implicitDefEqProofs (maxSteps := 2000000) only [push_cast, Nat.reduceEqDiff, Nat.reduceLT, Nat.reduceLeDiff, Nat.reduceAdd, Nat.reduceMul, Nat.reduceSub, Nat.reduceBEq, ↓reduceIte, reduceCtorEq, eEvent]
  refine iteI (fun h2 => leaf (if_pos (by simp_all))) (fun h2 => ?_)
  refine Callx.closed (l1Word e.typ) rfl rfl (.inl rfl) ?_
  simp -implicitDefEqProofs (maxSteps := 2000000) only [push_cast, Nat.reduceEqDiff, Nat.reduceLT, Nat.reduceLeDiff, Nat.reduceAdd, Nat.reduceMul, Nat.reduceSub, Nat.reduceBEq, ↓reduceIte, reduceCtorEq, eEvent]
  refine iteI (fun h3 => leaf (if_pos (by simp_all))) (fun h3 => ?_)
  have e1 : evOk e = ev2 e := if_neg (by simp_all)
  refine iteI (fun k1 => ?_) (fun k1 => ?_)
  · refine iteI (fun k2 => leaf (e1.trans (if_pos (by simp_all)))) (fun k2 => ?_)
    refine Callx.closed (l1Word e.key) rfl rfl (.inl rfl) ?_
    simp -implicitDefEqProofs (maxSteps := 2000000) only [push_cast, Nat.reduceEqDiff, Nat.reduceLT, Nat.reduceLeDiff, Nat.reduceAdd, Nat.reduceMul, Nat.reduceSub, Nat.reduceBEq, ↓reduceIte, reduceCtorEq, eEvent]
    refine iteI (fun k3 => leaf (e1.trans (if_pos (by simp_all)))) (fun k3 => ?_)
    have e2 : evOk e = ev3 e := e1.trans (if_neg (by simp_all))
    refine iteI (fun h5 => leaf (e2.trans (if_pos (.inl h5)))) (fun h5 => iteI (fun h6 => leaf (e2.trans (if_pos (.inr h6)))) (fun h6 => ?_))
    have e3 : evOk e = ev4 e := e2.trans (if_neg (by omega))
    refine Callx.closed (l1RefsOk e.prev e.id) rfl rfl (.inl rfl) ?_
    simp -implicitDefEqProofs (maxSteps := 2000000) only [push_cast, Nat.reduceEqDiff, Nat.reduceLT, Nat.reduceLeDiff, Nat.reduceAdd, Nat.reduceMul, Nat.reduceSub, Nat.reduceBEq, ↓reduceIte, reduceCtorEq, eEvent]
    refine iteI (fun h7 => leaf (e3.trans (if_pos (by simp_all)))) (fun h7 => ?_)
    refine Callx.closed (l1RefsOk e.auth e.id) rfl rfl (.inl rfl) ?_
    simp -implicitDefEqProofs (maxSteps := 2000000) only [push_cast, Nat.reduceEqDiff, Nat.reduceLT, Nat.reduceLeDiff, Nat.reduceAdd, Nat.reduceMul, Nat.reduceSub, Nat.reduceBEq, ↓reduceIte, reduceCtorEq, eEvent]
    refine iteI (fun h8 => leaf (e3.trans (if_pos (by simp_all)))) (fun h8 => ?_)
    have e4 : evOk e = ev5 e := e3.trans (if_neg (by simp_all))
    refine Callx.closed (l1ContentOk e) rfl rfl (.inl rfl) ?_
    simp -implicitDefEqProofs (maxSteps := 2000000) only [push_cast, Nat.reduceEqDiff, Nat.reduceLT, Nat.reduceLeDiff, Nat.reduceAdd, Nat.reduceMul, Nat.reduceSub, Nat.reduceBEq, ↓reduceIte, reduceCtorEq, eEvent]
    exact iteI (fun h9 => leaf (e4.trans (if_pos (by simp_all)))) (fun h9 => leaf (e4.trans (if_neg (by simp_all))))
  · have e2 : evOk e = ev3 e := e1.trans (if_neg (by simp_all))
    refine iteI (fun h5 => leaf (e2.trans (if_pos (.inl h5)))) (fun h5 => iteI (fun h6 => leaf (e2.trans (if_pos (.inr h6)))) (fun h6 => ?_))
    have e3 : evOk e = ev4 e := e2.trans (if_neg (by omega))
    refine Callx.closed (l1RefsOk e.prev e.id) rfl rfl (.inl rfl) ?_
    simp -implicitDefEqProofs (maxSteps := 2000000) only [push_cast, Nat.reduceEqDiff, Nat.reduceLT, Nat.reduceLeDiff, Nat.reduceAdd, Nat.reduceMul, Nat.reduceSub, Nat.reduceBEq, ↓reduceIte, reduceCtorEq, eEvent]
    refine iteI (fun h7 => leaf (e3.trans (if_pos (by simp_all)))) (fun h7 => ?_)
    refine Callx.closed (l1RefsOk e.auth e.id) rfl rfl (.inl rfl) ?_
    simp -implicitDefEqProofs (maxSteps := 2000000) only [push_cast, Nat.reduceEqDiff, Nat.reduceLT, Nat.reduceLeDiff, Nat.reduceAdd, Nat.reduceMul, Nat.reduceSub, Nat.reduceBEq, ↓reduceIte, reduceCtorEq, eEvent]
    refine iteI (fun h8 => leaf (e3.trans (if_pos (by simp_all)))) (fun h8 => ?_)
    have e4 : evOk e = ev5 e := e3.trans (if_neg (by simp_all))
    refine Callx.closed (l1ContentOk e) rfl rfl (.inl rfl) ?_
    simp -implicitDefEqProofs (maxSteps := 2000000) only [push_cast, Nat.reduceEqDiff, Nat.reduceLT, Nat.reduceLeDiff, Nat.reduceAdd, Nat.reduceMul, Nat.reduceSub, Nat.reduceBEq, ↓reduceIte, reduceCtorEq, eEvent]
    exact iteI (fun h9 => leaf (e4.trans (if_pos (by simp_all)))) (fun h9 => leaf (e4.trans (if_neg (by simp_all))))
theorem implEventOk (e : Event) (hB : Bd.B ≤ 2147483648) : Con P0 120 [eEvent e] (.t (.i .i64 (evOk e))) [] := by
  refine Con.intro (fn := Try.f120) [.tmp 2] (fun _ => (0, [])) mixed (by kernel_rfl) rfl (by decide) rfl (by rfl) (by kernel_rfl) ?_
  simp -implicitDefEqProofs (maxSteps := 2000000) only [push_cast, Nat.reduceEqDiff, Nat.reduceLT, Nat.reduceLeDiff, Nat.reduceAdd, Nat.reduceMul, Nat.reduceSub, Nat.reduceBEq, ↓reduceIte, reduceCtorEq, eEvent]
  have leaf : ∀ {n : Int}, evOk e = n → T.i .i64 n = T.i .i64 (evOk e) := fun h => congrArg (T.i .i64) h.symm
  refine Callx.closed (isWord e.id) rfl rfl (.inl rfl) ?_
  simp -implicitDefEqProofs (maxSteps := 2000000) only [push_cast, Nat.reduceEqDiff, Nat.reduceLT, Nat.reduceLeDiff, Nat.reduceAdd, Nat.reduceMul, Nat.reduceSub, Nat.reduceBEq, ↓reduceIte, reduceCtorEq, eEvent]
  refine iteI (fun h1 => leaf (if_pos (by simp_all))) (fun h1 => ?_)
  refine Callx.closed (isWord e.sender) rfl rfl (.inl rfl) ?_
  simp -implicitDefEqProofs (maxSteps := 2000000) only [push_cast, Nat.reduceEqDiff, Nat.reduceLT, Nat.reduceLeDiff, Nat.reduceAdd, Nat.reduceMul, Nat.reduceSub, Nat.reduceBEq, ↓reduceIte, reduceCtorEq, eEvent]
  refine iteI (fun h2 => leaf (if_pos (by simp_all))) (fun h2 => ?_)
  refine Callx.closed (isWord e.typ) rfl rfl (.inl rfl) ?_
  simp -implicitDefEqProofs (maxSteps := 2000000) only [push_cast, Nat.reduceEqDiff, Nat.reduceLT, Nat.reduceLeDiff, Nat.reduceAdd, Nat.reduceMul, Nat.reduceSub, Nat.reduceBEq, ↓reduceIte, reduceCtorEq, eEvent]
  refine iteI (fun h3 => leaf (if_pos (by simp_all))) (fun h3 => ?_)
  have e1 : evOk e = ev2 e := if_neg (by simp_all)
  refine iteI (fun k1 => ?_) (fun k1 => ?_)
  · refine iteI (fun k2 => leaf (e1.trans (if_pos (by simp_all)))) (fun k2 => ?_)
    refine Callx.closed (isWord e.key) rfl rfl (.inl rfl) ?_
    simp -implicitDefEqProofs (maxSteps := 2000000) only [push_cast, Nat.reduceEqDiff, Nat.reduceLT, Nat.reduceLeDiff, Nat.reduceAdd, Nat.reduceMul, Nat.reduceSub, Nat.reduceBEq, ↓reduceIte, reduceCtorEq, eEvent]
    refine iteI (fun k3 => leaf (e1.trans (if_pos (by simp_all)))) (fun k3 => ?_)
    have e2 : evOk e = ev3 e := e1.trans (if_neg (by simp_all))
    refine iteI (fun h5 => leaf (e2.trans (if_pos (.inl h5)))) (fun h5 => iteI (fun h6 => leaf (e2.trans (if_pos (.inr h6)))) (fun h6 => ?_))
    have e3 : evOk e = ev4 e := e2.trans (if_neg (by omega))
    refine Callx.closed (refsOk e.prev e.id) rfl rfl (.inl rfl) ?_
    simp -implicitDefEqProofs (maxSteps := 2000000) only [push_cast, Nat.reduceEqDiff, Nat.reduceLT, Nat.reduceLeDiff, Nat.reduceAdd, Nat.reduceMul, Nat.reduceSub, Nat.reduceBEq, ↓reduceIte, reduceCtorEq, eEvent]
    refine iteI (fun h7 => leaf (e3.trans (if_pos (by simp_all)))) (fun h7 => ?_)
    refine Callx.closed (refsOk e.auth e.id) rfl rfl (.inl rfl) ?_
    simp -implicitDefEqProofs (maxSteps := 2000000) only [push_cast, Nat.reduceEqDiff, Nat.reduceLT, Nat.reduceLeDiff, Nat.reduceAdd, Nat.reduceMul, Nat.reduceSub, Nat.reduceBEq, ↓reduceIte, reduceCtorEq, eEvent]
    refine iteI (fun h8 => leaf (e3.trans (if_pos (by simp_all)))) (fun h8 => ?_)
    have e4 : evOk e = ev5 e := e3.trans (if_neg (by simp_all))
    refine Callx.closed (contentOf e hB) rfl rfl (.inl rfl) ?_
    have fin : ∀ b : Bool, b = contentB e → if (!b) = true then T.i .i64 5 = T.i .i64 (evOk e) else T.i .i64 0 = T.i .i64 (evOk e) := fun b hb => iteI (fun h9 => leaf (e4.trans (if_pos (by simp_all)))) (fun h9 => leaf (e4.trans (if_neg (by simp_all))))
    have hpos : (!decide (0 < (e.prev.length : Int) + e.auth.length)) = (decide ((e.prev.length : Int) = 0) && decide ((e.auth.length : Int) = 0)) := by
      rw [Bool.eq_iff_iff]
      simp only [Bool.not_eq_true', decide_eq_false_iff_not, Bool.and_eq_true, decide_eq_true_eq]
      omega
    by_cases q1 : e.typ = sCreate
    · have hc : contT e = .ifc 234 (.ag (eHdE e)) := by unfold contT; rw [if_pos q1]
      simp -implicitDefEqProofs (maxSteps := 2000000) only [push_cast, Nat.reduceEqDiff, Nat.reduceLT, Nat.reduceLeDiff, Nat.reduceAdd, Nat.reduceMul, Nat.reduceSub, Nat.reduceBEq, ↓reduceIte, reduceCtorEq, hc, eHdE]
      refine CallV.t (createFits _ _ _ _) (.inl rfl) ?_
      simp -implicitDefEqProofs (maxSteps := 2000000) only [push_cast, Nat.reduceEqDiff, Nat.reduceLT, Nat.reduceLeDiff, Nat.reduceAdd, Nat.reduceMul, Nat.reduceSub, Nat.reduceBEq, ↓reduceIte, reduceCtorEq]
      refine fin _ ?_
      unfold contentB
      rw [if_pos q1]
      rw [hpos]
      cases e.isState <;> cases decide (e.key = []) <;> cases decide ((e.grants.length : Int) = 0) <;> cases decide (e.value = []) <;> cases decide ((e.prev.length : Int) = 0) <;> cases decide ((e.auth.length : Int) = 0) <;> rfl
    by_cases q2 : e.typ = sMember
    · have hc : contT e = .ifc 236 (.ag (eHdE e ++ [.b e.isState, .s e.key])) := by unfold contT; rw [if_neg q1, if_pos q2]
      simp -implicitDefEqProofs (maxSteps := 2000000) only [push_cast, Nat.reduceEqDiff, Nat.reduceLT, Nat.reduceLeDiff, Nat.reduceAdd, Nat.reduceMul, Nat.reduceSub, Nat.reduceBEq, ↓reduceIte, reduceCtorEq, hc, eHdE]
      refine CallV.t (memberFits _ _ _ _ _ _) (.inl rfl) ?_
      simp -implicitDefEqProofs (maxSteps := 2000000) only [push_cast, Nat.reduceEqDiff, Nat.reduceLT, Nat.reduceLeDiff, Nat.reduceAdd, Nat.reduceMul, Nat.reduceSub, Nat.reduceBEq, ↓reduceIte, reduceCtorEq]
      refine fin _ ?_
      unfold contentB
      rw [if_neg q1, if_pos q2]
    by_cases q3 : e.typ = sRules
    · have hc : contT e = .ifc 237 (.ag (eHdE e)) := by unfold contT; rw [if_neg q1, if_neg q2, if_pos q3]
      simp -implicitDefEqProofs (maxSteps := 2000000) only [push_cast, Nat.reduceEqDiff, Nat.reduceLT, Nat.reduceLeDiff, Nat.reduceAdd, Nat.reduceMul, Nat.reduceSub, Nat.reduceBEq, ↓reduceIte, reduceCtorEq, hc, eHdE]
      refine CallV.t (joinFits _ _ _ _) (.inl rfl) ?_
      simp -implicitDefEqProofs (maxSteps := 2000000) only [push_cast, Nat.reduceEqDiff, Nat.reduceLT, Nat.reduceLeDiff, Nat.reduceAdd, Nat.reduceMul, Nat.reduceSub, Nat.reduceBEq, ↓reduceIte, reduceCtorEq]
      refine fin _ ?_
      unfold contentB
      rw [if_neg q1, if_neg q2, if_pos q3]
    by_cases q4 : e.typ = sPower
    · have hc : contT e = .ifc 238 (.ag (eHdE e)) := by unfold contT; rw [if_neg q1, if_neg q2, if_neg q3, if_pos q4]
      simp -implicitDefEqProofs (maxSteps := 2000000) only [push_cast, Nat.reduceEqDiff, Nat.reduceLT, Nat.reduceLeDiff, Nat.reduceAdd, Nat.reduceMul, Nat.reduceSub, Nat.reduceBEq, ↓reduceIte, reduceCtorEq, hc, eHdE]
      refine CallV.t (powerFits _ _ _ _) (.inl rfl) ?_
      simp -implicitDefEqProofs (maxSteps := 2000000) only [push_cast, Nat.reduceEqDiff, Nat.reduceLT, Nat.reduceLeDiff, Nat.reduceAdd, Nat.reduceMul, Nat.reduceSub, Nat.reduceBEq, ↓reduceIte, reduceCtorEq]
      refine fin _ ?_
      unfold contentB
      rw [if_neg q1, if_neg q2, if_neg q3, if_pos q4]
    have hc : contT e = .ifc 239 (.ag (eHdE e)) := by unfold contT; rw [if_neg q1, if_neg q2, if_neg q3, if_neg q4]
    simp -implicitDefEqProofs (maxSteps := 2000000) only [push_cast, Nat.reduceEqDiff, Nat.reduceLT, Nat.reduceLeDiff, Nat.reduceAdd, Nat.reduceMul, Nat.reduceSub, Nat.reduceBEq, ↓reduceIte, reduceCtorEq, hc, eHdE]
    refine CallV.t (otherFits _ _ _ _) (.inl rfl) ?_
    simp -implicitDefEqProofs (maxSteps := 2000000) only [push_cast, Nat.reduceEqDiff, Nat.reduceLT, Nat.reduceLeDiff, Nat.reduceAdd, Nat.reduceMul, Nat.reduceSub, Nat.reduceBEq, ↓reduceIte, reduceCtorEq]
    refine fin _ ?_
    unfold contentB
    rw [if_neg q1, if_neg q2, if_neg q3, if_neg q4]
  · have e2 : evOk e = ev3 e := e1.trans (if_neg (by simp_all))
    refine iteI (fun h5 => leaf (e2.trans (if_pos (.inl h5)))) (fun h5 => iteI (fun h6 => leaf (e2.trans (if_pos (.inr h6)))) (fun h6 => ?_))
    have e3 : evOk e = ev4 e := e2.trans (if_neg (by omega))
    refine Callx.closed (refsOk e.prev e.id) rfl rfl (.inl rfl) ?_
    simp -implicitDefEqProofs (maxSteps := 2000000) only [push_cast, Nat.reduceEqDiff, Nat.reduceLT, Nat.reduceLeDiff, Nat.reduceAdd, Nat.reduceMul, Nat.reduceSub, Nat.reduceBEq, ↓reduceIte, reduceCtorEq, eEvent]
    refine iteI (fun h7 => leaf (e3.trans (if_pos (by simp_all)))) (fun h7 => ?_)
    refine Callx.closed (refsOk e.auth e.id) rfl rfl (.inl rfl) ?_
    simp -implicitDefEqProofs (maxSteps := 2000000) only [push_cast, Nat.reduceEqDiff, Nat.reduceLT, Nat.reduceLeDiff, Nat.reduceAdd, Nat.reduceMul, Nat.reduceSub, Nat.reduceBEq, ↓reduceIte, reduceCtorEq, eEvent]
    refine iteI (fun h8 => leaf (e3.trans (if_pos (by simp_all)))) (fun h8 => ?_)
    have e4 : evOk e = ev5 e := e3.trans (if_neg (by simp_all))
    refine Callx.closed (contentOf e hB) rfl rfl (.inl rfl) ?_
    have fin : ∀ b : Bool, b = contentB e → if (!b) = true then T.i .i64 5 = T.i .i64 (evOk e) else T.i .i64 0 = T.i .i64 (evOk e) := fun b hb => iteI (fun h9 => leaf (e4.trans (if_pos (by simp_all)))) (fun h9 => leaf (e4.trans (if_neg (by simp_all))))
    have hpos : (!decide (0 < (e.prev.length : Int) + e.auth.length)) = (decide ((e.prev.length : Int) = 0) && decide ((e.auth.length : Int) = 0)) := by
      rw [Bool.eq_iff_iff]
      simp only [Bool.not_eq_true', decide_eq_false_iff_not, Bool.and_eq_true, decide_eq_true_eq]
      omega
    by_cases q1 : e.typ = sCreate
    · have hc : contT e = .ifc 234 (.ag (eHdE e)) := by unfold contT; rw [if_pos q1]
      simp -implicitDefEqProofs (maxSteps := 2000000) only [push_cast, Nat.reduceEqDiff, Nat.reduceLT, Nat.reduceLeDiff, Nat.reduceAdd, Nat.reduceMul, Nat.reduceSub, Nat.reduceBEq, ↓reduceIte, reduceCtorEq, hc, eHdE]
      refine CallV.t (createFits _ _ _ _) (.inl rfl) ?_
      simp -implicitDefEqProofs (maxSteps := 2000000) only [push_cast, Nat.reduceEqDiff, Nat.reduceLT, Nat.reduceLeDiff, Nat.reduceAdd, Nat.reduceMul, Nat.reduceSub, Nat.reduceBEq, ↓reduceIte, reduceCtorEq]
      refine fin _ ?_
      unfold contentB
      rw [if_pos q1]
      rw [hpos]
      cases e.isState <;> cases decide (e.key = []) <;> cases decide ((e.grants.length : Int) = 0) <;> cases decide (e.value = []) <;> cases decide ((e.prev.length : Int) = 0) <;> cases decide ((e.auth.length : Int) = 0) <;> rfl
    by_cases q2 : e.typ = sMember
    · have hc : contT e = .ifc 236 (.ag (eHdE e ++ [.b e.isState, .s e.key])) := by unfold contT; rw [if_neg q1, if_pos q2]
      simp -implicitDefEqProofs (maxSteps := 2000000) only [push_cast, Nat.reduceEqDiff, Nat.reduceLT, Nat.reduceLeDiff, Nat.reduceAdd, Nat.reduceMul, Nat.reduceSub, Nat.reduceBEq, ↓reduceIte, reduceCtorEq, hc, eHdE]
      refine CallV.t (memberFits _ _ _ _ _ _) (.inl rfl) ?_
      simp -implicitDefEqProofs (maxSteps := 2000000) only [push_cast, Nat.reduceEqDiff, Nat.reduceLT, Nat.reduceLeDiff, Nat.reduceAdd, Nat.reduceMul, Nat.reduceSub, Nat.reduceBEq, ↓reduceIte, reduceCtorEq]
      refine fin _ ?_
      unfold contentB
      rw [if_neg q1, if_pos q2]
    by_cases q3 : e.typ = sRules
    · have hc : contT e = .ifc 237 (.ag (eHdE e)) := by unfold contT; rw [if_neg q1, if_neg q2, if_pos q3]
      simp -implicitDefEqProofs (maxSteps := 2000000) only [push_cast, Nat.reduceEqDiff, Nat.reduceLT, Nat.reduceLeDiff, Nat.reduceAdd, Nat.reduceMul, Nat.reduceSub, Nat.reduceBEq, ↓reduceIte, reduceCtorEq, hc, eHdE]
      refine CallV.t (joinFits _ _ _ _) (.inl rfl) ?_
      simp -implicitDefEqProofs (maxSteps := 2000000) only [push_cast, Nat.reduceEqDiff, Nat.reduceLT, Nat.reduceLeDiff, Nat.reduceAdd, Nat.reduceMul, Nat.reduceSub, Nat.reduceBEq, ↓reduceIte, reduceCtorEq]
      refine fin _ ?_
      unfold contentB
      rw [if_neg q1, if_neg q2, if_pos q3]
    by_cases q4 : e.typ = sPower
    · have hc : contT e = .ifc 238 (.ag (eHdE e)) := by unfold contT; rw [if_neg q1, if_neg q2, if_neg q3, if_pos q4]
      simp -implicitDefEqProofs (maxSteps := 2000000) only [push_cast, Nat.reduceEqDiff, Nat.reduceLT, Nat.reduceLeDiff, Nat.reduceAdd, Nat.reduceMul, Nat.reduceSub, Nat.reduceBEq, ↓reduceIte, reduceCtorEq, hc, eHdE]
      refine CallV.t (powerFits _ _ _ _) (.inl rfl) ?_
      simp -implicitDefEqProofs (maxSteps := 2000000) only [push_cast, Nat.reduceEqDiff, Nat.reduceLT, Nat.reduceLeDiff, Nat.reduceAdd, Nat.reduceMul, Nat.reduceSub, Nat.reduceBEq, ↓reduceIte, reduceCtorEq]
      refine fin _ ?_
      unfold contentB
      rw [if_neg q1, if_neg q2, if_neg q3, if_pos q4]
    have hc : contT e = .ifc 239 (.ag (eHdE e)) := by unfold contT; rw [if_neg q1, if_neg q2, if_neg q3, if_neg q4]
    simp -implicitDefEqProofs (maxSteps := 2000000) only [push_cast, Nat.reduceEqDiff, Nat.reduceLT, Nat.reduceLeDiff, Nat.reduceAdd, Nat.reduceMul, Nat.reduceSub, Nat.reduceBEq, ↓reduceIte, reduceCtorEq, hc, eHdE]
    refine CallV.t (otherFits _ _ _ _) (.inl rfl) ?_
    simp -implicitDefEqProofs (maxSteps := 2000000) only [push_cast, Nat.reduceEqDiff, Nat.reduceLT, Nat.reduceLeDiff, Nat.reduceAdd, Nat.reduceMul, Nat.reduceSub, Nat.reduceBEq, ↓reduceIte, reduceCtorEq]
    refine fin _ ?_
    unfold contentB
    rw [if_neg q1, if_neg q2, if_neg q3, if_neg q4]
end Go.Proofs.Ythhgcklidfilfaa.BX
