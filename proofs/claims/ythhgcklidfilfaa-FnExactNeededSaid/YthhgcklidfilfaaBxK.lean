/-
  A frame for proofs over whole functions, second make, eleventh part: contracts, and what a call leaves.
-/
import Derived.Test.YthhgcklidfilfaaBxJ
namespace Go.Proofs.Ythhgcklidfilfaa.BX
set_option linter.unusedSectionVars false
set_option linter.unusedSimpArgs false
set_option linter.unusedVariables false
open Go Go.RowKit
variable [Bd]

def seesW (f : AV → Option T) : List AV → Option (List T)
  | [] => some []
  | x :: xs => match f x with
    | some y => (seesW f xs).map (y :: ·)
    | none => none

def AV.known' : AV → Bool
  | .un => false
  | _ => true

/-- as it is read now -/
def AV.see (ob : List Ob) : Nat → AV → Option T
  | 0, _ => none
  | n + 1, x => match x with
    | .t y => some y
    | .bw y => some y
    | .ns => some (.sl [])
    | .sr id => match ob[id]? with
      | some (.arr _ _ _ es) => some (.sl es)
      | _ => none
    | .sv id a m l => match ob[id]? with
      | some (.arr _ m' _ es) => if m' = m then some (.sl ((es.drop a).take l)) else none
      | _ => none
    | .mr id => match ob[id]? with
      | some (.map _ _ _ ks vs _) => some (.mp ks vs)
      | _ => none
    | .rf id off => match ob[id]? with
      | some (.box y) => if y.known' = true then (AV.see ob n y).map fun z => .po z off else none
      | _ => none
    | .ag cs => (seesW (AV.see ob n) cs).map T.ag
    | .tp cs => (seesW (AV.see ob n) cs).map T.tp
    | .fn f cs => (seesW (AV.see ob n) cs).map (T.fn f)
    | _ => none

/-- the function that a value stands for, and what it brings -/
def calleeOf : AV → Option (FuncId × List AV)
  | .fn f cs => some (f, cs)
  | .t (.fn f cs) => some (f, cs.map .t)
  | .bw (.fn f cs) => some (f, cs.map .bw)
  | _ => none

def hasBody (P : Program) (f : FuncId) : Prop := ∃ fn, P.funcs[f]? = some fn ∧ fn.body.isSome = true ∧ (fn.name == "runtime.NumGoroutine") = false

def numA : Nat → List AV → List (Nat × AV)
  | _, [] => []
  | k, x :: xs => (k, x) :: numA (k + 1) xs

theorem numA_get : ∀ (xs : List AV) (k t : Nat), getL (numA k xs) t = if k ≤ t then (match xs[t - k]? with | some x => x | none => .un) else .un
  | [], k, t => by simp [numA, getL]
  | x :: xs, k, t => by
    simp only [numA, getL]
    by_cases h : t = k
    · subst h; simp
    · rw [if_neg h, numA_get xs (k + 1) t]
      by_cases h2 : k ≤ t
      · have : t - k = (t - (k + 1)) + 1 := by omega
        rw [if_pos h2, if_pos (by omega), this, List.getElem?_cons_succ]
      · rw [if_neg h2, if_neg (by omega)]

/-- THE CONTRACT: the arguments 'xs' over the objects 'obs'; what comes back is 'x' over the objects 'obs'', of which the first are those that came in -/
def FnM (P : Program) (f : FuncId) (xs : List AV) (obs : List Ob) (x : AV) (obs' : List Ob) : Prop :=
  ∀ (w : World) (L M : Nat → Prop) (vs : List Value) (hv : Hv) (S : Nat → Prop) (F : Nat → List Nat),
    Rel ⟨w, L, M, obs.length, hv.v⟩ ⟨xs.length, numA 0 xs, obs⟩ hv S F ⟨vs.toArray, []⟩ w →
    Calls P f vs.toArray w fun e w' => ∃ (v : Value) (hv' : Hv) (S' : Nat → Prop) (F' : Nat → List Nat) (L' : List Nat), e = .returned v ∧ Rel ⟨w, L, M, obs.length, hv.v⟩ ⟨0, [], obs'⟩ hv' S' F' ⟨#[], []⟩ w' ∧ footA hv' w' x v L' ∧ (∀ b ∈ L', S' b) ∧ x.under obs'.length = true

def ConM (P : Program) (g : FuncId) (xs : List AV) (obs : List Ob) (x : AV) (obs' : List Ob) : Prop := hasBody P g ∧ FnM P g xs obs x obs'

/-- .. over closed arguments -/
def Con (P : Program) (g : FuncId) (ts : List T) (x : AV) (obs : List Ob) : Prop := ConM P g (ts.map .t) [] x obs

mutual
def AV.ren (r : Nat → Nat) : AV → AV
  | .rf i o => .rf (r i) o
  | .ra i k m o => .ra (r i) k m o
  | .sv i k m o => .sv (r i) k m o
  | .sr i => .sr (r i)
  | .mr i => .mr (r i)
  | .it i => .it (r i)
  | .ag cs => .ag (rens r cs)
  | .tp cs => .tp (rens r cs)
  | .fn f cs => .fn f (rens r cs)
  | x => x
def rens (r : Nat → Nat) : List AV → List AV
  | [] => []
  | x :: xs => x.ren r :: rens r xs
end
def Ob.ren (r : Nat → Nat) : Ob → Ob
  | .box x => .box (x.ren r)
  | .hole e m ss es i j id => .hole e m ss es i j (r id)
  | .mhole a b s ks vs i id => .mhole a b s ks vs i (r id)
  | o => o

mutual
/-- nothing that is looked at for a while -/
def AV.noBw : AV → Bool
  | .bw _ => false
  | .ag cs => noBws cs
  | .tp cs => noBws cs
  | .fn _ cs => noBws cs
  | _ => true
def noBws : List AV → Bool
  | [] => true
  | x :: xs => x.noBw && noBws xs
end
def Ob.noBw : Ob → Bool
  | .box x => x.noBw
  | .arr _ _ .bor _ => false
  | .map _ _ .bor _ _ _ => false
  | _ => true
def tmNoBw : List (Nat × AV) → Bool
  | [] => true
  | (_, x) :: r => x.noBw && tmNoBw r
def obNoBw (ids : List Nat) : Nat → List Ob → Bool
  | _, [] => true
  | k, o :: os => (ids.contains k || o.noBw) && obNoBw ids (k + 1) os

section
variable {P : Program} {Q : Exit → Act → World → Prop} {w0 : Base} {σ : St} {hv : Hv} {S : Nat → Prop} {F : Nat → List Nat} {a : Act} {w w' : World}
  {K : AV → List Ob → Prop} {next : Value → World → Prop} {ob : List Ob}

mutual
theorem ren_foot {hv hv2 : Hv} {w : World} {r : Nat → Nat} (he : ∀ i, hv2 (r i) = hv i) : ∀ (x : AV) (v : Value) (L : List Nat), x.noBw = true → footA hv w x v L → footA hv2 w (x.ren r) v L
  | .un, _, _, _, h => by simpa only [footA, AV.ren] using h
  | .ud, _, _, _, h => by simpa only [footA, AV.ren] using h
  | .ns, _, _, _, h => by simpa only [footA, AV.ren] using h
  | .t x, _, _, _, h => by simpa only [footA, AV.ren] using h
  | .bw x, _, _, hn, h => by simp [AV.noBw] at hn
  | .rf id off, v, L, _, h => by simp only [AV.ren, footA] at h ⊢; rw [he]; exact h
  | .ra id i m off, v, L, _, h => by simp only [AV.ren, footA] at h ⊢; rw [he]; exact h
  | .sv id i m off, v, L, _, h => by simp only [AV.ren, footA] at h ⊢; rw [he]; exact h
  | .sr id, v, L, _, h => by simp only [AV.ren, footA] at h ⊢; rw [he]; exact h
  | .mr id, v, L, _, h => by simp only [AV.ren, footA] at h ⊢; rw [he]; exact h
  | .it id, v, L, _, h => by simp only [AV.ren, footA] at h ⊢; rw [he]; exact h
  | .ag cs, v, L, hn, h => by
    simp only [AV.noBw] at hn
    simp only [AV.ren, footA] at h ⊢
    obtain ⟨vs, e, h⟩ := h
    exact ⟨vs, e, rens_foot he cs vs L hn h⟩
  | .tp cs, v, L, hn, h => by
    simp only [AV.noBw] at hn
    simp only [AV.ren, footA] at h ⊢
    obtain ⟨vs, e, h⟩ := h
    exact ⟨vs, e, rens_foot he cs vs L hn h⟩
  | .fn f cs, v, L, hn, h => by
    simp only [AV.noBw] at hn
    simp only [AV.ren, footA] at h ⊢
    obtain ⟨vs, e, h⟩ := h
    exact ⟨vs, e, rens_foot he cs vs L hn h⟩
theorem rens_foot {hv hv2 : Hv} {w : World} {r : Nat → Nat} (he : ∀ i, hv2 (r i) = hv i) : ∀ (xs : List AV) (vs : List Value) (L : List Nat), noBws xs = true → footAs hv w xs vs L → footAs hv2 w (rens r xs) vs L
  | [], _, _, _, h => by simpa only [footAs, rens] using h
  | x :: xs, vs, L, hn, h => by
    simp only [noBws, Bool.and_eq_true] at hn
    simp only [footAs, rens] at h ⊢
    obtain ⟨v, vs', L1, L2, e, hL, h1, h2⟩ := h
    exact ⟨v, vs', L1, L2, e, hL, ren_foot he x v L1 hn.1 h1, rens_foot he xs vs' L2 hn.2 h2⟩
end

mutual
theorem ren_under {r : Nat → Nat} {k m : Nat} (hr : ∀ i, i < k → r i < m) : ∀ (x : AV), x.under k = true → (x.ren r).under m = true
  | .un, _ | .ud, _ | .ns, _ | .t _, _ | .bw _, _ => rfl
  | .rf id off, h => by simp only [AV.ren, AV.under, decide_eq_true_eq] at h ⊢; exact hr _ h
  | .ra id i m off, h => by simp only [AV.ren, AV.under, decide_eq_true_eq] at h ⊢; exact hr _ h
  | .sv id i m off, h => by simp only [AV.ren, AV.under, decide_eq_true_eq] at h ⊢; exact hr _ h
  | .sr id, h => by simp only [AV.ren, AV.under, decide_eq_true_eq] at h ⊢; exact hr _ h
  | .mr id, h => by simp only [AV.ren, AV.under, decide_eq_true_eq] at h ⊢; exact hr _ h
  | .it id, h => by simp only [AV.ren, AV.under, decide_eq_true_eq] at h ⊢; exact hr _ h
  | .ag cs, h => by simp only [AV.ren, AV.under] at h ⊢; exact rens_under hr cs h
  | .tp cs, h => by simp only [AV.ren, AV.under] at h ⊢; exact rens_under hr cs h
  | .fn f cs, h => by simp only [AV.ren, AV.under] at h ⊢; exact rens_under hr cs h
theorem rens_under {r : Nat → Nat} {k m : Nat} (hr : ∀ i, i < k → r i < m) : ∀ (xs : List AV), unders k xs = true → unders m (rens r xs) = true
  | [], _ => rfl
  | x :: xs, h => by
    simp only [unders, rens, Bool.and_eq_true] at h ⊢
    exact ⟨ren_under hr x h.1, rens_under hr xs h.2⟩
end

mutual
/-- without what is looked at for a while, it does not matter what may be looked at -/
theorem footA_anyB {hv hv' : Hv} {w : World} {n : Nat} (he : ∀ i, i < n → hv' i = hv i) : ∀ (x : AV) (v : Value) (L : List Nat), x.noBw = true → x.under n = true → footA hv w x v L → footA hv' w x v L
  | .un, _, _, _, _, h | .ud, _, _, _, _, h | .ns, _, _, _, _, h | .t _, _, _, _, _, h => by simpa only [footA] using h
  | .bw x, _, _, hn, _, h => by simp [AV.noBw] at hn
  | .rf id off, v, L, _, hu, h => by simp only [AV.under, decide_eq_true_eq] at hu; simp only [footA] at h ⊢; rw [he _ hu]; exact h
  | .ra id i m off, v, L, _, hu, h => by simp only [AV.under, decide_eq_true_eq] at hu; simp only [footA] at h ⊢; rw [he _ hu]; exact h
  | .sv id i m off, v, L, _, hu, h => by simp only [AV.under, decide_eq_true_eq] at hu; simp only [footA] at h ⊢; rw [he _ hu]; exact h
  | .sr id, v, L, _, hu, h => by simp only [AV.under, decide_eq_true_eq] at hu; simp only [footA] at h ⊢; rw [he _ hu]; exact h
  | .mr id, v, L, _, hu, h => by simp only [AV.under, decide_eq_true_eq] at hu; simp only [footA] at h ⊢; rw [he _ hu]; exact h
  | .it id, v, L, _, hu, h => by simp only [AV.under, decide_eq_true_eq] at hu; simp only [footA] at h ⊢; rw [he _ hu]; exact h
  | .ag cs, v, L, hn, hu, h => by
    simp only [AV.noBw] at hn
    simp only [AV.under] at hu
    simp only [footA] at h ⊢
    obtain ⟨vs, e, h⟩ := h
    exact ⟨vs, e, footAs_anyB he cs vs L hn hu h⟩
  | .tp cs, v, L, hn, hu, h => by
    simp only [AV.noBw] at hn
    simp only [AV.under] at hu
    simp only [footA] at h ⊢
    obtain ⟨vs, e, h⟩ := h
    exact ⟨vs, e, footAs_anyB he cs vs L hn hu h⟩
  | .fn f cs, v, L, hn, hu, h => by
    simp only [AV.noBw] at hn
    simp only [AV.under] at hu
    simp only [footA] at h ⊢
    obtain ⟨vs, e, h⟩ := h
    exact ⟨vs, e, footAs_anyB he cs vs L hn hu h⟩
theorem footAs_anyB {hv hv' : Hv} {w : World} {n : Nat} (he : ∀ i, i < n → hv' i = hv i) : ∀ (xs : List AV) (vs : List Value) (L : List Nat), noBws xs = true → unders n xs = true → footAs hv w xs vs L → footAs hv' w xs vs L
  | [], _, _, _, _, h => by simpa only [footAs] using h
  | x :: xs, vs, L, hn, hu, h => by
    simp only [noBws, Bool.and_eq_true] at hn
    simp only [unders, Bool.and_eq_true] at hu
    simp only [footAs] at h ⊢
    obtain ⟨v, vs', L1, L2, e, hL, h1, h2⟩ := h
    exact ⟨v, vs', L1, L2, e, hL, footA_anyB he x v L1 hn.1 hu.1 h1, footAs_anyB he xs vs' L2 hn.2 hu.2 h2⟩
end

mutual
theorem ren_id : ∀ (x : AV), x.ren (fun i => i) = x
  | .un | .ud | .ns | .t _ | .bw _ | .rf _ _ | .ra _ _ _ _ | .sv _ _ _ _ | .sr _ | .mr _ | .it _ => by simp [AV.ren]
  | .ag cs => by simp only [AV.ren, rens_id cs]
  | .tp cs => by simp only [AV.ren, rens_id cs]
  | .fn f cs => by simp only [AV.ren, rens_id cs]
theorem rens_id : ∀ (xs : List AV), rens (fun i => i) xs = xs
  | [] => rfl
  | x :: xs => by simp only [rens, ren_id x, rens_id xs]
end
mutual
theorem ren_noBw {r : Nat → Nat} : ∀ (x : AV), x.noBw = true → (x.ren r).noBw = true
  | .un, _ | .ud, _ | .ns, _ | .t _, _ | .rf _ _, _ | .ra _ _ _ _, _ | .sv _ _ _ _, _ | .sr _, _ | .mr _, _ | .it _, _ => rfl
  | .bw _, h => by simp [AV.noBw] at h
  | .ag cs, h => by simp only [AV.noBw, AV.ren] at h ⊢; exact rens_noBw cs h
  | .tp cs, h => by simp only [AV.noBw, AV.ren] at h ⊢; exact rens_noBw cs h
  | .fn f cs, h => by simp only [AV.noBw, AV.ren] at h ⊢; exact rens_noBw cs h
theorem rens_noBw {r : Nat → Nat} : ∀ (xs : List AV), noBws xs = true → noBws (rens r xs) = true
  | [], _ => rfl
  | x :: xs, h => by
    simp only [noBws, rens, Bool.and_eq_true] at h ⊢
    exact ⟨ren_noBw x h.1, rens_noBw xs h.2⟩
end

/-- an object, under other names and with other leave to look -/
theorem ObR.anyB {hv hv' : Hv} {S : Nat → Prop} {w : World} {Fi : List Nat} {h : Value} {o : Ob} {r : Nat → Nat} (ho : ObR hv S w Fi h o) (hn : o.noBw = true) (he : ∀ i, hv' (r i) = hv i) : ObR hv' S w Fi h (o.ren r) := by
  cases o with
  | dead => trivial
  | box x =>
    obtain ⟨b, e, u, L, h1, h2, h3, h4⟩ := ho
    exact ⟨b, e, u, L, h1, h2, ren_foot he x u L hn h3, h4⟩
  | arr e m k es =>
    obtain ⟨vs, h1, h2, h3, h4⟩ := ho
    refine ⟨vs, h1, ?_, h3, h4⟩
    cases k with
    | own s => exact h2
    | clo => exact h2
    | bor => simp [Ob.noBw] at hn
  | hole e m s es i j id =>
    obtain ⟨vs, v, y, L0, e1, m1, s1, h1, h2, h3, h4, h5, h6, h7, h8, h9, h10⟩ := ho
    exact ⟨vs, v, y, L0, e1, m1, s1, h1, h2, h3, h4, h5, by rw [he]; exact h6, h7, h8, h9, by rw [he]; exact h10⟩
  | map kt vt k ks vs pend =>
    obtain ⟨rr, es, clock, l, h1, h2, h3⟩ := ho
    refine ⟨rr, es, clock, l, h1, ?_, h3⟩
    cases k with
    | own s => exact h2
    | clo => exact h2
    | bor => simp [Ob.noBw] at hn
  | mhole kt vt s ks vs i id => exact ho
  | iter c xs => exact ho

theorem ren_owns {o : Ob} {r : Nat → Nat} : (o.ren r).owns = o.owns := by
  cases o <;> first | rfl | (rename_i k _; cases k <;> rfl) | (rename_i k _ _ _; cases k <;> rfl)
theorem ren_dead {o : Ob} {r : Nat → Nat} (h : o.ren r ≠ .dead) : o ≠ .dead := by rintro rfl; exact h rfl

/-- what a callee may write: the roots of the objects that are handed over, and what these own -/
def Hand (ob : List Ob) (hv : Hv) (F : Nat → List Nat) (ids : List Nat) (b : Nat) : Prop :=
  ∃ i ∈ ids, ∃ o, ob[i]? = some o ∧ o ≠ .dead ∧ (blkOf (hv i) = some b ∨ (o.owns = true ∧ b ∈ F i))

/-- the names of a callee's objects here -/
def rn (ids : List Nat) (len : Nat) (k : Nat) : Nat := match ids[k]? with
  | some i => i
  | none => len + (k - ids.length)

/-- the objects behind the call -/
def placeOb : List Nat → List Ob → List Ob → List Ob
  | i :: ids, o :: os, ob => placeOb ids os (ob.set i o)
  | _, _, ob => ob

theorem placeOb_length : ∀ (ids : List Nat) (os ob : List Ob), (placeOb ids os ob).length = ob.length
  | [], _, _ => by simp [placeOb]
  | _ :: _, [], _ => by simp [placeOb]
  | i :: ids, o :: os, ob => by simp [placeOb, placeOb_length ids os]

theorem placeOb_miss : ∀ (ids : List Nat) (os ob : List Ob) (i : Nat), i ∉ ids → (placeOb ids os ob)[i]? = ob[i]?
  | [], _, _, _, _ => by simp [placeOb]
  | _ :: _, [], _, _, _ => by simp [placeOb]
  | j :: ids, o :: os, ob, i, h => by
    simp only [List.mem_cons, not_or] at h
    simp only [placeOb]
    rw [placeOb_miss ids os _ i h.2, List.getElem?_set_ne (Ne.symm h.1)]

theorem placeOb_hit : ∀ (ids : List Nat) (os ob : List Ob) (k i : Nat), ids.Nodup → ids.length ≤ os.length → ids[k]? = some i → i < ob.length → (placeOb ids os ob)[i]? = os[k]?
  | [], _, _, _, _, _, _, h, _ => by simp at h
  | j :: ids, [], _, _, _, _, hl, _, _ => by simp at hl
  | j :: ids, o :: os, ob, 0, i, hn, hl, h, hi => by
    simp only [List.getElem?_cons_zero, Option.some.injEq] at h
    subst h
    simp only [placeOb]
    rw [placeOb_miss ids os _ j (List.nodup_cons.1 hn).1, List.getElem?_set_self hi]
    rfl
  | j :: ids, o :: os, ob, k + 1, i, hn, hl, h, hi => by
    simp only [List.getElem?_cons_succ] at h
    simp only [placeOb, List.getElem?_cons_succ]
    exact placeOb_hit ids os _ k i (List.nodup_cons.1 hn).2 (by simpa using hl) h (by simpa using hi)

/-- how the objects stand behind a call -/
def behind (ids : List Nat) (obs' ob : List Ob) : List Ob := placeOb ids (obs'.map (Ob.ren (rn ids ob.length))) ob ++ (obs'.drop ids.length).map (Ob.ren (rn ids ob.length))

theorem behind_get {ids : List Nat} {obs' ob : List Ob} (hn : ids.Nodup) (hl : ids.length ≤ obs'.length) (hids : ∀ i ∈ ids, i < ob.length) {i : Nat} {o' : Ob} (h : (behind ids obs' ob)[i]? = some o') :
    (i < ob.length ∧ i ∉ ids ∧ ob[i]? = some o') ∨ ∃ k o, i = rn ids ob.length k ∧ obs'[k]? = some o ∧ o' = o.ren (rn ids ob.length) := by
  unfold behind at h
  have hlen := placeOb_length ids (obs'.map (Ob.ren (rn ids ob.length))) ob
  rcases Nat.lt_or_ge i ob.length with hi | hi
  · rw [List.getElem?_append_left (by omega)] at h
    by_cases hm : i ∈ ids
    · obtain ⟨k, hk, hki⟩ := List.getElem_of_mem hm
      have hk' : ids[k]? = some i := by rw [List.getElem?_eq_getElem hk, hki]
      rw [placeOb_hit ids _ _ k i hn (by simpa using hl) hk' hi, List.getElem?_map, Option.map_eq_some_iff] at h
      obtain ⟨o, h1, h2⟩ := h
      exact .inr ⟨k, o, by simp [rn, hk'], h1, h2.symm⟩
    · rw [placeOb_miss _ _ _ _ hm] at h
      exact .inl ⟨hi, hm, h⟩
  · rw [List.getElem?_append_right (by omega), hlen, List.getElem?_map, Option.map_eq_some_iff, ] at h
    obtain ⟨o, h1, h2⟩ := h
    rw [List.getElem?_drop] at h1
    refine .inr ⟨ids.length + (i - ob.length), o, ?_, h1, h2.symm⟩
    simp only [rn]
    rw [List.getElem?_eq_none (by omega)]
    dsimp only
    omega

theorem behind_length {ids : List Nat} {obs' ob : List Ob} : (behind ids obs' ob).length = ob.length + (obs'.length - ids.length) := by
  simp [behind, placeOb_length]

theorem rn_lt {ids : List Nat} {obs' ob : List Ob} (hids : ∀ i ∈ ids, i < ob.length) {k : Nat} (hk : k < obs'.length) : rn ids ob.length k < ob.length + (obs'.length - ids.length) := by
  unfold rn
  split
  · rename_i i hi
    have := hids i (List.mem_of_getElem? hi)
    omega
  · rename_i hi
    have : ids.length ≤ k := by
      rcases Nat.lt_or_ge k ids.length with h | h
      · rw [List.getElem?_eq_getElem h] at hi; cases hi
      · exact h
    omega

/-- a callee's name for an object here -/
def nr (ids : List Nat) (len : Nat) (i : Nat) : Nat := if i < len then ids.idxOf i else ids.length + (i - len)

theorem nr_rn {ids : List Nat} {len : Nat} (hn : ids.Nodup) (hids : ∀ i ∈ ids, i < len) (k : Nat) : nr ids len (rn ids len k) = k := by
  unfold rn
  split
  · rename_i i hi
    have hk := get_lt hi
    have hik : ids[k] = i := (List.getElem?_eq_some_iff.1 hi).2
    have := hids i (List.mem_of_getElem? hi)
    unfold nr
    rw [if_pos this, ← hik]
    exact hn.idxOf_getElem k hk
  · rename_i hi
    have : ids.length ≤ k := by
      rcases Nat.lt_or_ge k ids.length with h | h
      · rw [List.getElem?_eq_getElem h] at hi; cases hi
      · exact h
    unfold nr
    rw [if_neg (by omega)]
    omega

theorem obNoBw_get {ids : List Nat} : ∀ {os : List Ob} {k : Nat}, obNoBw ids k os = true → ∀ {i : Nat} {o : Ob}, os[i]? = some o → k + i ∉ ids → o.noBw = true
  | [], _, _, _, _, h, _ => by simp at h
  | o' :: os, k, hb, i, o, h, hi => by
    simp only [obNoBw, Bool.and_eq_true, Bool.or_eq_true] at hb
    cases i with
    | zero =>
      simp only [List.getElem?_cons_zero, Option.some.injEq] at h
      subst h
      rcases hb.1 with h | h
      · exact absurd (by simpa using h) hi
      · exact h
    | succ i => exact obNoBw_get hb.2 (by simpa using h) (by rw [show k + 1 + i = k + (i + 1) by omega]; exact hi)

theorem tmNoBw_get : ∀ {tm : List (Nat × AV)}, tmNoBw tm = true → ∀ t, (getL tm t).noBw = true
  | [], _, t => rfl
  | (k, x) :: r, h, t => by
    simp only [tmNoBw, Bool.and_eq_true] at h
    simp only [getL]
    split
    · exact h.1
    · exact tmNoBw_get h.2 t

/-- WHAT CAME BACK, BESIDE WHAT WAS THERE -/
theorem Rel.join (hr : Rel w0 σ hv S F a w) {ids : List Nat} (hn : ids.Nodup) (hids : ∀ i ∈ ids, i < σ.ob.length) {Lc : Nat → Prop} {av : Nat → Value} (hav : ∀ k i, ids[k]? = some i → av k = hv i) {obs' : List Ob} {hv1 : Hv} {S1 G : Nat → Prop} {F1 : Nat → List Nat}
    (hc : Rel ⟨w, Lc, Hand σ.ob hv F ids, ids.length, av⟩ ⟨0, [], obs'⟩ hv1 S1 F1 ⟨#[], []⟩ w') (hG : ∀ b, G b → S1 b ∧ (S b ∨ Hand σ.ob hv F ids b ∨ w.heap.size ≤ b))
    (hob : ∀ (id : Nat) (o : Ob), obs'[id]? = some o → o.noBw = true ∧ ObR hv1 G w' (F1 id) (hv1 id) o)
    (hbw : (∀ b, Hand σ.ob hv F ids b → ¬ hv.B b) ∨ (tmNoBw σ.tm = true ∧ obNoBw ids 0 σ.ob = true)) :
    ∃ hv2 F2, Rel w0 { σ with ob := behind ids obs' σ.ob } hv2 (fun b => S b ∨ G b) F2 a w' ∧ ∀ k, hv2 (rn ids σ.ob.length k) = hv1 k := by
  obtain ⟨M, hM⟩ : ∃ M, M = Hand σ.ob hv F ids := ⟨_, rfl⟩
  rw [← hM] at hc hG hbw
  obtain ⟨n, hnn⟩ : ∃ n, n = σ.ob.length := ⟨_, rfl⟩
  have hlo : ids.length ≤ obs'.length := hc.an
  have hbs := hr.below.size
  have hcs : w.heap.size ≤ w'.heap.size := hc.below.size
  -- what the callee may write
  have mB : ∀ b, M b → (w0.M b ∨ w0.heap.size ≤ b) ∧ b < w.heap.size ∧ ¬ S b := by
    intro b hb
    rw [hM] at hb
    obtain ⟨i, hi, o, q1, q2, q3⟩ := hb
    rcases q3 with q3 | ⟨q3, q4⟩
    · obtain ⟨k1, k2, k3⟩ := hr.root i o q1 q2 b q3
      exact ⟨k1, k2, fun h => k3 (hr.SB b h)⟩
    · obtain ⟨k1, k2, k3⟩ := hr.fown i o q1 q3 b q4
      exact ⟨k1, hr.Blt b k2, k3⟩
  have mRoot : ∀ (i : Nat) (o : Ob), i ∉ ids → σ.ob[i]? = some o → o ≠ .dead → ∀ b, blkOf (hv i) = some b → ¬ M b := by
    intro i o hi h1 h2 b hb hm
    rw [hM] at hm
    obtain ⟨j, hj, o', q1, q2, q3⟩ := hm
    rcases q3 with q3 | ⟨q3, q4⟩
    · exact hr.sep i j o o' (by rintro rfl; exact hi hj) h1 q1 h2 q2 b hb q3
    · exact (hr.root i o h1 h2 b hb).2.2 (hr.fown j o' q1 q3 b q4).2.1
  have mOwn : ∀ (i : Nat) (o : Ob), i ∉ ids → σ.ob[i]? = some o → o.owns = true → ∀ b ∈ F i, ¬ M b := by
    intro i o hi h1 h2 b hb hm
    rw [hM] at hm
    obtain ⟨j, hj, o', q1, q2, q3⟩ := hm
    rcases q3 with q3 | ⟨q3, q4⟩
    · exact (hr.root j o' q1 q2 b q3).2.2 (hr.fown i o h1 h2 b hb).2.1
    · exact hr.fsep i j o o' (by rintro rfl; exact hi hj) h1 q1 h2 q3 b hb q4
  have same : ∀ b, b < w.heap.size → ¬ M b → w'.heap[b]? = w.heap[b]? := fun b h1 h2 => hc.below.block b h1 h2
  have sameS : ∀ b, S b → w'.heap[b]? = w.heap[b]? := fun b hb => same b (hr.Slt b hb) (fun hm => (mB b hm).2.2 hb)
  let B2 : Nat → Prop := fun b => (hv.B b ∧ ¬ M b) ∨ G b ∨ ∃ k o, obs'[k]? = some o ∧ o.owns = true ∧ b ∈ F1 k
  let hv2 : Hv := ⟨fun i => if i < n then hv i else hv1 (ids.length + (i - n)), B2⟩
  let F2 : Nat → List Nat := fun i => if i < n ∧ i ∉ ids then F i else F1 (nr ids n i)
  have e1 : ∀ i, i < n → hv2 i = hv i := fun i hi => by show (if i < n then hv i else _) = _; rw [if_pos hi]
  have e2 : ∀ k, hv2 (rn ids n k) = hv1 k := by
    intro k
    unfold rn
    split
    · rename_i i hi
      rw [e1 i (by rw [hnn]; exact hids i (List.mem_of_getElem? hi)), ← hav k i hi]
      exact (hc.av k (get_lt hi)).symm
    · rename_i hi
      have : ids.length ≤ k := by
        rcases Nat.lt_or_ge k ids.length with h | h
        · rw [List.getElem?_eq_getElem h] at hi; cases hi
        · exact h
      show (if n + (k - ids.length) < n then _ else hv1 (ids.length + (n + (k - ids.length) - n))) = _
      rw [if_neg (by omega)]
      congr 1; omega
  have f1 : ∀ i, i < n → i ∉ ids → F2 i = F i := fun i h1 h2 => if_pos ⟨h1, h2⟩
  have f2 : ∀ k, F2 (rn ids n k) = F1 k := by
    intro k
    show (if rn ids n k < n ∧ rn ids n k ∉ ids then F _ else F1 (nr ids n (rn ids n k))) = F1 k
    rw [if_neg, nr_rn hn (by rw [hnn]; exact hids)]
    rintro ⟨h1, h2⟩
    unfold rn at h1 h2
    split at h2
    · rename_i i hi
      exact h2 (List.mem_of_getElem? hi)
    · rename_i hi
      rw [hi] at h1
      dsimp only at h1
      omega
  have get : ∀ {i : Nat} {o' : Ob}, (behind ids obs' σ.ob)[i]? = some o' → (i < n ∧ i ∉ ids ∧ σ.ob[i]? = some o') ∨ ∃ k o, i = rn ids n k ∧ obs'[k]? = some o ∧ o' = o.ren (rn ids n) := by
    intro i o' h
    have := behind_get hn hlo hids h
    rwa [← hnn] at this
  have rinj : ∀ {k k2 : Nat}, rn ids n k = rn ids n k2 → k = k2 := fun {k k2} h => by
    have h1 := nr_rn (ids := ids) (len := n) hn (by rw [hnn]; exact hids) k
    have h2 := nr_rn (ids := ids) (len := n) hn (by rw [hnn]; exact hids) k2
    rw [← h1, ← h2, h]
  -- old things in the new world
  have bwOk : (∀ b, hv.B b → B2 b ∧ w'.heap[b]? = w.heap[b]?) ∨ (tmNoBw σ.tm = true ∧ obNoBw ids 0 σ.ob = true) :=
    hbw.imp (fun h b hb => ⟨.inl ⟨hb, fun hm => h b hm hb⟩, same b (hr.Blt b hb) (fun hm => h b hm hb)⟩) (fun h => h)
  have gB : ∀ b, G b → hv1.B b := fun b hb => hc.SB b (hG b hb).1
  -- roots
  have rootc : ∀ (k : Nat) (o : Ob), obs'[k]? = some o → o ≠ .dead → ∀ b, blkOf (hv1 k) = some b → (M b ∨ w.heap.size ≤ b) ∧ b < w'.heap.size ∧ ¬ B2 b ∧ ¬ S b := by
    intro k o h1 h2 b hb
    obtain ⟨q1, q2, q3⟩ := hc.root k o h1 h2 b hb
    have hS : ¬ S b := fun hh => by
      rcases q1 with q1 | q1
      · exact (mB b q1).2.2 hh
      · have := hr.Slt b hh
        have : w.heap.size ≤ b := q1
        omega
    refine ⟨q1, q2, fun hh => ?_, hS⟩
    rcases hh with ⟨hh, hm⟩ | hh | ⟨k2, o2, g1, g2, g3⟩
    · rcases q1 with q1 | q1
      · exact hm q1
      · have := hr.Blt b hh
        have : w.heap.size ≤ b := q1
        omega
    · exact q3 (gB b hh)
    · exact q3 (hc.fown k2 o2 g1 g2 b g3).2.1
  have rootr : ∀ (i : Nat) (o : Ob), i ∉ ids → σ.ob[i]? = some o → o ≠ .dead → ∀ b, blkOf (hv i) = some b → ¬ M b ∧ b < w.heap.size ∧ ¬ B2 b := by
    intro i o hi h1 h2 b hb
    obtain ⟨q1, q2, q3⟩ := hr.root i o h1 h2 b hb
    have hm := mRoot i o hi h1 h2 b hb
    refine ⟨hm, q2, fun hh => ?_⟩
    rcases hh with ⟨hh, _⟩ | hh | ⟨k2, o2, g1, g2, g3⟩
    · exact q3 hh
    · rcases (hG b hh).2 with h | h | h
      · exact q3 (hr.SB b h)
      · exact hm h
      · omega
    · rcases (hc.fown k2 o2 g1 g2 b g3).1 with h | h
      · exact hm h
      · have : w.heap.size ≤ b := h
        omega
  have oldOb : ∀ (i : Nat) (o : Ob), i ∉ ids → σ.ob[i]? = some o → ObR hv2 (fun b => S b ∨ G b) w' (F2 i) (hv2 i) o := by
    intro i o hi h1
    have hlt : i < n := by rw [hnn]; exact get_lt h1
    rw [e1 i hlt, f1 i hlt hi]
    by_cases hd : o = .dead
    · subst hd; trivial
    · have hroot : ∀ b, blkOf (hv i) = some b → w'.heap[b]? = w.heap[b]? := fun b hb => same b (hr.root i o h1 hd b hb).2.1 (rootr i o hi h1 hd b hb).1
      have hown : o.owns = true → ∀ b ∈ F i, w'.heap[b]? = w.heap[b]? := fun ho b hb => same b (hr.Blt b (hr.fown i o h1 ho b hb).2.1) (mOwn i o hi h1 ho b hb)
      rcases bwOk with hB | ⟨_, hB⟩
      · exact (hr.ob i o h1).mono (hr.uob i o h1) (fun i hi => e1 i (by rw [hnn]; exact hi)) (fun b hb => ⟨.inl hb, sameS b hb⟩) hB hown hroot
      · have hnb := obNoBw_get hB h1 (by simpa using hi)
        have h0 : ObR ⟨hv.v, fun _ => False⟩ S w (F i) (hv i) o := by
          have := (hr.ob i o h1).anyB (hv' := ⟨hv.v, fun _ => False⟩) (r := fun i => i) hnb (fun _ => rfl)
          have hid : o.ren (fun i => i) = o := by
            cases o <;> simp only [Ob.ren]
            rename_i x
            congr 1
            exact ren_id x
          rwa [hid] at this
        exact h0.mono (hv' := hv2) (hr.uob i o h1) (fun i hi => e1 i (by rw [hnn]; exact hi)) (fun b hb => ⟨.inl hb, sameS b hb⟩) (fun b hb => hb.elim) hown hroot
  refine ⟨hv2, F2, ?_, by rw [← hnn]; exact e2⟩
  refine { size := hr.size, defs := hr.defs, tm := fun t => ?_, utm := fun t => ?_, ob := fun i o' ho' => ?_, uob := fun i o' ho' => ?_, root := fun i o' ho' hd b hb => ?_, sep := fun i j oi oj hij hi hj di dj b hb => ?_, SB := fun b hb => ?_, Blt := fun b hb => ?_, Bin := fun b hb => ?_, fown := fun i o' ho' hown b hb => ?_, fsep := fun i j oi oj hij hi hj hoi hoj b hb => ?_, below := ?_, one := fun i => ?_, an := ?_, av := fun i hi => ?_ }
  · obtain ⟨L, h1, h2⟩ := hr.tm t
    refine ⟨L, ?_, fun b hb => .inl (h2 b hb)⟩
    rcases bwOk with hB | ⟨hB, _⟩
    · exact footA_hv (hv := hv) (hv' := hv2) (fun b hb => (hB b hb).1) (fun i hi => e1 i (by rw [hnn]; exact hi)) _ _ L (hr.utm t) (footA_mono (fun b hb => (hB b hb).2) _ _ L (fun b hb => sameS b (h2 b hb)) h1)
    · have hnb := tmNoBw_get hB t
      have h0 := footA_anyB (hv := hv) (hv' := ⟨hv.v, fun _ => False⟩) (n := σ.ob.length) (fun _ _ => rfl) _ _ L hnb (hr.utm t) h1
      exact footA_hv (hv := ⟨hv.v, fun _ => False⟩) (hv' := hv2) (fun b hb => hb.elim) (fun i hi => e1 i (by rw [hnn]; exact hi)) _ _ L (hr.utm t) (footA_mono (hv := ⟨hv.v, fun _ => False⟩) (fun b hb => False.elim hb) _ _ L (fun b hb => sameS b (h2 b hb)) h0)
  · show (getL σ.tm t).under (behind ids obs' σ.ob).length = true
    rw [behind_length]
    exact AV.under_mono (by omega) _ (hr.utm t)
  · rcases get ho' with ⟨h1, h2, h3⟩ | ⟨k, o, rfl, h1, rfl⟩
    · exact oldOb i o' h2 h3
    · rw [e2 k, f2 k]
      obtain ⟨q1, q2⟩ := hob k o h1
      have := q2.anyB (hv' := hv2) (r := rn ids n) q1 e2
      have hm : ∀ {o : Ob} {Fi h}, ObR hv2 G w' Fi h o → o.noBw = true → ObR hv2 (fun b => S b ∨ G b) w' Fi h o := by
        intro o Fi h ho hnb
        cases o with
        | dead => trivial
        | box x => obtain ⟨b, e, u, L, h1, h2, h3, h4⟩ := ho; exact ⟨b, e, u, L, h1, h2, h3, fun b hb => .inr (h4 b hb)⟩
        | arr e m k es =>
          obtain ⟨vs, h1, h2, h3, h4⟩ := ho
          refine ⟨vs, h1, ?_, h3, h4⟩
          cases k with
          | own s => exact h2
          | clo => obtain ⟨L, a1, a2⟩ := h2; exact ⟨L, a1, fun b hb => .inr (a2 b hb)⟩
          | bor => simp [Ob.noBw] at hnb
        | hole => exact ho
        | map kt vt k ks vs pend =>
          obtain ⟨r, es, clock, l, h1, h2, h3⟩ := ho
          refine ⟨r, es, clock, l, h1, ?_, h3⟩
          cases k with
          | own s => exact h2
          | clo => obtain ⟨L, a1, a2⟩ := h2; exact ⟨L, a1, fun b hb => .inr (a2 b hb)⟩
          | bor => simp [Ob.noBw] at hnb
        | mhole => exact ho
        | iter c xs =>
          obtain ⟨b, m, es, clock, seen, last, lc, l, L1, L2, h1, h2, h3, h4, h5, h6, h7, h8, h9, h10, h11, h12⟩ := ho
          exact ⟨b, m, es, clock, seen, last, lc, l, L1, L2, h1, h2, .inr h3, h4, h5, h6, h7, h8, h9, h10, h11, fun b hb => .inr (h12 b hb)⟩
      exact hm this (by cases o <;> first | exact q1 | (simp only [Ob.ren, Ob.noBw] at q1 ⊢; exact ren_noBw _ q1))
  · show o'.under (behind ids obs' σ.ob).length = true
    rw [behind_length]
    rcases get ho' with ⟨h1, h2, h3⟩ | ⟨k, o, rfl, h1, rfl⟩
    · exact Ob.under_mono (by omega) _ (hr.uob i o' h3)
    · have hu := hc.uob k o h1
      have hlt : ∀ i, i < obs'.length → rn ids n i < σ.ob.length + (obs'.length - ids.length) := fun i hi => by rw [hnn]; exact rn_lt (obs' := obs') hids hi
      cases o <;> first | rfl | exact ren_under hlt _ hu | (simp only [Ob.ren, Ob.under, decide_eq_true_eq] at hu ⊢; exact hlt _ hu)
  · rcases get ho' with ⟨h1, h2, h3⟩ | ⟨k, o, rfl, h1, rfl⟩
    · rw [e1 i h1] at hb
      obtain ⟨q1, q2, q3⟩ := rootr i o' h2 h3 hd b hb
      exact ⟨(hr.root i o' h3 hd b hb).1, by omega, q3⟩
    · rw [e2 k] at hb
      obtain ⟨q1, q2, q3, _⟩ := rootc k o h1 (ren_dead hd) b hb
      refine ⟨?_, q2, q3⟩
      rcases q1 with q1 | q1
      · exact (mB b q1).1
      · exact .inr (Nat.le_trans hbs q1)
  · rcases get hi with ⟨h1, h2, h3⟩ | ⟨k, o, rfl, h1, rfl⟩
    · rw [e1 i h1] at hb
      obtain ⟨q1, q2, _⟩ := rootr i oi h2 h3 di b hb
      rcases get hj with ⟨g1, g2, g3⟩ | ⟨k, o, rfl, g1, rfl⟩
      · rw [e1 j g1]; exact hr.sep i j oi oj hij h3 g3 di dj b hb
      · rw [e2 k]
        intro hh
        rcases (rootc k o g1 (ren_dead dj) b hh).1 with h | h
        · exact q1 h
        · omega
    · rw [e2 k] at hb
      rcases get hj with ⟨g1, g2, g3⟩ | ⟨k2, o2, rfl, g1, rfl⟩
      · rw [e1 j g1]
        intro hh
        obtain ⟨q1, q2, _⟩ := rootr j oj g2 g3 dj b hh
        rcases (rootc k o h1 (ren_dead di) b hb).1 with h | h
        · exact q1 h
        · omega
      · rw [e2 k2]
        exact hc.sep k k2 o o2 (by rintro rfl; exact hij rfl) h1 g1 (ren_dead di) (ren_dead dj) b hb
  · rcases hb with hb | hb
    · exact .inl ⟨hr.SB b hb, fun hm => (mB b hm).2.2 hb⟩
    · exact .inr (.inl hb)
  · rcases hb with ⟨hb, _⟩ | hb | ⟨k, o, g1, g2, g3⟩
    · exact Nat.lt_of_lt_of_le (hr.Blt b hb) hcs
    · exact hc.Blt b (gB b hb)
    · exact hc.Blt b (hc.fown k o g1 g2 b g3).2.1
  · have fromM : (M b ∨ w.heap.size ≤ b) → w0.L b ∨ w0.M b ∨ w0.heap.size ≤ b := fun h => h.elim (fun h => .inr (mB b h).1) (fun h => .inr (.inr (Nat.le_trans hbs h)))
    rcases hb with ⟨hb, _⟩ | hb | ⟨k, o, g1, g2, g3⟩
    · exact hr.Bin b hb
    · rcases (hG b hb).2 with h | h
      · exact hr.Bin b (hr.SB b h)
      · exact fromM h
    · exact fromM (hc.fown k o g1 g2 b g3).1
  · rcases get ho' with ⟨h1, h2, h3⟩ | ⟨k, o, rfl, h1, rfl⟩
    · rw [f1 i h1 h2] at hb
      obtain ⟨q1, q2, q3⟩ := hr.fown i o' h3 hown b hb
      have hm := mOwn i o' h2 h3 hown b hb
      refine ⟨q1, .inl ⟨q2, hm⟩, fun hh => ?_⟩
      rcases hh with hh | hh
      · exact q3 hh
      · rcases (hG b hh).2 with h | h | h
        · exact q3 h
        · exact hm h
        · have := hr.Blt b q2; omega
    · rw [f2 k] at hb
      rw [ren_owns] at hown
      obtain ⟨q1, q2, q3⟩ := hc.fown k o h1 hown b hb
      refine ⟨?_, .inr (.inr ⟨k, o, h1, hown, hb⟩), fun hh => ?_⟩
      · rcases q1 with q1 | q1
        · exact (mB b q1).1
        · exact .inr (Nat.le_trans hbs q1)
      · rcases hh with hh | hh
        · rcases q1 with q1 | q1
          · exact (mB b q1).2.2 hh
          · have := hr.Slt b hh
            have : w.heap.size ≤ b := q1
            omega
        · exact q3 (hG b hh).1
  · rcases get hi with ⟨h1, h2, h3⟩ | ⟨k, o, rfl, h1, rfl⟩
    · rw [f1 i h1 h2] at hb
      have hm := mOwn i oi h2 h3 hoi b hb
      have hlt := hr.Blt b (hr.fown i oi h3 hoi b hb).2.1
      rcases get hj with ⟨g1, g2, g3⟩ | ⟨k, o, rfl, g1, rfl⟩
      · rw [f1 j g1 g2]; exact hr.fsep i j oi oj hij h3 g3 hoi hoj b hb
      · rw [f2 k]
        rw [ren_owns] at hoj
        intro hh
        rcases (hc.fown k o g1 hoj b hh).1 with h | h
        · exact hm h
        · have : w.heap.size ≤ b := h
          omega
    · rw [f2 k] at hb
      rw [ren_owns] at hoi
      rcases get hj with ⟨g1, g2, g3⟩ | ⟨k2, o2, rfl, g1, rfl⟩
      · rw [f1 j g1 g2]
        intro hh
        have hm := mOwn j oj g2 g3 hoj b hh
        have hlt := hr.Blt b (hr.fown j oj g3 hoj b hh).2.1
        rcases (hc.fown k o h1 hoi b hb).1 with h | h
        · exact hm h
        · have : w.heap.size ≤ b := h
          omega
      · rw [f2 k2]
        rw [ren_owns] at hoj
        exact hc.fsep k k2 o o2 (by rintro rfl; exact hij rfl) h1 g1 hoi hoj b hb
  · refine hr.below.trans ⟨hc.below.os, hc.below.tape, hc.below.output, hcs, fun k hk hm => same k (by omega) fun h => ?_, hc.below.drawn⟩
    rcases (mB k h).1 with h | h
    · exact hm h
    · omega
  · show (if i < n then hv i else hv1 (ids.length + (i - n))).oneCell' = true
    split
    · exact hr.one _
    · exact hc.one _
  · show w0.na ≤ (behind ids obs' σ.ob).length
    rw [behind_length]
    have := hr.an
    omega
  · have := hr.an
    rw [e1 i (by omega)]
    exact hr.av i hi

end

end Go.Proofs.Ythhgcklidfilfaa.BX
