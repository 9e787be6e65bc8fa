/-
  A frame for proofs over whole functions, second make: a region whose order is open, in which objects are made and boxes written that do not wait for one another.
-/
import Derived.Test.YthhgcklidfilfaaBxQm
namespace Go.Proofs.Ythhgcklidfilfaa.BX
set_option linter.unusedSectionVars false
set_option linter.unusedSimpArgs false
set_option linter.unusedVariables false
open Go Go.RowKit
variable [Bd]

mutual
/-- it does not speak of this object -/
def AV.avoid (s : Nat) : AV → Bool
  | .rf i _ => i != s
  | .ra i _ _ _ => i != s
  | .sv i _ _ _ => i != s
  | .sr i => i != s
  | .mr i => i != s
  | .it i => i != s
  | .ag cs => avoids s cs
  | .tp cs => avoids s cs
  | .fn _ cs => avoids s cs
  | _ => true
def avoids (s : Nat) : List AV → Bool
  | [] => true
  | x :: xs => x.avoid s && avoids s xs
end
def Ob.avoid (s : Nat) : Ob → Bool
  | .box x => x.avoid s
  | .hole _ _ _ _ _ _ id => id != s
  | .mhole _ _ _ _ _ _ id => id != s
  | _ => true
def avoidH (H : List Nat) (x : AV) : Bool := H.all fun s => x.avoid s
/-- no map lies open -/
def noMh : List Ob → Bool
  | [] => true
  | .mhole .. :: _ => false
  | _ :: os => noMh os
theorem noMh_get : ∀ {os : List Ob}, noMh os = true → ∀ {i : Nat} {o : Ob}, os[i]? = some o → (∀ a b s ks vs j id, o ≠ .mhole a b s ks vs j id)
  | [], _, i, o, h => by simp at h
  | o' :: os, hm, 0, o, h => by
    simp only [List.getElem?_cons_zero, Option.some.injEq] at h
    subst h
    rintro a b s ks vs j id rfl
    simp [noMh] at hm
  | o' :: os, hm, i + 1, o, h => noMh_get (os := os) (by cases o' <;> simp_all [noMh]) (by simpa using h)
mutual
theorem avoid_under {n s : Nat} (h : n ≤ s) : ∀ x : AV, x.under n = true → x.avoid s = true
  | .un, _ | .ud, _ | .ns, _ | .t _, _ | .bw _, _ => rfl
  | .ag cs, hx => by simp only [AV.under] at hx; simp only [AV.avoid]; exact avoids_under h cs hx
  | .tp cs, hx => by simp only [AV.under] at hx; simp only [AV.avoid]; exact avoids_under h cs hx
  | .fn _ cs, hx => by simp only [AV.under] at hx; simp only [AV.avoid]; exact avoids_under h cs hx
  | .rf id _, hx => by simp only [AV.under, decide_eq_true_eq] at hx; simp only [AV.avoid, bne_iff_ne]; omega
  | .sr id, hx => by simp only [AV.under, decide_eq_true_eq] at hx; simp only [AV.avoid, bne_iff_ne]; omega
  | .ra id _ _ _, hx => by simp only [AV.under, decide_eq_true_eq] at hx; simp only [AV.avoid, bne_iff_ne]; omega
  | .sv id _ _ _, hx => by simp only [AV.under, decide_eq_true_eq] at hx; simp only [AV.avoid, bne_iff_ne]; omega
  | .mr id, hx => by simp only [AV.under, decide_eq_true_eq] at hx; simp only [AV.avoid, bne_iff_ne]; omega
  | .it id, hx => by simp only [AV.under, decide_eq_true_eq] at hx; simp only [AV.avoid, bne_iff_ne]; omega
theorem avoids_under {n s : Nat} (h : n ≤ s) : ∀ xs : List AV, unders n xs = true → avoids s xs = true
  | [], _ => rfl
  | x :: xs, hx => by
    simp only [unders, Bool.and_eq_true] at hx
    simp only [avoids, Bool.and_eq_true]
    exact ⟨avoid_under h x hx.1, avoids_under h xs hx.2⟩
end
theorem Ob.avoid_under {n s : Nat} (h : n ≤ s) {o : Ob} (ho : o.under n = true) (hm : ∀ a b s ks vs j id, o ≠ .mhole a b s ks vs j id) : o.avoid s = true := by
  cases o <;> first | rfl | exact BX.avoid_under h _ ho | (simp only [Ob.under, decide_eq_true_eq] at ho; simp only [Ob.avoid, bne_iff_ne]; omega) | exact absurd rfl (hm _ _ _ _ _ _ _)
mutual
theorem via_self {r : Nat → Option Nat} {s : Nat} (hr : ∀ i, i ≠ s → r i = some i) : ∀ x : AV, x.avoid s = true → x.via r x
  | .un, _ => trivial
  | .ud, _ => by simp only [AV.via]
  | .ns, _ => by simp only [AV.via]
  | .t _, _ => by simp only [AV.via, AV.shut]
  | .bw _, _ => by simp only [AV.via, AV.shutB]
  | .ag cs, h => by simp only [AV.avoid] at h; simp only [AV.via]; exact vias_self hr cs h
  | .tp cs, h => by simp only [AV.avoid] at h; simp only [AV.via]; exact vias_self hr cs h
  | .fn _ cs, h => by simp only [AV.avoid] at h; simp only [AV.via]; exact ⟨trivial, vias_self hr cs h⟩
  | .rf id _, h => by simp only [AV.avoid, bne_iff_ne] at h; simp only [AV.via, hr id h]
  | .sr id, h => by simp only [AV.avoid, bne_iff_ne] at h; simp only [AV.via, hr id h]
  | .ra id _ _ _, h => by simp only [AV.avoid, bne_iff_ne] at h; simp only [AV.via, hr id h]
  | .sv id _ _ _, h => by simp only [AV.avoid, bne_iff_ne] at h; simp only [AV.via, hr id h]
  | .mr id, h => by simp only [AV.avoid, bne_iff_ne] at h; simp only [AV.via, hr id h]
  | .it id, h => by simp only [AV.avoid, bne_iff_ne] at h; simp only [AV.via, hr id h]
theorem vias_self {r : Nat → Option Nat} {s : Nat} (hr : ∀ i, i ≠ s → r i = some i) : ∀ xs : List AV, avoids s xs = true → vias r xs xs
  | [], _ => by simp only [vias]
  | x :: xs, h => by
    simp only [avoids, Bool.and_eq_true] at h
    simp only [vias]
    exact ⟨via_self hr x h.1, vias_self hr xs h.2⟩
end
theorem Kind.le_refl (k : Kind) : k.le k := by cases k <;> simp [Kind.le]
theorem Ob.via_self {r : Nat → Option Nat} {s : Nat} (hr : ∀ i, i ≠ s → r i = some i) (o : Ob) (h : o.avoid s = true) : o.via r o := by
  cases o with
  | dead => trivial
  | box x => exact BX.via_self hr x h
  | arr e m k es => exact ⟨rfl, rfl, Kind.le_refl k, rfl⟩
  | hole e m ss es i j id => simp only [Ob.avoid, bne_iff_ne] at h; exact ⟨⟨rfl, rfl, rfl, rfl, rfl, rfl⟩, hr id h⟩
  | map a b k ks vs p => exact ⟨rfl, rfl, Kind.le_refl k, rfl, rfl, .inr rfl⟩
  | mhole a b s ks vs i id => simp only [Ob.avoid, bne_iff_ne] at h; exact ⟨⟨rfl, rfl, rfl, rfl, rfl, rfl⟩, hr id h⟩
  | iter c l => exact ⟨.inr rfl, rfl⟩

section
variable {P : Program} {Q : Exit → Act → World → Prop} {w0 : Base} {σ : St} {hv : Hv} {S : Nat → Prop} {F : Nat → List Nat} {a : Act} {w : World}

/-- a new object takes its place among those that are kept free -/
theorem Rel.slot {o : Ob} {s : Nat} (h : Rel w0 { σ with ob := σ.ob ++ [o] } hv S F a w) (hs : σ.ob[s]? = some .dead) (hn : w0.na ≤ s) (ht : ∀ t, (getL σ.tm t).under σ.ob.length = true) (hu : ∀ (i : Nat) (o' : Ob), σ.ob[i]? = some o' → o'.under σ.ob.length = true)
    (hat : ∀ t, (getL σ.tm t).avoid s = true) (hao : ∀ (i : Nat) (o' : Ob), σ.ob[i]? = some o' → o'.avoid s = true) (ho : o.avoid s = true) (hou : o.under σ.ob.length = true) :
    ∃ (hv' : Hv) (F' : Nat → List Nat), Rel w0 { σ with ob := σ.ob.set s o } hv' S F' a w ∧ hv'.B = hv.B ∧ hv' s = hv σ.ob.length := by
  have hsl := get_lt hs
  let r : Nat → Option Nat := fun i => if i = s then some σ.ob.length else some i
  have hr : ∀ i, i ≠ s → r i = some i := fun i hi => by simp only [r, hi, if_false]
  have hrs : r s = some σ.ob.length := by simp only [r, if_true]
  obtain ⟨hv', F', q1, q2, q3⟩ := h.via (σ' := { σ with ob := σ.ob.set s o }) r rfl (fun t => BX.via_self hr _ (hat t)) (fun t => by simpa using ht t) (fun i o' hi => by
      rcases set_get hi with ⟨rfl, rfl⟩ | ⟨hne, hi⟩
      · rw [hrs]
        exact .inr ⟨o', by simp, Ob.via_self hr o' ho⟩
      · rw [hr i hne]
        exact .inr ⟨o', by simp only [List.getElem?_append_left (get_lt hi)]; exact hi, Ob.via_self hr o' (hao i o' hi)⟩)
    (fun i i' j hi hi' h1 h2 => by
      simp only [List.length_set] at hi hi'
      by_cases e1 : i = s <;> by_cases e2 : i' = s
      · rw [e1, e2]
      · subst e1
        rw [hrs] at h1
        rw [hr i' e2] at h2
        have := (Option.some.inj h1).trans (Option.some.inj h2).symm
        omega
      · subst e2
        rw [hrs] at h2
        rw [hr i e1] at h1
        have := (Option.some.inj h2).trans (Option.some.inj h1).symm
        omega
      · rw [hr i e1] at h1
        rw [hr i' e2] at h2
        exact (Option.some.inj h1).trans (Option.some.inj h2).symm)
    (fun i o' hi => by
      simp only [List.length_set]
      rcases set_get hi with ⟨rfl, rfl⟩ | ⟨hne, hi⟩
      · exact hou
      · exact hu i o' hi)
    (fun i hi => hr i (by omega)) (by simp only [List.length_set]; omega)
  exact ⟨hv', F', q1, q2, (q3 s _ hrs).1⟩

/-- room for new objects -/
theorem Rel.room (h : Rel w0 σ hv S F a w) (m : Nat) (hm : noMh σ.ob = true) : ∃ hv' F', Rel w0 { σ with ob := σ.ob ++ List.replicate m .dead } hv' S F' a w := by
  let r : Nat → Option Nat := fun i => some i
  obtain ⟨hv', F', q1, _⟩ := h.via (σ' := { σ with ob := σ.ob ++ List.replicate m .dead }) r rfl (fun t => BX.via_self (s := σ.ob.length) (fun _ _ => rfl) _ (BX.avoid_under (Nat.le_refl _) _ (h.utm t))) (fun t => AV.under_mono (by simp) _ (h.utm t)) (fun i o' hi => by
      show o' = .dead ∨ _
      rcases Nat.lt_or_ge i σ.ob.length with hlt | hge
      · simp only [List.getElem?_append_left hlt] at hi
        exact .inr ⟨o', hi, Ob.via_self (s := σ.ob.length) (fun _ _ => rfl) _ (Ob.avoid_under (Nat.le_refl _) (h.uob i o' hi) (noMh_get hm hi))⟩
      · simp only [List.getElem?_append_right hge, List.getElem?_replicate] at hi
        split at hi
        · exact .inl (Option.some.inj hi).symm
        · cases hi)
    (fun i i' j _ _ h1 h2 => (Option.some.inj h1).trans (Option.some.inj h2).symm)
    (fun i o' hi => by
      rcases Nat.lt_or_ge i σ.ob.length with hlt | hge
      · simp only [List.getElem?_append_left hlt] at hi
        exact Ob.under_mono (by simp) _ (h.uob i o' hi)
      · simp only [List.getElem?_append_right hge, List.getElem?_replicate] at hi
        split at hi
        · rw [← Option.some.inj hi]; rfl
        · cases hi)
    (fun _ _ => rfl) (by have := h.an; simp; omega)
  exact ⟨hv', F', q1⟩

/-- what is known where some objects are hidden is known where they are seen -/
theorem killAll_ext {H : List Nat} {ob ob' : List Ob} (hl : ob.length = ob'.length) (h : ∀ i, i ∉ H → ob[i]? = ob'[i]?) : killAll H ob = killAll H ob' := by
  refine List.ext_getElem? fun i => ?_
  by_cases hi : i ∈ H
  · have dead : ∀ {l : List Ob}, i < l.length → (killAll H l)[i]? = some .dead := by
      intro l hlt
      have hlt' : i < (killAll H l).length := by rw [killAll_length]; exact hlt
      cases hk : (killAll H l)[i]? with
      | none => rw [List.getElem?_eq_getElem hlt'] at hk; cases hk
      | some o =>
        by_cases ho : o = .dead
        · rw [ho]
        · exact absurd hi (killAll_get H l i o hk ho).1
    rcases Nat.lt_or_ge i ob.length with hlt | hge
    · rw [dead hlt, dead (by omega)]
    · rw [List.getElem?_eq_none (by rw [killAll_length]; exact hge), List.getElem?_eq_none (by rw [killAll_length]; omega)]
  · rw [killAll_keep H ob i hi, killAll_keep H ob' i hi, h i hi]
theorem Obs.kill {ob : List Ob} (h : Obs ob hv S F w) (H : List Nat) : Obs (killAll H ob) hv S F w := by
  have key : ∀ (id : Nat) (o : Ob), (killAll H ob)[id]? = some o → o = .dead ∨ ob[id]? = some o := fun id o hid => by
    by_cases ho : o = .dead
    · exact .inl ho
    · exact .inr (killAll_get H ob id o hid ho).2
  refine ⟨fun id o hid => ?_, fun id o hid => ?_, fun id o hid ho b hb => ?_, h.SB, h.one⟩
  · rcases key id o hid with rfl | h1
    · trivial
    · exact h.ob id o h1
  · rw [killAll_length]
    rcases key id o hid with rfl | h1
    · rfl
    · exact h.uob id o h1
  · rcases key id o hid with rfl | h1
    · cases ho
    · exact h.own id o h1 ho b hb
theorem RootsIn.kill {ob : List Ob} (h : RootsIn ob hv w) (H : List Nat) : RootsIn (killAll H ob) hv w := fun id o hid hd b hb => h id o (killAll_get H ob id o hid hd).2 hd b hb
theorem Fact.kill {ob : List Ob} {e : Operand → AV} {o : Oper} {x : AV} {H : List Nat} (h : Fact P (killAll H ob) e o x) : Fact P ob e o x := by
  rcases h with h | ⟨r, rfl, h⟩
  · exact .inl fun {hv S F w ρ} hob harg => by
      have := h (hob.kill H) (by rw [killAll_length]; exact harg)
      rw [killAll_length] at this
      exact this
  · exact .inr ⟨r, rfl, fun {hv S F w ρ} hob hS hR harg => h (hob.kill H) hS (hR.kill H) (by rw [killAll_length]; exact harg)⟩
end

/-! ### the obligations -/
def tsOf : List AV → Option (List T)
  | [] => some []
  | .t y :: xs => match tsOf xs with
    | some ys => some (y :: ys)
    | none => none
  | _ => none
theorem tsOf_eq : ∀ {xs : List AV} {ys : List T}, tsOf xs = some ys → xs = ys.map .t
  | [], ys, h => by simp only [tsOf, Option.some.injEq] at h; subst h; rfl
  | x :: xs, ys, h => by
    cases x <;> simp only [tsOf] at h <;> first | (cases h; done) | skip
    split at h
    · rename_i zs hz
      cases h
      rw [tsOf_eq hz]; rfl
    · cases h
/-- one object made out of closed values -/
def vcMk1 (P : Program) (e : Operand → AV) (op : Op) (id : Nat) (K : AV → Ob → Prop) : Prop :=
  match op with
  | .alloc t => match zeroOf P t with
    | some z => K (.rf id 0) (.box (ofV z))
    | none => False
  | .buildSlice t n parts => match lay P t with
    | .sli el m => parts.toList.map (·.1) = List.range' 0 n ∧ n * m ≤ 16777216 ∧ n < Bd.B ∧ (zeroOf P el).isSome = true ∧ match tsOf (parts.toList.map fun p => e p.2) with
      | some ys => fitsAll (shOf P 40 el) ys = true ∧ allLen m ys = true ∧ allOnes ys = true ∧ K (.sr id) (.arr el m (.own (shOf P 40 el)) ys)
      | none => False
    | _ => False
  | _ => False
/-- one box written -/
def vcSt1 (P : Program) (e : Operand → AV) (op : Op) (id : Nat) (old : Option Ob) (K : AV → Prop) : Prop :=
  match op with
  | .store t p x => match old with
    | some (.box y) => ∃ off, e p = .rf id off ∧ y ≠ .un ∧ e x ≠ .un ∧ allOne (e x).cells = true ∧ P.cellsOf t = (e x).cells.length ∧ off + (e x).cells.length ≤ y.cells.length ∧ (e x).cells.length ≠ 0 ∧
        K (if off = 0 ∧ y.cells.length = (e x).cells.length ∧ (e x).isAg = y.isAg then e x else .ag (segA y.cells off (e x).cells))
    | _ => False
  | _ => False
/-- the first operations in the text's order; for each: what it may not see, and what it does (0: it looks; 1: it makes an object, in the next free place; n + 2: it writes box n) -/
def vcDy (P : Program) (all : Array Oper) : List (List Nat × Nat) → List Oper → Nat → St → (St → Prop) → Prop
  | [], os, _, σ, K => vcOps P all os σ K
  | _ :: _, [], _, _, _ => False
  | (H, kd) :: hs, o :: os, s, σ, K => dstOk σ.n o.dst ∧ match kd with
    | 0 => vcGuard all σ o (fun σ => vcLook P (killAll H σ.ob) σ.opd o.op fun x => (x.under s = true ∧ avoidH H x = true) ∧ vcDy P all hs os s (σ.set o.dst x) K) (fun σ => vcDy P all hs os s (σ.set o.dst .ud) K)
    | 1 => o.guard = none ∧ vcMk1 P σ.opd o.op s fun x ob => avoidH H x = true ∧ vcDy P all hs os (s + 1) (({ σ with ob := σ.ob.set s ob } : St).set o.dst x) K
    | id + 2 => o.guard = none ∧ vcSt1 P σ.opd o.op id σ.ob[id]? fun y => (y.under s = true ∧ avoidH H y = true) ∧ vcDy P all hs os s (({ σ with ob := σ.ob.set id (.box y) } : St).set o.dst .ud) K
/-- how many objects are made -/
def mks : List (List Nat × Nat) → Nat
  | [] => 0
  | (_, kd) :: hs => (if kd = 1 then 1 else 0) + mks hs
/-- what each writes -/
def tgs : List (List Nat × Nat) → Nat → List (Option Nat)
  | [], _ => []
  | (_, 0) :: hs, s => none :: tgs hs s
  | (_, 1) :: hs, s => some s :: tgs hs (s + 1)
  | (_, id + 2) :: hs, s => some id :: tgs hs s
theorem tgs_len : ∀ {hs : List (List Nat × Nat)} {s : Nat}, (tgs hs s).length = hs.length
  | [], _ => rfl
  | (_, 0) :: hs, s => by simp [tgs, tgs_len (hs := hs)]
  | (_, 1) :: hs, s => by simp [tgs, tgs_len (hs := hs)]
  | (_, id + 2) :: hs, s => by simp [tgs, tgs_len (hs := hs)]
def okDy (ops : Array Oper) (n0 : Nat) (hs : List (List Nat × Nat)) : Bool :=
  (decide (hs.length ≤ ops.size)) &&
  ((List.range ops.size).all fun i => match ops[i]? with
    | some o => (o.after.all fun e => !Region.binds .any e || decide (e.on < i)) && (decide (i < hs.length) || (List.range i).all fun j => (List.range ops.size).any fun m => decide (j < m) && decide (m ≤ i) && waits ops m j)
    | none => false) &&
  ((List.range hs.length).all fun i => match ops[i]? with
    | some o => (List.range hs.length).all fun j => match ops[j]? with
      | some p => match p.dst with
        | some t => (i == j || o.dst != some t) && (!(o.looksAt ops).contains t || (decide (j < i) && waits ops i j))
        | none => true
      | none => false
    | none => false) &&
  ((List.range hs.length).all fun i => (List.range hs.length).all fun j => i == j || match hs[i]?, (tgs hs n0)[j]? with
    | some (H, _), some (some id) => (waitsT ops 6 i j || H.contains id) && !((tgs hs n0)[i]? == some (some id))
    | some _, some none => true
    | _, _ => false) &&
  ((List.range hs.length).all fun i => match hs[i]? with
    | some (_, kd) => decide (kd < n0 + 2)
    | none => false)
structure StaticY (ops : Array Oper) (n0 : Nat) (hs : List (List Nat × Nat)) : Prop extends Static ops hs.length where
  hid : ∀ (i j : Nat) (H : List Nat) (kd id : Nat), i ≠ j → hs[i]? = some (H, kd) → (tgs hs n0)[j]? = some (some id) → waitsT ops 6 i j = true ∨ id ∈ H
  one : ∀ (i j id : Nat), (tgs hs n0)[i]? = some (some id) → (tgs hs n0)[j]? = some (some id) → i = j
theorem okDy_spec {ops : Array Oper} {n0 : Nat} {hs : List (List Nat × Nat)} (h : okDy ops n0 hs = true) : StaticY ops n0 hs := by
  simp only [okDy, Bool.and_eq_true] at h
  obtain ⟨⟨⟨⟨h1, h2⟩, h3⟩, h4⟩, _⟩ := h
  have hst : Static ops hs.length := okDraw_spec (by unfold okDraw; simp only [Bool.and_eq_true]; exact ⟨⟨h1, h2⟩, h3⟩)
  simp only [List.all_eq_true, List.mem_range, Bool.or_eq_true, beq_iff_eq] at h4
  have hl : ∀ (i : Nat) (x : Option Nat), (tgs hs n0)[i]? = some x → i < hs.length := fun i x hx => by have := get_lt hx; rw [tgs_len] at this; exact this
  refine ⟨hst, fun i j H kd id hij hi hj => ?_, fun i j id hi hj => ?_⟩
  · have := (h4 i (get_lt hi) j (hl j _ hj)).resolve_left hij
    rw [hi, hj] at this
    simp only [Bool.and_eq_true, Bool.or_eq_true] at this
    exact this.1.imp (fun h => h) fun h => List.contains_iff_mem.1 h
  · by_cases hij : i = j
    · exact hij
    · obtain ⟨⟨H, kd⟩, hh⟩ : ∃ e, hs[i]? = some e := ⟨_, List.getElem?_eq_getElem (hl i _ hi)⟩
      have := (h4 i (hl i _ hi) j (hl j _ hj)).resolve_left hij
      rw [hh, hj] at this
      simp only [Bool.and_eq_true, Bool.not_eq_true', beq_eq_false_iff_ne] at this
      exact absurd hi this.2

/-! ### what is known of each -/
structure RY where
  x : AV
  tg : Option (Nat × Ob)
def obY (ob : List Ob) : Option (Nat × Ob) → List Ob
  | some (id, o) => ob.set id o
  | none => ob
def runY : St → List Oper → List RY → St
  | σ, o :: os, r :: rs => runY (stp σ o.dst r.x (obY σ.ob r.tg)) os rs
  | σ, _, _ => σ
/-- an operation that makes or writes an object, wherever the others are -/
def EffY (P : Program) (mk : Bool) (old : Option Ob) (e : Operand → AV) (o : Oper) (n0 id : Nat) (x : AV) (ob : Ob) : Prop :=
  ∀ {Q : Exit → Act → World → Prop} {w0 : Base} {σ : St} {hv : Hv} {S : Nat → Prop} {F : Nat → List Nat} {a : Act} {w : World} {next : Value → World → Prop},
    Rel w0 σ hv S F a w → w0.na ≤ n0 → σ.ob[id]? = old → (∀ y ∈ o.op.operands, σ.opd y = e y) → (mk = true → (∀ t, (getL σ.tm t).avoid id = true) ∧ ∀ (i : Nat) (o' : Ob), σ.ob[i]? = some o' → o'.avoid id = true) →
    Ans w0 σ a (fun x' ob' => x' = x ∧ ob' = σ.ob.set id ob) next → Does P Q o a w next
def FactY (P : Program) (all : Array Oper) (n0 : Nat) (σ : St) (o : Oper) (H : List Nat) (kd : Nat) (tg : Option Nat) (r : RY) : Prop :=
  dstOk σ.n o.dst ∧ avoidH H r.x = true ∧ match tg with
    | none => kd = 0 ∧ r.tg = none ∧ ((guardOf all σ o = some true ∧ Fact P (killAll H σ.ob) σ.opd o r.x) ∨ (guardOf all σ o = some false ∧ r.x = .ud))
    | some id => o.guard = none ∧ ∃ ob old, r.tg = some (id, ob) ∧ σ.ob[id]? = some old ∧ (∀ h ∈ H, ob.avoid h = true) ∧ (∀ a b s ks vs j id, ob ≠ .mhole a b s ks vs j id) ∧ (kd = 1 → old = .dead ∧ n0 ≤ id) ∧ EffY P (kd == 1) (some old) σ.opd o n0 id r.x ob
def FactsY (P : Program) (all : Array Oper) (n0 : Nat) : St → List (List Nat × Nat) → List (Option Nat) → List Oper → List RY → Prop
  | _, [], [], _, [] => True
  | σ, (H, kd) :: hs, tg :: ts, o :: os, r :: rs => FactY P all n0 σ o H kd tg r ∧ FactsY P all n0 (stp σ o.dst r.x (obY σ.ob r.tg)) hs ts os rs
  | _, _, _, _, _ => False

section
variable {P : Program} {Q : Exit → Act → World → Prop} {w0 : Base} {σ : St} {hv : Hv} {S : Nat → Prop} {F : Nat → List Nat} {a : Act} {w : World}

theorem mix_ts {ob : List Ob} {s : Sh} : ∀ {ys : List T}, fitsAll s ys = true → ownsA ob s (ys.map .t) = some (ys, [])
  | [], _ => by simp only [List.map_nil, ownsA]
  | y :: ys, h => by
    simp only [fitsAll, Bool.and_eq_true] at h
    have hy : AV.own ob s (.t y) = some (y, []) := by cases s <;> simp only [AV.own, h.1, if_true]
    simp only [List.map_cons, ownsA, hy, mix_ts h.2, List.nil_append]

theorem mk1_sound {e : Operand → AV} {o : Oper} {n0 s : Nat} {K : AV → Ob → Prop} (hs : n0 ≤ s) (h : vcMk1 P e o.op s K) : ∃ x ob, K x ob ∧ (∀ h, ob.avoid h = true) ∧ (∀ n, ob.under n = true) ∧ (∀ n, s < n → x.under n = true) ∧ (∀ a b s ks vs j id, ob ≠ .mhole a b s ks vs j id) ∧ EffY P true (some .dead) e o n0 s x ob := by
  have fin : ∀ {x : Nat → AV} {ob : Ob} (hx : ∀ (hv : Hv) (w : World) (n : Nat) (v : Value) (L : List Nat), footA hv w (x n) v L → v.oneCell' = v.oneCell' ∧ ∀ (hv' : Hv) (n' : Nat), hv'.B = hv.B → hv' n' = hv n → footA hv' w (x n') v L)
      (hu : ∀ n m, n < m → (x n).under m = true) (ha : ∀ h, ob.avoid h = true) (hou : ∀ n, ob.under n = true)
      (hd : ∀ {Q : Exit → Act → World → Prop} {w0 : Base} {σ : St} {hv : Hv} {S : Nat → Prop} {F : Nat → List Nat} {a : Act} {w : World} {next : Value → World → Prop}, Rel w0 σ hv S F a w → (∀ y ∈ o.op.operands, σ.opd y = e y) → Ans w0 σ a (fun x' ob' => x' = x σ.ob.length ∧ ob' = σ.ob ++ [ob]) next → Does P Q o a w next),
      EffY P true (some .dead) e o n0 s (x s) ob := by
    intro x ob hx hu ha hou hd Q w0 σ hv S F a w next hr hna hold hop hav hn
    obtain ⟨hat, hao⟩ := hav rfl
    refine hd hr hop fun v w' x' ob' hv' S' F' L hk q1 q2 q3 q4 => ?_
    obtain ⟨rfl, rfl⟩ := hk
    obtain ⟨hv2, F2, k1, k2, k3⟩ := Rel.slot (σ := σ) q1 hold (by omega) hr.utm hr.uob hat hao (ha s) (hou _)
    refine hn v w' (x s) _ hv2 S' F2 L ⟨rfl, rfl⟩ k1 ((hx _ _ _ _ _ q2).2 hv2 s k2 k3) q3 (hu _ _ ?_)
    simp only [List.length_set]
    exact get_lt hold
  unfold vcMk1 at h
  split at h
  · rename_i t hop
    split at h
    · rename_i z hz
      refine ⟨_, _, h, fun i => ?_, fun n => ?_, fun n hn => by simp only [AV.under, decide_eq_true_eq]; exact hn, by simp, fin (x := fun n => .rf n 0) ?_ ?_ ?_ ?_ ?_⟩
      · exact BX.avoid_under (Nat.zero_le _) _ (ofV_under 0 z)
      · exact ofV_under n z
      · intro hv w n v L hf
        refine ⟨rfl, fun hv' n' _ he => ?_⟩
        simp only [footA] at hf ⊢
        rw [he]; exact hf
      · intro n m hnm; simp only [AV.under, decide_eq_true_eq]; exact hnm
      · intro i; exact BX.avoid_under (Nat.zero_le _) _ (ofV_under 0 z)
      · intro n; exact ofV_under n z
      · intro Q w0 σ hv S F a w next hr _ hn
        exact alloc_sound hop hr hz (K := fun x' ob' => x' = .rf σ.ob.length 0 ∧ ob' = σ.ob ++ [.box (ofV z)]) ⟨rfl, rfl⟩ hn
    · cases h
  · rename_i t n parts hop
    split at h
    case h_2 => cases h
    rename_i el m hl
    obtain ⟨g1, g2, g3, g4, h⟩ := h
    split at h
    case h_2 => cases h
    rename_i ys hys
    obtain ⟨g5, g6, g7, h⟩ := h
    refine ⟨_, _, h, fun _ => rfl, fun _ => rfl, fun n hn => by simp only [AV.under, decide_eq_true_eq]; exact hn, by simp, fin (x := fun n => .sr n) ?_ ?_ (fun _ => rfl) (fun _ => rfl) ?_⟩
    · intro hv w n v L hf
      refine ⟨rfl, fun hv' n' _ he => ?_⟩
      simp only [footA] at hf ⊢
      rw [he]; exact hf
    · intro n m hnm; simp only [AV.under, decide_eq_true_eq]; exact hnm
    · intro Q w0 σ hv S F a w next hr hopd hn
      refine buildSlice_sound hop hr (K := fun x' ob' => x' = .sr σ.ob.length ∧ ob' = σ.ob ++ [.arr el m (.own (shOf P 40 el)) ys]) ?_ hn
      have hm : (parts.toList.map fun p => σ.opd p.2) = ys.map .t := by
        rw [← tsOf_eq hys]
        exact List.map_congr_left fun p hp => hopd p.2 (by
          rw [hop]
          simp only [Op.operands, List.mem_toArray, List.mem_map]
          exact ⟨p, hp, rfl⟩)
      rw [hm]
      unfold vcBuildSlice
      rw [hl]
      refine ⟨g1, g2, g3, g4, ?_⟩
      have : mix σ.ob (.own (shOf P 40 el)) (ys.map .t) = some (ys, [], .own (shOf P 40 el)) := by simp only [mix, mix_ts g5]
      rw [this]
      exact ⟨rfl, g6, g7, rfl, rfl⟩
  · cases h

theorem st1_sound {e : Operand → AV} {o : Oper} {n0 id : Nat} {old : Option Ob} {K : AV → Prop} (h : vcSt1 P e o.op id old K) : ∃ y ob, K y ∧ old = some ob ∧ ob ≠ .dead ∧ EffY P false old e o n0 id .ud (.box y) := by
  unfold vcSt1 at h
  split at h
  case h_2 => cases h
  rename_i t p x hop
  split at h
  case h_2 => cases h
  rename_i y
  obtain ⟨off, hp, q1, q2, q3, q4, q5, q6, hK⟩ := h
  refine ⟨_, _, hK, rfl, by simp, ?_⟩
  intro Q w0 σ hv S F a w next hr _ hold hopd _ hn
  have hp' := hopd p (by rw [hop]; simp [Op.operands])
  have hx' := hopd x (by rw [hop]; simp [Op.operands])
  rw [hp] at hp'
  rw [← hx'] at q2 q3 q4 q5 q6 hn
  exact store_box_sound hop hr hp' hold q1 q2 q3 q4 q5 q6 ⟨rfl, rfl⟩ hn

theorem EffY.get {mk : Bool} {old : Option Ob} {e : Operand → AV} {o : Oper} {n0 id : Nat} {x : AV} {ob : Ob} (h : EffY P mk old e o n0 id x ob) (hr : Rel w0 σ hv S F a w) (hna : w0.na ≤ n0) (hold : σ.ob[id]? = old) (hop : ∀ y ∈ o.op.operands, σ.opd y = e y)
    (hav : mk = true → (∀ t, (getL σ.tm t).avoid id = true) ∧ ∀ (i : Nat) (o' : Ob), σ.ob[i]? = some o' → o'.avoid id = true) (hd : ∀ k, o.dst = some k → k < σ.n) : ∃ hv' S' F' a' w', Rel w0 (stp σ o.dst x (σ.ob.set id ob)) hv' S' F' a' w' := by
  have := h (Q := fun _ _ _ => False) hr hna hold hop hav (next := fun v w' => ∃ hv' S' F' L, Rel w0 { σ with ob := σ.ob.set id ob } hv' S' F' a w' ∧ footA hv' w' x v L ∧ (∀ b ∈ L, S' b) ∧ x.under (σ.ob.set id ob).length = true)
    (fun v w' x' ob' hv' S' F' L hk q1 q2 q3 q4 => by obtain ⟨rfl, rfl⟩ := hk; exact ⟨hv', S', F', L, q1, q2, q3, q4⟩)
  obtain ⟨v, w', hv', S', F', L, q1, q2, q3, q4⟩ := Does.some this
  exact ⟨hv', S', F', a.put o.dst v, w', by unfold stp; exact q1.put q2 q3 q4 hd⟩

theorem set_obY {σ : St} {d : Option Nat} {x : AV} : (σ.set d x).ob = σ.ob := by cases d <;> rfl
theorem avoidH_mem {H : List Nat} {x : AV} (h : avoidH H x = true) {s : Nat} (hs : s ∈ H) : x.avoid s = true := by
  simp only [avoidH, List.all_eq_true] at h
  exact h s hs

theorem vcDy_sound {all : Array Oper} {n0 : Nat} : ∀ (hs : List (List Nat × Nat)) (os : List Oper) {s : Nat} {σ σ' : St} {hv : Hv} {S : Nat → Prop} {F : Nat → List Nat} {a : Act} {w : World} {K : St → Prop}, Rel w0 σ hv S F a w → Eqv σ σ' → w0.na ≤ n0 → n0 ≤ s →
    (∀ t, (getL σ.tm t).under s = true) → (∀ (i : Nat) (o' : Ob), σ.ob[i]? = some o' → o'.under s = true ∧ ∀ a b s ks vs j id, o' ≠ .mhole a b s ks vs j id) → (∀ i, s ≤ i → i < σ.ob.length → σ.ob[i]? = some .dead) → s + mks hs ≤ σ.ob.length → vcDy P all hs os s σ' K →
    ∃ rs σ'', Eqv (runY σ os rs) σ'' ∧ vcOps P all (os.drop hs.length) σ'' K ∧ FactsY P all n0 σ hs (tgs hs s) os rs
  | [], os, s, σ, σ', hv, S, F, a, w, K, hr, he, _, _, _, _, _, _, h => ⟨[], σ', by cases os <;> exact he, h, trivial⟩
  | _ :: _, [], s, σ, σ', hv, S, F, a, w, K, hr, he, _, _, _, _, _, _, h => h.elim
  | (H, kd) :: hs, o :: os, s, σ, σ', hv, S, F, a, w, K, hr, he, hna, hns, hut, huo, hde, hmk, h => by
    obtain ⟨hd, h⟩ := h
    rw [he.n] at hd
    have hdk : ∀ k, o.dst = some k → k < σ.n := fun k hk => by rw [hk] at hd; exact hd
    match kd, h with
    | 0, h =>
      have hmk' : s + mks hs ≤ σ.ob.length := by simpa [mks] using hmk
      rcases vcGuard_sound he h with ⟨hg, σ1, he1, h⟩ | ⟨hg, σ1, he1, h⟩
      · have hr1 := hr.tm_ext he1
        obtain ⟨x, ⟨⟨hxs, hxH⟩, hx⟩, hf⟩ := vcLook_sound (hr1.obs.kill H) (fun y _ => by rw [killAll_length]; exact hr1.arg y) h
        rw [he1.ob, show σ1.opd = σ.opd from funext he1.opd] at hf
        obtain ⟨hv', S', F', a', w', hr'⟩ : ∃ hv' S' F' a' w', Rel w0 (σ.set o.dst x) hv' S' F' a' w' := by
          have hf' := hf.kill
          rcases hf' with hf2 | ⟨r, rfl, hf2⟩
          · obtain ⟨v, h1, ⟨L, h2, h2'⟩, h3⟩ := hf2 hr.obs (fun y _ => hr.arg y)
            exact ⟨hv, S, F, _, w, hr.put h2 h2' h3 hdk⟩
          · obtain ⟨f, args, h1, h2⟩ := hf2 hr.obs hr.Blt hr.rootsIn (fun y _ => hr.arg y)
            obtain ⟨en, w', v, L', rfl, q1, q2, q3⟩ := Calls.some h2
            exact ⟨_, _, F, _, w', (hr.grow q3).put (x := .t r) (by simpa only [footA] using q1) q2 rfl hdk⟩
        obtain ⟨rs, σ'', k0, k1, k2⟩ := vcDy_sound hs os hr' (he1.set o.dst x) hna hns (fun t => by rw [getL_set]; split <;> first | exact hxs | exact hut t) (fun i o' hi => huo i o' (by rw [set_obY] at hi; exact hi)) (fun i h1 h2 => by rw [set_obY] at h2 ⊢; exact hde i h1 h2) (by rw [set_obY]; exact hmk') hx
        exact ⟨⟨x, none⟩ :: rs, σ'', k0, k1, ⟨hd, hxH, rfl, rfl, .inl ⟨hg, hf⟩⟩, k2⟩
      · obtain ⟨rs, σ'', k0, k1, k2⟩ := vcDy_sound hs os (hr.put (d := o.dst) (x := .ud) (v := undef) (L := []) (by simp [footA]) (by simp) rfl hdk) (he1.set o.dst .ud) hna hns (fun t => by rw [getL_set]; split <;> first | rfl | exact hut t) (fun i o' hi => huo i o' (by rw [set_obY] at hi; exact hi)) (fun i h1 h2 => by rw [set_obY] at h2 ⊢; exact hde i h1 h2) (by rw [set_obY]; exact hmk') h
        refine ⟨⟨.ud, none⟩ :: rs, σ'', k0, k1, ⟨hd, ?_, rfl, rfl, .inr ⟨hg, rfl⟩⟩, k2⟩
        simp [avoidH, AV.avoid]
    | 1, h =>
      obtain ⟨hg, h⟩ := h
      have hmk' : s + 1 + mks hs ≤ σ.ob.length := by simp only [mks, if_true] at hmk; omega
      obtain ⟨x, ob, ⟨hxH, hx⟩, hav, hou, hxu, hnm, hf⟩ := mk1_sound (n0 := n0) hns h
      rw [show σ'.opd = σ.opd from funext he.opd] at hf
      have hold := hde s (Nat.le_refl _) (by omega)
      obtain ⟨hv', S', F', a', w', hr'⟩ := hf.get hr hna hold (fun _ _ => rfl) (fun _ => ⟨fun t => BX.avoid_under (Nat.le_refl _) _ (hut t), fun i o' hi => Ob.avoid_under (Nat.le_refl _) (huo i o' hi).1 (huo i o' hi).2⟩) hdk
      have heq : Eqv (stp σ o.dst x (σ.ob.set s ob)) (({ σ' with ob := σ'.ob.set s ob } : St).set o.dst x) := by rw [he.ob]; exact he.stp o.dst x (σ.ob.set s ob)
      obtain ⟨rs, σ'', k0, k1, k2⟩ := vcDy_sound hs os hr' heq hna (Nat.le_succ_of_le hns) (fun t => by rw [stp_get]; split <;> first | exact hxu _ (Nat.lt_succ_self s) | exact AV.under_mono (Nat.le_succ s) _ (hut t)) (fun i o' hi => by
          rw [stp_ob] at hi
          rcases set_get hi with ⟨_, rfl⟩ | ⟨_, hi⟩
          · exact ⟨hou _, hnm⟩
          · exact ⟨Ob.under_mono (Nat.le_succ s) _ (huo i o' hi).1, (huo i o' hi).2⟩) (fun i h1 h2 => by
          rw [stp_ob] at h2 ⊢
          rw [List.length_set] at h2
          rw [List.getElem?_set_ne (by omega)]
          exact hde i (by omega) h2) (by rw [stp_ob, List.length_set]; exact hmk') hx
      exact ⟨⟨x, some (s, ob)⟩ :: rs, σ'', k0, k1, ⟨hd, hxH, hg, ob, .dead, rfl, hold, fun h _ => hav h, hnm, fun _ => ⟨rfl, hns⟩, hf⟩, k2⟩
    | id + 2, h =>
      obtain ⟨hg, h⟩ := h
      have hmk' : s + mks hs ≤ σ.ob.length := by simp only [mks, show ¬ id + 2 = 1 by omega, if_false] at hmk; omega
      obtain ⟨y, old, ⟨⟨hys, hyH⟩, hy⟩, hold, hnd, hf⟩ := st1_sound (n0 := n0) h
      rw [show σ'.opd = σ.opd from funext he.opd, he.ob] at hf
      rw [he.ob] at hold
      obtain ⟨hv', S', F', a', w', hr'⟩ := hf.get hr hna rfl (fun _ _ => rfl) (fun h => by cases h) hdk
      have heq : Eqv (stp σ o.dst .ud (σ.ob.set id (.box y))) (({ σ' with ob := σ'.ob.set id (.box y) } : St).set o.dst .ud) := by rw [he.ob]; exact he.stp o.dst .ud (σ.ob.set id (.box y))
      obtain ⟨rs, σ'', k0, k1, k2⟩ := vcDy_sound hs os hr' heq hna hns (fun t => by rw [stp_get]; split <;> first | rfl | exact hut t) (fun i o' hi => by
          rw [stp_ob] at hi
          rcases set_get hi with ⟨_, rfl⟩ | ⟨_, hi⟩
          · exact ⟨hys, by simp⟩
          · exact huo i o' hi) (fun i h1 h2 => by
          rw [stp_ob] at h2 ⊢
          rw [List.length_set] at h2
          have := hde i h1 h2
          rw [List.getElem?_set_ne (by rintro rfl; rw [this] at hold; exact hnd (Option.some.inj hold).symm)]
          exact this) (by rw [stp_ob, List.length_set]; exact hmk') hy
      rw [hold] at hf
      refine ⟨⟨.ud, some (id, .box y)⟩ :: rs, σ'', k0, k1, ⟨hd, by simp [avoidH, AV.avoid], hg, .box y, old, rfl, hold, fun h hh => ?_, by simp, fun hh => by omega, ?_⟩, k2⟩
      · exact avoidH_mem hyH hh
      · have : ((id + 2 : Nat) == 1) = false := by simp
        rw [this]; exact @hf

theorem runY_n : ∀ (os : List Oper) (rs : List RY) (σ : St), (runY σ os rs).n = σ.n
  | [], _, _ => rfl
  | _ :: _, [], _ => rfl
  | o :: os, r :: rs, σ => by simp only [runY]; rw [runY_n os rs, stp_n]
theorem runY_tm : ∀ (os : List Oper) (rs : List RY) (σ σ' : St), (∀ t, getL σ.tm t = getL σ'.tm t) → ∀ t, getL (runY σ os rs).tm t = getL (putAll σ' os (rs.map RY.x)).tm t
  | [], _, _, _, h, t => by cases ‹List RY› <;> exact h t
  | _ :: _, [], _, _, h, t => h t
  | o :: os, r :: rs, σ, σ', h, t => by
    simp only [runY, List.map_cons, putAll]
    exact runY_tm os rs _ _ (fun t => by rw [stp_get, getL_set, h]) t
theorem obY_len {ob : List Ob} {tg : Option (Nat × Ob)} : (obY ob tg).length = ob.length := by cases tg <;> simp [obY]
theorem runY_len : ∀ (os : List Oper) (rs : List RY) (σ : St), (runY σ os rs).ob.length = σ.ob.length
  | [], _, _ => rfl
  | _ :: _, [], _ => rfl
  | o :: os, r :: rs, σ => by simp only [runY]; rw [runY_len os rs, stp_ob, obY_len]
theorem runY_miss {id : Nat} : ∀ (os : List Oper) (rs : List RY) (σ : St), (∀ (j : Nat) (r : RY) (o : Ob), rs[j]? = some r → r.tg ≠ some (id, o)) → (runY σ os rs).ob[id]? = σ.ob[id]?
  | [], _, _, _ => rfl
  | _ :: _, [], _, _ => rfl
  | o :: os, r :: rs, σ, h => by
    simp only [runY]
    rw [runY_miss os rs _ (fun j r o hj => h (j + 1) r o (by simpa using hj)), stp_ob]
    cases ht : r.tg with
    | none => rfl
    | some p =>
      obtain ⟨id', o'⟩ := p
      have : id' ≠ id := by rintro rfl; exact h 0 r o' rfl ht
      simp only [obY]
      rw [List.getElem?_set_ne this]
theorem runY_hit {id : Nat} {o : Ob} : ∀ (os : List Oper) (rs : List RY) (σ : St) {j : Nat} {r : RY}, rs.length ≤ os.length → rs[j]? = some r → r.tg = some (id, o) → id < σ.ob.length → (∀ (j' : Nat) (r' : RY) (o' : Ob), j' ≠ j → rs[j']? = some r' → r'.tg ≠ some (id, o')) → (runY σ os rs).ob[id]? = some o
  | [], rs, _, j, r, hl, hj, _, _, _ => by
    have : rs = [] := List.eq_nil_of_length_eq_zero (by simpa using hl)
    subst this; simp at hj
  | _ :: _, [], _, _, _, _, hj, _, _, _ => by simp at hj
  | p :: os, r' :: rs, σ, 0, r, hl, hj, ht, hid, hno => by
    simp only [List.getElem?_cons_zero, Option.some.injEq] at hj
    subst hj
    simp only [runY]
    rw [runY_miss os rs _ (fun j r o hj => hno (j + 1) r o (by omega) (by simpa using hj)), stp_ob, ht]
    simp only [obY]
    exact List.getElem?_set_self hid
  | p :: os, r' :: rs, σ, j + 1, r, hl, hj, ht, hid, hno => by
    simp only [runY]
    exact runY_hit os rs _ (by simpa using hl) (by simpa using hj) ht (by rw [stp_ob, obY_len]; exact hid) (fun j' r o' hne hj' => hno (j' + 1) r o' (by omega) (by simpa using hj'))
theorem FactsY.len {all : Array Oper} {n0 : Nat} : ∀ {hs : List (List Nat × Nat)} {ts : List (Option Nat)} {os : List Oper} {rs : List RY} {σ : St}, FactsY P all n0 σ hs ts os rs → rs.length = hs.length ∧ ts.length = hs.length ∧ hs.length ≤ os.length
  | [], [], _, [], _, _ => ⟨rfl, rfl, Nat.zero_le _⟩
  | [], _ :: _, _, _, _, h => h.elim
  | [], [], _, _ :: _, _, h => by simp [FactsY] at h
  | _ :: _, [], _, _, _, h => by simp [FactsY] at h
  | _ :: _, _ :: _, [], _, _, h => by simp [FactsY] at h
  | _ :: _, _ :: _, _ :: _, [], _, h => by simp [FactsY] at h
  | (H, kd) :: hs, tg :: ts, o :: os, r :: rs, σ, h => by
    obtain ⟨h1, h2, h3⟩ := FactsY.len h.2
    simp only [List.length_cons]
    omega
theorem FactsY.get {all : Array Oper} {n0 : Nat} : ∀ {hs : List (List Nat × Nat)} {ts : List (Option Nat)} {os : List Oper} {rs : List RY} {σ : St}, FactsY P all n0 σ hs ts os rs → ∀ {i : Nat} {H : List Nat} {kd : Nat}, hs[i]? = some (H, kd) →
    ∃ o r tg, os[i]? = some o ∧ rs[i]? = some r ∧ ts[i]? = some tg ∧ FactY P all n0 (runY σ (os.take i) (rs.take i)) o H kd tg r
  | [], _, _, _, _, _, i, H, kd, hi => by simp at hi
  | _ :: _, [], _, _, _, h, _, _, _, _ => by simp [FactsY] at h
  | _ :: _, _ :: _, [], _, _, h, _, _, _, _ => by simp [FactsY] at h
  | _ :: _, _ :: _, _ :: _, [], _, h, _, _, _, _ => by simp [FactsY] at h
  | (H', kd') :: hs, tg :: ts, o :: os, r :: rs, σ, h, 0, H, kd, hi => by
    simp only [List.getElem?_cons_zero, Option.some.injEq, Prod.mk.injEq] at hi
    obtain ⟨rfl, rfl⟩ := hi
    exact ⟨o, r, tg, rfl, rfl, rfl, h.1⟩
  | (H', kd') :: hs, tg :: ts, o :: os, r :: rs, σ, h, i + 1, H, kd, hi => by
    obtain ⟨o', r', tg', h1, h2, h3, h4⟩ := FactsY.get h.2 (i := i) (by simpa using hi)
    exact ⟨o', r', tg', by simpa using h1, by simpa using h2, by simpa using h3, by simpa [runY] using h4⟩
theorem FactY.tgs {all : Array Oper} {n0 : Nat} {o : Oper} {H : List Nat} {kd : Nat} {tg : Option Nat} {r : RY} (h : FactY P all n0 σ o H kd tg r) {id : Nat} {ob : Ob} (ht : r.tg = some (id, ob)) : tg = some id := by
  obtain ⟨_, _, h⟩ := h
  cases tg with
  | none => simp only at h; rw [h.2.1] at ht; cases ht
  | some id' =>
    simp only at h
    obtain ⟨_, ob', _, h1, _⟩ := h
    rw [h1] at ht
    cases ht
    rfl
theorem waitsT_lt {ops : Array Oper} {k : Nat} (hs : Static0 ops k) : ∀ (n i j : Nat), waitsT ops n i j = true → j < i
  | 0, i, j, h => by
    obtain ⟨o, ho, e, he, hb, rfl⟩ := waits_spec.1 h
    exact hs.back i o ho e he hb
  | n + 1, i, j, h => by
    simp only [waitsT, Bool.or_eq_true, List.any_eq_true, Bool.and_eq_true] at h
    rcases h with h | ⟨m, _, h1, h2⟩
    · obtain ⟨o, ho, e, he, hb, rfl⟩ := waits_spec.1 h
      exact hs.back i o ho e he hb
    · obtain ⟨o, ho, e, he, hb, rfl⟩ := waits_spec.1 h1
      have := hs.back i o ho e he hb
      have := waitsT_lt hs n _ _ h2
      omega

/-- a part of the first operations is done -/
structure PartY (ops : Array Oper) (k : Nat) (rs : List RY) (σ0 : St) (listed : Array Bool) (σ : St) : Prop where
  n : σ.n = σ0.n
  len : σ.ob.length = σ0.ob.length
  obL : ∀ (j id : Nat) (r : RY) (o : Ob), rs[j]? = some r → r.tg = some (id, o) → listed.getD j false = true → σ.ob[id]? = some o
  obU : ∀ (id : Nat), (∀ (j : Nat) (r : RY) (o : Ob), rs[j]? = some r → r.tg = some (id, o) → listed.getD j false = false) → σ.ob[id]? = σ0.ob[id]?
  hit : ∀ j o t r, j < k → ops[j]? = some o → o.dst = some t → rs[j]? = some r → listed.getD j false = true → getL σ.tm t = r.x
  miss : ∀ t, (∀ j o, j < k → ops[j]? = some o → listed.getD j false = true → o.dst ≠ some t) → getL σ.tm t = getL σ0.tm t

theorem early_soundY {ops : Array Oper} {n0 : Nat} {hs : List (List Nat × Nat)} (hst : StaticY ops n0 hs) {K : St → Prop} (hQ : ∀ σ' (hv' : Hv) S' F' a' w', K σ' → Rel w0 σ' hv' S' F' a' w' → Q .normal a' w') {rs : List RY} {σ0 : St}
    (hna : w0.na ≤ n0) (hut : ∀ t, (getL σ0.tm t).under n0 = true) (huo : ∀ (i : Nat) (o' : Ob), σ0.ob[i]? = some o' → o'.under n0 = true ∧ ∀ a b s ks vs j id, o' ≠ .mhole a b s ks vs j id)
    (hf : FactsY P ops n0 σ0 hs (tgs hs n0) ops.toList rs) {σe : St} (hE : Eqv (runY σ0 ops.toList rs) σe) (hK : vcOps P ops (ops.toList.drop hs.length) σe K) :
    ∀ (fuel : Nat) {listed : Array Bool} {σ : St} {hv : Hv} {S : Nat → Prop} {F : Nat → List Nat} {a : Act} {w : World}, listed.size = ops.size → Down ops listed → (∀ j, hs.length ≤ j → listed.getD j false = false) → listed.toList.count false ≤ fuel →
      PartY ops hs.length rs σ0 listed σ → Rel w0 σ hv S F a w → wpAny P .any ops Q fuel listed a w := by
  intro fuel
  obtain ⟨hrl, _, hkl⟩ := hf.len
  generalize hk : hs.length = k at *
  have hs0 := hst.toStatic0
  rw [hk] at hs0
  have hap := hst.apart
  rw [hk] at hap
  -- the facts of one
  have fact : ∀ {i : Nat}, i < k → ∃ o r tg H kd, hs[i]? = some (H, kd) ∧ ops[i]? = some o ∧ rs[i]? = some r ∧ (tgs hs n0)[i]? = some tg ∧ FactY P ops n0 (runY σ0 (ops.toList.take i) (rs.take i)) o H kd tg r := by
    intro i hi
    obtain ⟨⟨H, kd⟩, hh⟩ : ∃ e, hs[i]? = some e := ⟨_, List.getElem?_eq_getElem (by omega)⟩
    obtain ⟨o, r, tg, h1, h2, h3, h4⟩ := hf.get hh
    exact ⟨o, r, tg, H, kd, hh, by rw [← Array.getElem?_toList]; exact h1, h2, h3, h4⟩
  have target : ∀ {j id : Nat} {r : RY} {o : Ob}, rs[j]? = some r → r.tg = some (id, o) → j < k ∧ (tgs hs n0)[j]? = some (some id) := by
    intro j id r o hj ht
    have hjk : j < k := by have := get_lt hj; omega
    obtain ⟨o', r', tg, H, kd, _, _, h3, h4, h5⟩ := fact hjk
    rw [hj] at h3
    cases h3
    have := h5.tgs ht
    subst this
    exact ⟨hjk, h4⟩
  have one : ∀ {i j id : Nat} {r r' : RY} {o o' : Ob}, rs[i]? = some r → r.tg = some (id, o) → rs[j]? = some r' → r'.tg = some (id, o') → i = j := fun hi ht hj ht' => hst.one _ _ _ (target hi ht).2 (target hj ht').2
  have idlt : ∀ {j id : Nat} {r : RY} {o : Ob}, rs[j]? = some r → r.tg = some (id, o) → id < σ0.ob.length := by
    intro j id r o hj ht
    obtain ⟨hjk, htg⟩ := target hj ht
    obtain ⟨o', r', tg, H, kd, _, _, h3, h4, _, _, h6⟩ := fact hjk
    rw [htg] at h4
    cases h4
    simp only at h6
    obtain ⟨_, ob, old, _, h7, _⟩ := h6
    have := get_lt h7
    rwa [runY_len] at this
  -- all of the first ones are done
  have full : ∀ {listed : Array Bool} {σ : St} {hv : Hv} {S : Nat → Prop} {F : Nat → List Nat} {a : Act} {w : World}, (∀ j, j < k → listed.getD j false = true) → PartY ops k rs σ0 listed σ → Rel w0 σ hv S F a w →
      Rel w0 σe hv S F a w := by
    intro listed σ hv S F a w hall hp hr
    refine Rel.tm_ext (hr.tm_ext (σ' := runY σ0 ops.toList rs) ⟨by rw [runY_n, hp.n], List.ext_getElem? fun id => ?_, fun t => ?_⟩) hE
    · by_cases hex : ∃ (j : Nat) (r : RY) (o : Ob), rs[j]? = some r ∧ r.tg = some (id, o)
      · obtain ⟨j, r, o, hj, ht⟩ := hex
        rw [hp.obL j id r o hj ht (hall j (target hj ht).1)]
        exact runY_hit _ _ _ (by rw [hrl]; exact hkl) hj ht (idlt hj ht) (fun j' r' o' hne hj' ht' => hne (one hj' ht' hj ht))
      · have hno : ∀ (j : Nat) (r : RY) (o : Ob), rs[j]? = some r → r.tg ≠ some (id, o) := fun j r o hj ht => hex ⟨j, r, o, hj, ht⟩
        rw [hp.obU id fun j r o hj ht => absurd ht (hno j r o hj)]
        exact runY_miss _ _ _ hno
    · rw [runY_tm _ _ _ σ0 (fun _ => rfl)]
      by_cases ht : ∃ j o, j < k ∧ ops[j]? = some o ∧ o.dst = some t
      · obtain ⟨j, o, hj, ho, hd⟩ := ht
        obtain ⟨x, hx⟩ : ∃ x, rs[j]? = some x := ⟨rs[j]'(by omega), List.getElem?_eq_getElem (by omega)⟩
        rw [hp.hit j o t x hj ho hd hx (hall j hj)]
        have hxs : (rs.map RY.x)[j]? = some x.x := by rw [List.getElem?_map, hx]; rfl
        have hpa : ∀ {os1 os2 : List Oper} {xs : List AV} {σ : St}, xs.length ≤ os1.length → putAll σ (os1 ++ os2) xs = putAll σ os1 xs := by
          intro os1
          induction os1 with
          | nil => intro os2 xs σ h; have : xs = [] := List.eq_nil_of_length_eq_zero (by simpa using h)
                   subst this; cases os2 <;> rfl
          | cons o os1 ih => intro os2 xs σ h; cases xs with
            | nil => rfl
            | cons x xs => simp only [List.cons_append, putAll]; exact ih (by simpa using h)
        rw [← List.take_append_drop k ops.toList, hpa (by rw [List.length_map, List.length_take]; omega)]
        refine putAll_hit _ _ _ (by rw [take_get hj]; exact ho) hxs hd fun i o' hi hne => ?_
        have hik : i < k := by have := get_lt hi; simp only [List.length_take] at this; omega
        rw [take_get hik] at hi
        exact (hap i j o' o t hik hj hi ho hd).1.resolve_left hne
      · have hno : ∀ j o, j < k → ops[j]? = some o → o.dst ≠ some t := fun j o hj ho hd => ht ⟨j, o, hj, ho, hd⟩
        rw [hp.miss t (fun j o hj ho _ => hno j o hj ho)]
        have hpa : ∀ (os : List Oper) (xs : List AV) (σ : St), (∀ (j : Nat) (o : Oper), j < xs.length → os[j]? = some o → o.dst ≠ some t) → getL (putAll σ os xs).tm t = getL σ.tm t := by
          intro os
          induction os with
          | nil => intro xs σ _; cases xs <;> rfl
          | cons o os ih => intro xs σ h; cases xs with
            | nil => rfl
            | cons x xs =>
              simp only [putAll]
              rw [ih xs _ (fun j o' hj ho' => h (j + 1) o' (by simpa using hj) (by simpa using ho')), getL_set, if_neg (h 0 o (by simp) rfl)]
        refine hpa _ _ _ fun j o hj ho => ?_
        rw [List.length_map, hrl] at hj
        exact hno j o hj (by rw [← Array.getElem?_toList]; exact ho)
  have fin : ∀ {listed : Array Bool} {σ : St} {hv : Hv} {S : Nat → Prop} {F : Nat → List Nat} {a : Act} {w : World}, listed.size = ops.size → (∀ j, k ≤ j → listed.getD j false = false) → Region.ready .any ops listed = [] →
      PartY ops k rs σ0 listed σ → Rel w0 σ hv S F a w → Q .normal a w := by
    intro listed σ hv S F a w hsz hno hre hp hr
    have hall := all_of_ready_nil hs0 hsz hre
    have hke : k = ops.size := by
      rcases Nat.lt_or_ge k ops.size with h | h
      · have h1 := hall k h
        rw [hno k (Nat.le_refl _)] at h1
        cases h1
      · have := hs0.le; omega
    have hr' := full (fun j hj => hall j (by omega)) hp hr
    rw [List.drop_of_length_le (by simp [hke])] at hK
    exact hQ _ _ _ _ _ _ hK hr'
  induction fuel with
  | zero =>
    intro listed σ hv S F a w hsz hd hno hc hp hr
    have hre : Region.ready .any ops listed = [] := by
      cases hre : Region.ready .any ops listed with
      | nil => rfl
      | cons i is =>
        have : i ∈ Region.ready .any ops listed := by rw [hre]; exact List.mem_cons_self ..
        obtain ⟨h0, _⟩ := mem_ready.1 this
        obtain ⟨h1, h2⟩ := getD_false_true h0
        have : false ∈ listed.toList := by
          have : listed[i] = false := by simpa [h2] using h1
          rw [← this]; simp
        have := List.count_pos_iff.2 this
        omega
    exact ⟨hre, fin hsz hno hre hp hr⟩
  | succ fuel ih =>
    intro listed σ hv S F a w hsz hd hno hc hp hr
    refine ⟨fun hre => fin hsz hno hre hp hr, fun i hi => ?_⟩
    obtain ⟨h0, o, ho, hall⟩ := mem_ready.1 hi
    obtain ⟨h1, h2⟩ := getD_false_true h0
    have hcount : (listed.setIfInBounds i true).toList.count false ≤ fuel := by
      rw [Array.toList_setIfInBounds, List.count_set (by simpa using h2)]
      have : listed[i] = false := by simpa [h2] using h1
      have hpos : 0 < listed.toList.count false := List.count_pos_iff.2 (by rw [← this]; simp)
      simp [this]
      rw [← Array.count_toList]
      omega
    rcases Nat.lt_or_ge i k with hik | hik
    · -- one of the first
      obtain ⟨o', r, tg, H, kd, hhi, ho', hri, htg, hfact⟩ := fact hik
      rw [ho] at ho'
      cases ho'
      obtain ⟨hd1, hxH, hg⟩ := hfact
      have hnl : listed.getD i false = false := h1
      have hwait : ∀ j, waits ops i j = true → listed.getD j false = true := by
        intro j hw
        obtain ⟨o', ho', e, he, hb, rfl⟩ := waits_spec.1 hw
        rw [ho] at ho'
        cases ho'
        exact hall e he hb
      have hlook : ∀ t ∈ o.looksAt ops, getL σ.tm t = getL (runY σ0 (ops.toList.take i) (rs.take i)).tm t := by
        intro t ht
        rw [runY_tm _ _ _ σ0 (fun _ => rfl)]
        have hget : ∀ j, j < i → (ops.toList.take i)[j]? = ops[j]? := fun j hj => by rw [List.getElem?_take_of_lt hj, Array.getElem?_toList]
        by_cases hex : ∃ j p, j < k ∧ ops[j]? = some p ∧ p.dst = some t
        · obtain ⟨j, p, hj, hp', hpd⟩ := hex
          obtain ⟨hji, hw⟩ := (hap i j o p t hik hj ho hp' hpd).2 ht
          obtain ⟨y, hy⟩ : ∃ y, rs[j]? = some y := ⟨rs[j]'(by omega), List.getElem?_eq_getElem (by omega)⟩
          rw [hp.hit j p t y hj hp' hpd hy (hwait j hw)]
          refine (putAll_hit _ _ _ (by rw [hget j hji]; exact hp') (by rw [List.getElem?_map, List.getElem?_take_of_lt hji, hy]; rfl) hpd fun m q hm hne => ?_).symm
          have hmi : m < i := by have := get_lt hm; simp only [List.length_take] at this; omega
          rw [hget m hmi] at hm
          exact (hap m j q p t (by omega) hj hm hp' hpd).1.resolve_left hne
        · have hnone : ∀ j p, j < k → ops[j]? = some p → p.dst ≠ some t := fun j p hj hp' hpd => hex ⟨j, p, hj, hp', hpd⟩
          rw [hp.miss t fun j p hj hp' _ => hnone j p hj hp']
          refine (putAll_miss _ _ _ fun m q hm => ?_).symm
          have hmi : m < i := by have := get_lt hm; simp only [List.length_take] at this; omega
          rw [hget m hmi] at hm
          exact hnone m q (by omega) hm
      have n1 := runY_n (ops.toList.take i) (rs.take i) σ0
      have hdk : ∀ t, o.dst = some t → t < σ.n := fun t ht => by
        rw [ht, n1] at hd1
        rw [hp.n]; exact hd1
      have hpart : ∀ (ob' : List Ob), (∀ id o', r.tg = some (id, o') → id < σ.ob.length) → ob' = obY σ.ob r.tg → PartY ops k rs σ0 (listed.setIfInBounds i true) (({ σ with ob := ob' } : St).set o.dst r.x) := by
        rintro ob' hid rfl
        have hob : (({ σ with ob := obY σ.ob r.tg } : St).set o.dst r.x).ob = obY σ.ob r.tg := set_ob
        refine ⟨by rw [← hp.n]; cases o.dst <;> rfl, by rw [hob, obY_len, hp.len], fun j id r' o' hj ht hl => ?_, fun id hno2 => ?_, fun j p t y hj hp' hpd hy hl => ?_, fun t ht => ?_⟩
        · rw [hob]
          by_cases hji : j = i
          · subst hji
            rw [hri] at hj
            cases hj
            rw [ht]
            simp only [obY]
            exact List.getElem?_set_self (hid id o' ht)
          · rw [getD_set h2] at hl
            have hl' : listed.getD j false = true := by simpa [Ne.symm hji] using hl
            have := hp.obL j id r' o' hj ht hl'
            cases htr : r.tg with
            | none => exact this
            | some p =>
              obtain ⟨id2, o2⟩ := p
              simp only [obY]
              rw [List.getElem?_set_ne (by rintro rfl; exact hji (one hj ht hri htr))]
              exact this
        · rw [hob]
          have h3 : ∀ (j : Nat) (r' : RY) (o' : Ob), rs[j]? = some r' → r'.tg = some (id, o') → listed.getD j false = false := fun j r' o' hj ht => by
            have := hno2 j r' o' hj ht
            rw [getD_set h2] at this
            simp only [Bool.or_eq_false_iff] at this
            exact this.2
          have := hp.obU id h3
          cases htr : r.tg with
          | none => exact this
          | some p =>
            obtain ⟨id2, o2⟩ := p
            simp only [obY]
            rw [List.getElem?_set_ne (by
              rintro rfl
              have := hno2 i r o2 hri htr
              rw [getD_set h2] at this
              simp at this)]
            exact this
        · rw [getL_set]
          by_cases hji : j = i
          · subst hji
            rw [ho] at hp'
            cases hp'
            rw [hri] at hy
            cases hy
            rw [if_pos hpd]
          · rw [getD_set h2] at hl
            have hl' : listed.getD j false = true := by simpa [Ne.symm hji] using hl
            have hne : o.dst ≠ some t := (hap i j o p t hik hj ho hp' hpd).1.resolve_left (Ne.symm hji)
            rw [if_neg hne]
            exact hp.hit j p t y hj hp' hpd hy hl'
        · rw [getL_set, if_neg (ht i o hik ho (by rw [getD_set h2]; simp))]
          exact hp.miss t fun j p hj hp' hl => ht j p hj hp' (by rw [getD_set h2]; simp only [hl, Bool.or_true])
      have hdown' : Down ops (listed.setIfInBounds i true) := by
        intro u v hu hw
        rw [getD_set h2] at hu ⊢
        by_cases hiu : i = u
        · subst hiu; simp only [hwait v hw, Bool.or_true]
        · have : listed.getD u false = true := by simpa [hiu] using hu
          simp only [hd u v this hw, Bool.or_true]
      have hno' : ∀ j, k ≤ j → (listed.setIfInBounds i true).getD j false = false := fun j hj => by
        rw [getD_set h2, hno j hj]
        simp only [Bool.or_false, decide_eq_false_iff_not]; omega
      have hguard := guard_congr (ops := ops) (o := o) hlook
      have hopd := opd_congr (ops := ops) (o := o) hlook
      unfold wpOp
      rw [ho]
      simp only
      cases tg with
      | none =>
        obtain ⟨_, hrt, hg⟩ := hg
        have hpart' := hpart σ.ob (fun id o' h => by rw [hrt] at h; cases h) (by rw [hrt]; rfl)
        have hkill : killAll H σ.ob = killAll H (runY σ0 (ops.toList.take i) (rs.take i)).ob := by
          refine killAll_ext (by rw [runY_len, hp.len]) fun id hidH => ?_
          by_cases hex : ∃ (j : Nat) (r : RY) (o : Ob), rs[j]? = some r ∧ r.tg = some (id, o)
          · obtain ⟨j, r', o', hj, ht⟩ := hex
            obtain ⟨hjk, hjt⟩ := target hj ht
            have hji : i ≠ j := by rintro rfl; rw [htg] at hjt; cases hjt
            have hw := (hst.hid i j H kd id hji hhi hjt).resolve_right hidH
            have hlt := waitsT_lt hs0 6 i j hw
            rw [hp.obL j id r' o' hj ht (waitsT_ready hd hwait 6 j hw)]
            refine (runY_hit (j := j) (r := r') _ _ _ (by simp only [List.length_take]; omega) (by rw [List.getElem?_take_of_lt hlt]; exact hj) ht (idlt hj ht) (fun j' r2 o2 hne hj' ht' => ?_)).symm
            have hj2 : rs[j']? = some r2 := by
              have := get_lt hj'
              rw [List.length_take] at this
              rwa [List.getElem?_take_of_lt (by omega)] at hj'
            exact hne (one hj2 ht' hj ht)
          · have hno3 : ∀ (j : Nat) (r : RY) (o : Ob), rs[j]? = some r → r.tg ≠ some (id, o) := fun j r o hj ht => hex ⟨j, r, o, hj, ht⟩
            rw [hp.obU id fun j r o hj ht => absurd ht (hno3 j r o hj)]
            refine (runY_miss _ _ _ fun j r o hj => ?_).symm
            have := get_lt hj
            rw [List.length_take] at this
            rw [List.getElem?_take_of_lt (by omega)] at hj
            exact hno3 j r o hj
        rcases hg with ⟨hg, hfact⟩ | ⟨hg, hrx⟩
        · rw [if_pos (wanted_of hr (hguard.trans hg))]
          refine .inl ?_
          rw [← hkill] at hfact
          have := (hfact.kill.congr hopd).does (Q := Q) (next := fun v w' => wpAny P .any ops Q fuel (listed.setIfInBounds i true) (a.put o.dst v) w') hr (fun y _ => hr.arg y) (fun v w' hv' S' hr' ⟨L, f1, f2⟩ hu =>
            ih (by simpa using hsz) hdown' hno' hcount hpart' (hr'.put (d := o.dst) f1 f2 hu hdk))
          unfold Does at this
          exact Oper.wp_mono (fun a' w' ⟨v, ha, hv⟩ => ha ▸ hv) this
        · rw [if_neg (by rw [wanted_of hr (hguard.trans hg)]; simp)]
          rw [hrx] at hpart'
          exact ih (by simpa using hsz) hdown' hno' hcount hpart' (hr.put (d := o.dst) (x := .ud) (v := undef) (L := []) (by simp [footA]) (by simp) rfl hdk)
      | some id =>
        obtain ⟨hgd, ob, old, hrt, hold, hobH, hobm, hmkd, heff⟩ := hg
        have hgo : guardOf ops σ o = some true := by unfold guardOf; rw [hgd]
        rw [if_pos (wanted_of hr hgo)]
        refine .inl ?_
        -- nobody else writes it
        have hno4 : ∀ (j : Nat) (r' : RY) (o' : Ob), j ≠ i → rs[j]? = some r' → r'.tg ≠ some (id, o') := fun j r' o' hne hj ht => hne (one hj ht hri hrt)
        have hσ0 : σ0.ob[id]? = some old := by
          rw [← hold]
          refine (runY_miss _ _ _ fun j r' o' hj => ?_).symm
          have hlt := get_lt hj
          rw [List.length_take] at hlt
          rw [List.getElem?_take_of_lt (by omega)] at hj
          exact hno4 j r' o' (by omega) hj
        have hσ : σ.ob[id]? = some old := by
          rw [hp.obU id fun j r' o' hj ht => ?_, hσ0]
          by_cases hji : j = i
          · rw [hji]; exact hnl
          · exact absurd ht (hno4 j r' o' hji hj)
        have hfree : ∀ {j : Nat} {H' : List Nat} {kd' : Nat}, listed.getD j false = true → hs[j]? = some (H', kd') → id ∈ H' := by
          intro j H' kd' hl hj
          have hji : j ≠ i := by rintro rfl; rw [hnl] at hl; cases hl
          refine (hst.hid j i H' kd' id hji hj htg).resolve_left fun hw => ?_
          have := waitsT_down hd 6 j i hw hl
          rw [hnl] at this; cases this
        have := heff (Q := Q) hr hna hσ hopd (fun hmk => ?_) (next := fun v w' => wpAny P .any ops Q fuel (listed.setIfInBounds i true) (a.put o.dst v) w') (fun v w' x' ob' hv' S' F' L hk' q1 q2 q3 q4 => by
          obtain ⟨rfl, rfl⟩ := hk'
          exact ih (by simpa using hsz) hdown' hno' hcount (hpart _ (fun id' o' h => by rw [hrt] at h; cases h; exact get_lt hσ) (by rw [hrt]; rfl)) (q1.put (d := o.dst) q2 q3 q4 hdk))
        · unfold Does at this
          exact Oper.wp_mono (fun a' w' ⟨v, ha, hv⟩ => ha ▸ hv) this
        · obtain ⟨_, hid0⟩ := hmkd (by simpa using hmk)
          refine ⟨fun t => ?_, fun i' o' hi' => ?_⟩
          · by_cases hex : ∃ j p, j < k ∧ ops[j]? = some p ∧ p.dst = some t ∧ listed.getD j false = true
            · obtain ⟨j, p, hj, hp', hpd, hl⟩ := hex
              obtain ⟨o2, r2, tg2, H2, kd2, hh2, ho2, hr2, _, _, hx2, _⟩ := fact hj
              rw [hp.hit j p t r2 hj hp' hpd hr2 hl]
              exact avoidH_mem hx2 (hfree hl hh2)
            · rw [hp.miss t fun j p hj hp' hl hpd => hex ⟨j, p, hj, hp', hpd, hl⟩]
              exact BX.avoid_under hid0 _ (hut t)
          · by_cases hex : ∃ (j : Nat) (r : RY) (o : Ob), rs[j]? = some r ∧ r.tg = some (i', o) ∧ listed.getD j false = true
            · obtain ⟨j, r2, o2, hj, ht, hl⟩ := hex
              have := hp.obL j i' r2 o2 hj ht hl
              rw [this] at hi'
              cases hi'
              obtain ⟨hjk, hjt⟩ := target hj ht
              obtain ⟨o3, r3, tg3, H3, kd3, hh3, ho3, hr3, ht3, _, _, hg3⟩ := fact hjk
              rw [hj] at hr3
              cases hr3
              rw [hjt] at ht3
              cases ht3
              simp only at hg3
              obtain ⟨_, ob3, _, e3, _, hob3, _⟩ := hg3
              rw [ht] at e3
              cases e3
              exact hob3 id (hfree hl hh3)
            · rw [hp.obU i' fun j r2 o2 hj ht => ?_] at hi'
              · exact Ob.avoid_under hid0 (huo i' o' hi').1 (huo i' o' hi').2
              · cases hl : listed.getD j false with
                | false => rfl
                | true => exact absurd ⟨j, r2, o2, hj, ht, hl⟩ hex
    · -- the first of the others
      have hbefore := ready_chain hs0 hd hi hik
      have hik' : i = k := by
        rcases Nat.lt_or_ge k i with h | h
        · have := hbefore (i - k) k rfl h
          rw [hno k (Nat.le_refl _)] at this
          cases this
        · omega
      subst hik'
      have hr' := full (fun j hj => hbefore (i - j) j rfl hj) hp hr
      have hlt : i < ops.size := by omega
      have hdrop : ops.toList.drop i = o :: ops.toList.drop (i + 1) := by
        rw [List.drop_eq_getElem_cons (by simpa using hlt)]
        congr 1
        have := Array.getElem?_eq_getElem hlt
        rw [ho] at this
        simpa using (Option.some.inj this).symm
      rw [hdrop] at hK
      refine op_step ho hr' hK fun σ' hv' S' F' a' w' hK' hr'' => ?_
      have hl : ∀ j, (listed.setIfInBounds i true).getD j false = decide (j < i + 1) := fun j => by
        rw [getD_set h2]
        rcases Nat.lt_trichotomy j i with h | h | h
        · rw [hbefore (i - j) j rfl h]; simp; omega
        · subst h; simp
        · rw [hno j (by omega)]
          simp only [Bool.or_false, decide_eq_decide]; omega
      refine late_sound hs0 hQ fuel (by simpa using hsz) hlt (by omega) hl ?_ hr'' hK'
      have hc2 := count_false (listed.setIfInBounds i true).toList (i + 1) (fun j hj b hb => by
        have := hl j
        rw [Array.getElem?_toList] at hb
        simp only [Array.getD_eq_getD_getElem?, hb, Option.getD_some] at this
        rw [this]; simp; omega)
      simp only [Array.length_toList, Array.size_setIfInBounds] at hc2
      omega

def deads : Nat → List Ob
  | 0 => []
  | n + 1 => .dead :: deads n
theorem deads_eq : ∀ (n : Nat), deads n = List.replicate n .dead
  | 0 => rfl
  | n + 1 => by rw [deads, deads_eq n]; rfl
/-- the orders as they are noted down -/
def prs : List (Bool × Nat) → List Nat → List (List Nat × Nat)
  | (true, id) :: es, H => prs es (id :: H)
  | (false, kd) :: es, H => (H, kd) :: prs es []
  | [], _ => []
/-- A REGION WHOSE ORDER IS OPEN, in which things are made and written in no order -/
def vcDyR (P : Program) (ops : Array Oper) (n0 : Nat) (hs : List (List Nat × Nat)) (σ : St) (K : St → Prop) : Prop :=
  σ.ob.length = n0 ∧ noMh σ.ob = true ∧ vcDy P ops hs ops.toList n0 { σ with ob := σ.ob ++ deads (mks hs) } K
theorem vcDy_run {id : Nat} {ops : Array Oper} {n0 : Nat} {hs : List (List Nat × Nat)} {K : St → Prop} (hm : P.follows .mixedOrders = true) (hr : Rel w0 σ hv S F a w) (hk : okDy ops n0 hs = true) (h : vcDyR P ops n0 hs σ K)
    (hQ : ∀ σ' (hv' : Hv) S' F' a' w', K σ' → Rel w0 σ' hv' S' F' a' w' → Q .normal a' w') : (Code.region id ops true).wp P Q a w := by
  obtain ⟨hn0, hmh, h⟩ := h
  rw [deads_eq] at h
  have hst := okDy_spec hk
  obtain ⟨hv1, F1, hr1⟩ := hr.room (mks hs) hmh
  have hna : w0.na ≤ n0 := by rw [← hn0]; exact hr.an
  have hut : ∀ t, (getL σ.tm t).under n0 = true := fun t => by rw [← hn0]; exact hr.utm t
  have huo : ∀ (i : Nat) (o' : Ob), (σ.ob ++ List.replicate (mks hs) Ob.dead)[i]? = some o' → o'.under n0 = true ∧ ∀ a b s ks vs j id, o' ≠ .mhole a b s ks vs j id := fun i o' hi => by
    rcases Nat.lt_or_ge i σ.ob.length with hlt | hge
    · rw [List.getElem?_append_left hlt] at hi
      exact ⟨by rw [← hn0]; exact hr.uob i o' hi, noMh_get hmh hi⟩
    · rw [List.getElem?_append_right hge, List.getElem?_replicate] at hi
      split at hi
      · rw [← Option.some.inj hi]; exact ⟨rfl, by simp⟩
      · cases hi
  obtain ⟨rs, σe, k0, k1, k2⟩ := vcDy_sound (n0 := n0) hs ops.toList hr1 (Eqv.refl _) hna (Nat.le_refl _) hut huo (fun i h1 h2 => by
    simp only [List.length_append, List.length_replicate] at h2
    rw [List.getElem?_append_right (by omega), List.getElem?_replicate, if_pos (by omega)]) (by simp; omega) h
  refine wp_region_any hm ?_
  have hrep : ∀ j, (Array.replicate ops.size false).getD j false = false := fun j => by
    rcases Nat.lt_or_ge j ops.size with h | h <;> simp [h]
  refine early_soundY (σ0 := { σ with ob := σ.ob ++ List.replicate (mks hs) .dead }) hst hQ hna hut huo k2 k0 k1 ops.size (by simp) (fun i j hi _ => absurd hi (by rw [hrep]; simp)) (fun j _ => hrep j) (by simp) ⟨rfl, rfl, fun j id r o _ _ hl => absurd hl (by rw [hrep]; simp), fun _ _ => rfl, fun j o t r _ _ _ _ hl => absurd hl (by rw [hrep]; simp), fun _ _ => rfl⟩ (hr1.grow (Grew.drew w))
end
end Go.Proofs.Ythhgcklidfilfaa.BX
