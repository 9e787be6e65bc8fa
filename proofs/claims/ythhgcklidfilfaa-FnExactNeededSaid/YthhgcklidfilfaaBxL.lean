/-
  A frame for proofs over whole functions, second make, twelfth part: one state for another.
-/
import Derived.Test.YthhgcklidfilfaaBxK
namespace Go.Proofs.Ythhgcklidfilfaa.BX
set_option linter.unusedSectionVars false
set_option linter.unusedSimpArgs false
set_option linter.unusedVariables false
open Go Go.RowKit
variable [Bd]

mutual
/-- the new value says no more than the old one, where 'r' tells the old names of the new objects ('none': a list that is nil) -/
def AV.via (r : Nat → Option Nat) : AV → AV → Prop
  | .un, _ => True
  | .ud, x => x = .ud
  | .ns, x => x = .ns
  | .t y, x => x.shut = some y
  | .bw y, x => x.shutB = some y
  | .ag cs, x => match x with
    | .ag ds => vias r cs ds
    | .t (.ag ys) => vias r cs (ys.map .t)
    | _ => False
  | .tp cs, x => match x with
    | .tp ds => vias r cs ds
    | _ => False
  | .fn f cs, x => match x with
    | .fn g ds => f = g ∧ vias r cs ds
    | _ => False
  | .rf i off, x => match r i with
    | some j => x = .rf j off
    | none => False
  | .ra i k m off, x => match r i with
    | some j => x = .ra j k m off
    | none => False
  | .sv i k m off, x => match r i with
    | some j => x = .sv j k m off
    | none => False
  | .sr i, x => match r i with
    | some j => x = .sr j
    | none => x = .ns
  | .mr i, x => match r i with
    | some j => x = .mr j
    | none => False
  | .it i, x => match r i with
    | some j => x = .it j
    | none => False
def vias (r : Nat → Option Nat) : List AV → List AV → Prop
  | [], ds => ds = []
  | c :: cs, ds => match ds with
    | d :: ds => c.via r d ∧ vias r cs ds
    | [] => False
end

/-- a kind that asks no more -/
def Kind.le : Kind → Kind → Prop
  | .bor, _ => True
  | .own s, .own s' => s = s'
  | .clo, .clo => True
  | _, _ => False

def Ob.via (r : Nat → Option Nat) : Ob → Ob → Prop
  | .dead, _ => True
  | .box x, o => match o with
    | .box y => x.via r y
    | _ => False
  | .arr e m k es, o => match o with
    | .arr e' m' k' es' => e = e' ∧ m = m' ∧ k.le k' ∧ es = es'
    | _ => False
  | .map a b k ks vs p, o => match o with
    | .map a' b' k' ks' vs' p' => a = a' ∧ b = b' ∧ k.le k' ∧ ks = ks' ∧ vs = vs' ∧ (p = none ∨ p = p')
    | _ => False
  | .iter c l, o => match o with
    | .iter c' l' => (c = none ∨ c = c') ∧ l = l'
    | _ => False
  | .hole e m ss es i j id, o => match o with
    | .hole e' m' ss' es' i' j' id' => (e = e' ∧ m = m' ∧ ss = ss' ∧ es = es' ∧ i = i' ∧ j = j') ∧ r id = some id'
    | _ => False
  | .mhole a b s ks vs i id, o => match o with
    | .mhole a' b' s' ks' vs' i' id' => (a = a' ∧ b = b' ∧ s = s' ∧ ks = ks' ∧ vs = vs' ∧ i = i') ∧ r id = some id'
    | _ => False

def Ob.empty : Ob → Bool
  | .arr _ _ _ [] => true
  | .dead => true
  | _ => false

section
variable {P : Program} {w0 : Base} {σ : St} {hv : Hv} {S : Nat → Prop} {F : Nat → List Nat} {a : Act} {w : World}

theorem footAs_t {hv : Hv} {w : World} : ∀ {xs : List T} {vs : List Value} {L : List Nat}, footTs w xs vs L → footAs hv w (xs.map .t) vs L
  | [], _, _, h => by simpa only [footTs, List.map_nil, footAs] using h
  | x :: xs, _, _, h => by
    simp only [footTs] at h
    obtain ⟨v, vs', M1, M2, rfl, rfl, g1, g2⟩ := h
    simp only [List.map_cons, footAs]
    exact ⟨v, vs', M1, M2, rfl, rfl, by simpa only [footA] using g1, footAs_t g2⟩

mutual
theorem via_foot {r : Nat → Option Nat} {hv hv' : Hv} (hB : hv'.B = hv.B) (hS : ∀ b, S b → hv.B b) (h1 : ∀ i j, r i = some j → hv' i = hv j) (h2 : ∀ i, r i = none → hv' i = .slice none 0 0) :
    ∀ (x : AV) {y : AV} {v : Value} {L : List Nat}, x.via r y → footA hv w y v L → (∀ b ∈ L, S b) → ∃ L', footA hv' w x v L' ∧ ∀ b ∈ L', S b
  | .un, y, v, L, _, _, _ => ⟨[], by simp [footA], by simp⟩
  | .ud, y, v, L, h, hf, hL => by simp only [AV.via] at h; subst h; exact ⟨L, by simpa only [footA] using hf, hL⟩
  | .ns, y, v, L, h, hf, hL => by simp only [AV.via] at h; subst h; exact ⟨L, by simpa only [footA] using hf, hL⟩
  | .t x, y, v, L, h, hf, hL => by simp only [AV.via] at h; exact ⟨L, by simpa only [footA] using shut_sound _ h hf, hL⟩
  | .bw x, y, v, L, h, hf, hL => by
    simp only [AV.via] at h
    obtain ⟨L', k1, k2⟩ := shutB_sound hS _ h hf hL
    exact ⟨[], by simp only [footA]; exact ⟨⟨L', k1, by rw [hB]; exact k2⟩, trivial⟩, by simp⟩
  | .ag cs, y, v, L, h, hf, hL => by
    simp only [AV.via] at h
    split at h
    · simp only [footA] at hf
      obtain ⟨vs, rfl, hf⟩ := hf
      obtain ⟨L', k1, k2⟩ := vias_foot hB hS h1 h2 cs h hf hL
      exact ⟨L', by simp only [footA]; exact ⟨vs, rfl, k1⟩, k2⟩
    · simp only [footA, footT] at hf
      obtain ⟨vs, rfl, hf⟩ := hf
      obtain ⟨L', k1, k2⟩ := vias_foot hB hS h1 h2 cs h (footAs_t hf) hL
      exact ⟨L', by simp only [footA]; exact ⟨vs, rfl, k1⟩, k2⟩
    · cases h
  | .tp cs, y, v, L, h, hf, hL => by
    simp only [AV.via] at h
    split at h
    · simp only [footA] at hf
      obtain ⟨vs, rfl, hf⟩ := hf
      obtain ⟨L', k1, k2⟩ := vias_foot hB hS h1 h2 cs h hf hL
      exact ⟨L', by simp only [footA]; exact ⟨vs, rfl, k1⟩, k2⟩
    · cases h
  | .fn f cs, y, v, L, h, hf, hL => by
    simp only [AV.via] at h
    split at h
    · obtain ⟨rfl, h⟩ := h
      simp only [footA] at hf
      obtain ⟨vs, rfl, hf⟩ := hf
      obtain ⟨L', k1, k2⟩ := vias_foot hB hS h1 h2 cs h hf hL
      exact ⟨L', by simp only [footA]; exact ⟨vs, rfl, k1⟩, k2⟩
    · cases h
  | .rf i off, y, v, L, h, hf, hL => by
    simp only [AV.via] at h
    split at h
    · rename_i j hj
      subst h
      exact ⟨L, by simp only [footA] at hf ⊢; rw [h1 i j hj]; exact hf, hL⟩
    · cases h
  | .ra i k m off, y, v, L, h, hf, hL => by
    simp only [AV.via] at h
    split at h
    · rename_i j hj
      subst h
      exact ⟨L, by simp only [footA] at hf ⊢; rw [h1 i j hj]; exact hf, hL⟩
    · cases h
  | .sv i k m off, y, v, L, h, hf, hL => by
    simp only [AV.via] at h
    split at h
    · rename_i j hj
      subst h
      exact ⟨L, by simp only [footA] at hf ⊢; rw [h1 i j hj]; exact hf, hL⟩
    · cases h
  | .sr i, y, v, L, h, hf, hL => by
    simp only [AV.via] at h
    split at h
    · rename_i j hj
      subst h
      exact ⟨L, by simp only [footA] at hf ⊢; rw [h1 i j hj]; exact hf, hL⟩
    · rename_i hj
      subst h
      exact ⟨L, by simp only [footA] at hf ⊢; rw [h2 i hj]; exact hf, hL⟩
  | .mr i, y, v, L, h, hf, hL => by
    simp only [AV.via] at h
    split at h
    · rename_i j hj
      subst h
      exact ⟨L, by simp only [footA] at hf ⊢; rw [h1 i j hj]; exact hf, hL⟩
    · cases h
  | .it i, y, v, L, h, hf, hL => by
    simp only [AV.via] at h
    split at h
    · rename_i j hj
      subst h
      exact ⟨L, by simp only [footA] at hf ⊢; rw [h1 i j hj]; exact hf, hL⟩
    · cases h
theorem vias_foot {r : Nat → Option Nat} {hv hv' : Hv} (hB : hv'.B = hv.B) (hS : ∀ b, S b → hv.B b) (h1 : ∀ i j, r i = some j → hv' i = hv j) (h2 : ∀ i, r i = none → hv' i = .slice none 0 0) :
    ∀ (xs : List AV) {ys : List AV} {vs : List Value} {L : List Nat}, vias r xs ys → footAs hv w ys vs L → (∀ b ∈ L, S b) → ∃ L', footAs hv' w xs vs L' ∧ ∀ b ∈ L', S b
  | [], ys, vs, L, h, hf, hL => by simp only [vias] at h; subst h; simp only [footAs] at hf; exact ⟨[], by simp [footAs, hf.1], by simp⟩
  | x :: xs, ys, vs, L, h, hf, hL => by
    simp only [vias] at h
    split at h
    · obtain ⟨g1, g2⟩ := h
      simp only [footAs] at hf
      obtain ⟨v, vs', L1, L2, rfl, rfl, f1, f2⟩ := hf
      obtain ⟨M1, k1, k2⟩ := via_foot hB hS h1 h2 x g1 f1 (fun b hb => hL b (List.mem_append_left _ hb))
      obtain ⟨M2, k3, k4⟩ := vias_foot hB hS h1 h2 xs g2 f2 (fun b hb => hL b (List.mem_append_right _ hb))
      exact ⟨M1 ++ M2, by simp only [footAs]; exact ⟨v, vs', M1, M2, rfl, rfl, k1, k3⟩, fun b hb => (List.mem_append.1 hb).elim (k2 b) (k4 b)⟩
    · cases h
end

theorem elsR.weak {hv hv' : Hv} {Fi Fj : List Nat} {k k' : Kind} {es : List T} {vs : List Value} (h : elsR hv S w Fi k' es vs) (hk : k.le k') (hB : hv'.B = hv.B) (hS : ∀ b, S b → hv.B b) (hF : k'.isOwn = true → ∀ b ∈ Fi, hv.B b) (hFF : ∀ b ∈ Fi, b ∈ Fj) : elsR hv' S w Fj k es vs := by
  cases k with
  | own s =>
    cases k' with
    | own s' => simp only [Kind.le] at hk; subst hk; obtain ⟨L, h1, h2, h3⟩ := h; exact ⟨L, h1, h2, fun b hb => hFF b (h3 b hb)⟩
    | clo => cases hk
    | bor => cases hk
  | clo =>
    cases k' with
    | own s' => cases hk
    | clo => exact h
    | bor => cases hk
  | bor =>
    obtain ⟨L, h1, h2⟩ := elsR_foot h hF
    exact ⟨L, h1, fun b hb => by rw [hB]; have := h2 b hb; cases k' <;> first | exact this | exact hS b this⟩

theorem via_owns {r : Nat → Option Nat} {o o' : Ob} (h : o'.via r o) (hw : o'.owns = true) : o.owns = true := by
  cases o' with
  | dead => cases hw
  | box x => cases hw
  | arr e m k es =>
    cases k with
    | own s =>
      cases o <;> simp only [Ob.via] at h
      rename_i k' _
      obtain ⟨_, _, h, _⟩ := h
      cases k' <;> first | rfl | cases h
    | clo => cases hw
    | bor => cases hw
  | hole => cases o <;> first | rfl | (simp only [Ob.via] at h)
  | map a b k ks vs p =>
    cases k with
    | own s =>
      cases o <;> simp only [Ob.via] at h
      rename_i k' _ _ _
      obtain ⟨_, _, h, _⟩ := h
      cases k' <;> first | rfl | cases h
    | clo => cases hw
    | bor => cases hw
  | mhole => cases o <;> first | rfl | (simp only [Ob.via] at h)
  | iter => cases hw

theorem iter_none {hv : Hv} {S : Nat → Prop} {w : World} {Fi : List Nat} {h : Value} {c : Option (T × T)} {xs : List (T × T)} (hob : ObR hv S w Fi h (.iter c xs)) : ObR hv S w Fi h (.iter none xs) := by
  cases c with
  | none => exact hob
  | some p =>
    obtain ⟨b, m, es, clock, seen, last, lc, l, L1, L2, h1, h2, h3, h4, h5, h6, h7, h8, ⟨h9, h9', _⟩, h10, h11, h12⟩ := hob
    cases lc with
    | nil => simp at h9'
    | cons e lc =>
      have : lc = [] := List.eq_nil_of_length_eq_zero (by simpa using h9')
      subst this
      simp only [Option.toList_some, List.cons_append, List.nil_append, List.map_cons, footTs] at h10 h11
      obtain ⟨_, _, A1, A2, q1, rfl, _, q3⟩ := h10
      obtain ⟨_, _, B1, B2, r1, rfl, _, r3⟩ := h11
      cases q1; cases r1
      exact ⟨b, m, es, clock, seen, last, [], l, A2, B2, h1, h2, h3, h4, h5, h6, h7, h8, ⟨h9, rfl, by simp⟩, by simpa using q3, by simpa using r3, fun b' hb' => h12 b' (by
        rcases List.mem_append.1 hb' with hb' | hb'
        · simp [hb']
        · simp [hb'])⟩

/-- a state says no more than another -/
theorem Rel.via (hr : Rel w0 σ hv S F a w) {σ' : St} (r : Nat → Option Nat) (hn : σ'.n = σ.n) (ht : ∀ t, (getL σ'.tm t).via r (getL σ.tm t)) (hu : ∀ t, (getL σ'.tm t).under σ'.ob.length = true)
    (ho : ∀ (i : Nat) (o' : Ob), σ'.ob[i]? = some o' → match r i with
      | some j => o' = .dead ∨ ∃ o, σ.ob[j]? = some o ∧ o'.via r o
      | none => o'.empty = true)
    (hinj : ∀ i i' j, i < σ'.ob.length → i' < σ'.ob.length → r i = some j → r i' = some j → i = i') (huo : ∀ (i : Nat) (o' : Ob), σ'.ob[i]? = some o' → o'.under σ'.ob.length = true)
    (hp : ∀ i, i < w0.na → r i = some i) (hpl : w0.na ≤ σ'.ob.length) :
    ∃ (hv' : Hv) (F' : Nat → List Nat), Rel w0 σ' hv' S F' a w ∧ hv'.B = hv.B ∧ ∀ i j, r i = some j → hv' i = hv j ∧ F' i = F j := by
  refine ⟨⟨fun i => match r i with | some j => hv j | none => .slice none 0 0, hv.B⟩, fun i => match r i with | some j => F j | none => [], ?_, rfl, fun i j h => by simp only [h]; exact ⟨trivial, trivial⟩⟩
  generalize hhv : (⟨fun i => match r i with | some j => hv j | none => Value.slice none 0 0, hv.B⟩ : Hv) = hv'
  have hB : hv'.B = hv.B := by rw [← hhv]
  have h1 : ∀ i j, r i = some j → hv' i = hv j := fun i j h => by rw [← hhv]; simp only [h]
  have h2 : ∀ i, r i = none → hv' i = .slice none 0 0 := fun i h => by rw [← hhv]; simp only [h]
  have cases' : ∀ (i : Nat) (o' : Ob), σ'.ob[i]? = some o' → o' ≠ .dead → (∃ j o, r i = some j ∧ σ.ob[j]? = some o ∧ o'.via r o ∧ o ≠ .dead) ∨ (r i = none ∧ ∃ e m k, o' = .arr e m k []) := by
    intro i o' hi hd
    have := ho i o' hi
    split at this
    · rename_i j hj
      rcases this with h | ⟨o, h, hv⟩
      · exact absurd h hd
      · refine .inl ⟨j, o, hj, h, hv, ?_⟩
        rintro rfl
        cases o' <;> simp [Ob.via] at hv hd
    · rename_i hj
      refine .inr ⟨hj, ?_⟩
      cases o' with
      | dead => exact absurd rfl hd
      | arr e m k es => cases es with
        | nil => exact ⟨e, m, k, rfl⟩
        | cons x xs => simp [Ob.empty] at this
      | _ => simp [Ob.empty] at this
  have nilEls : ∀ {k : Kind} {Fi : List Nat}, elsR hv' S w Fi k [] [] := fun {k} {Fi} => by cases k <;> exact ⟨[], by simp [ownEs, footTs], by simp⟩
  refine { size := by rw [hr.size, hn], defs := hr.defs, tm := fun t => ?_, utm := hu, ob := fun i o' hi => ?_, uob := huo, root := fun i o' hi hd b hb => ?_, sep := fun i j oi oj hij hi hj di dj b hb => ?_, SB := fun b hb => by rw [hB]; exact hr.SB b hb, Blt := fun b hb => hr.Blt b (by rw [← hB]; exact hb), Bin := fun b hb => hr.Bin b (by rw [← hB]; exact hb), fown := fun i o hi hown b hb => ?_, fsep := fun i j oi oj hij hi hj hoi hoj b hb => ?_, below := hr.below, one := fun i => ?_, an := hpl, av := fun i hi => by rw [h1 i i (hp i hi)]; exact hr.av i hi }
  · obtain ⟨L, k1, k2⟩ := hr.tm t
    exact via_foot hB hr.SB h1 h2 _ (ht t) k1 k2
  · by_cases hd : o' = .dead
    · subst hd; trivial
    · rcases cases' i o' hi hd with ⟨j, o, hj, hjo, hv2, hod⟩ | ⟨hj, e, m, k, rfl⟩
      · rw [h1 i j hj]
        simp only [hj]
        have hob := hr.ob j o hjo
        have hFB : o.owns = true → ∀ b ∈ F j, hv.B b := fun h b hb => (hr.fown j o hjo h b hb).2.1
        cases o' with
        | dead => exact absurd rfl hd
        | box x =>
          cases o <;> simp only [Ob.via] at hv2
          obtain ⟨b, e, u, L, q1, q2, q3, q4⟩ := hob
          obtain ⟨L', k3, k4⟩ := via_foot hB hr.SB h1 h2 _ hv2 q3 q4
          exact ⟨b, e, u, L', q1, q2, k3, k4⟩
        | arr e m k es =>
          cases o <;> simp only [Ob.via] at hv2
          rename_i k' _
          obtain ⟨rfl, rfl, hk, rfl⟩ := hv2
          obtain ⟨vs, q1, q2, q3, q4⟩ := hob
          exact ⟨vs, q1, q2.weak hk hB hr.SB (fun h => hFB (by cases k' <;> first | rfl | cases h)) (fun b hb => hb), q3, q4⟩
        | map kt vt k ks vs p =>
          cases o <;> simp only [Ob.via] at hv2
          rename_i k' _ _ p'
          obtain ⟨rfl, rfl, hk, rfl, rfl, hpp⟩ := hv2
          obtain ⟨rr, es, clock, l, q1, q2, q3, q4⟩ := hob
          refine ⟨rr, es, clock, l, q1, q2.weak hk hB hr.SB (fun h => hFB (by cases k' <;> first | rfl | cases h)) (fun b hb => hb), q3, fun n x hx => ?_⟩
          rcases hpp with rfl | rfl
          · cases hx
          · exact q4 n x hx
        | hole e m ss es i j' id =>
          cases o <;> simp only [Ob.via] at hv2
          obtain ⟨⟨rfl, rfl, rfl, rfl, rfl, rfl⟩, hid⟩ := hv2
          obtain ⟨vs, v, y, L0, e1, m1, s1, g1, g2, g3, g4, g5, g6, g7, g8, g9, g10⟩ := hob
          exact ⟨vs, v, y, L0, e1, m1, s1, g1, g2, g3, g4, g5, by rw [h1 _ _ hid]; exact g6, g7, g8, g9, by rw [h1 _ _ hid]; exact g10⟩
        | mhole a b s ks vs i id =>
          cases o <;> simp only [Ob.via] at hv2
          obtain ⟨⟨rfl, rfl, rfl, rfl, rfl, rfl⟩, hid⟩ := hv2
          exact hob
        | iter c l =>
          cases o <;> simp only [Ob.via] at hv2
          obtain ⟨hc, rfl⟩ := hv2
          rcases hc with rfl | rfl
          · exact iter_none hob
          · exact hob
      · rw [h2 i hj]
        have := Bd.lo
        exact ⟨[], ⟨by simp [cellsL], .inl ⟨by simp, rfl⟩⟩, nilEls, by simp, ⟨by simp; omega, by simp [ones, cellsL]⟩⟩
  · rw [hB]
    rcases cases' i o' hi hd with ⟨j, o, hj, hjo, hv2, hod⟩ | ⟨hj, e, m, own, rfl⟩
    · rw [h1 i j hj] at hb
      exact hr.root j o hjo hod b hb
    · rw [h2 i hj] at hb
      simp [blkOf] at hb
  · rcases cases' i oi hi di with ⟨i1, o1, hi1, hio, _, hod1⟩ | ⟨hi1, _⟩
    · rw [h1 i i1 hi1] at hb
      rcases cases' j oj hj dj with ⟨j1, o2, hj1, hjo, _, hod2⟩ | ⟨hj1, _⟩
      · rw [h1 j j1 hj1]
        refine hr.sep i1 j1 o1 o2 ?_ hio hjo hod1 hod2 b hb
        rintro rfl
        exact hij (hinj i j i1 (get_lt hi) (get_lt hj) hi1 hj1)
      · rw [h2 j hj1]; simp [blkOf]
    · rw [h2 i hi1] at hb; simp [blkOf] at hb
  · rw [hB]
    rcases cases' i _ hi (owns_ne_dead hown) with ⟨i1, o1, hi1, hio, hv1, _⟩ | ⟨hi1, _⟩
    · simp only [hi1] at hb
      exact hr.fown i1 _ hio (via_owns hv1 hown) b hb
    · simp only [hi1] at hb; cases hb
  · rcases cases' i _ hi (owns_ne_dead hoi) with ⟨i1, o1, hi1, hio, hv1, _⟩ | ⟨hi1, _⟩
    · simp only [hi1] at hb
      rcases cases' j _ hj (owns_ne_dead hoj) with ⟨j1, o2, hj1, hjo, hv2, _⟩ | ⟨hj1, _⟩
      · simp only [hj1]
        refine hr.fsep i1 j1 _ _ ?_ hio hjo (via_owns hv1 hoi) (via_owns hv2 hoj) b hb
        rintro rfl
        exact hij (hinj i j i1 (get_lt hi) (get_lt hj) hi1 hj1)
      · simp only [hj1]; simp
    · simp only [hi1] at hb; cases hb
  · cases hi : r i with
    | some j => rw [h1 i j hi]; exact hr.one j
    | none => rw [h2 i hi]; rfl

/-- one state for another, in every world; the first N objects keep their names -/
def Wk (N : Nat) (σ σ' : St) : Prop := ∀ (w0 : Base) (hv : Hv) (S : Nat → Prop) (F : Nat → List Nat) (a : Act) (w : World), w0.na ≤ N → Rel w0 σ hv S F a w → ∃ (hv' : Hv) (S' : Nat → Prop) (F' : Nat → List Nat), Rel w0 σ' hv' S' F' a w

theorem Wk.refl {N : Nat} (σ : St) : Wk N σ σ := fun _ hv S F _ _ _ h => ⟨hv, S, F, h⟩
theorem Wk.trans {N : Nat} {σ1 σ2 σ3 : St} (h : Wk N σ1 σ2) (k : Wk N σ2 σ3) : Wk N σ1 σ3 := fun w0 hv S F a w hN hr =>
  let ⟨_, _, _, hr'⟩ := h w0 hv S F a w hN hr
  k w0 _ _ _ a w hN hr'

def rnO (ids : List (Option Nat)) (i : Nat) : Option Nat := (ids[i]?).join

def tmVia (ids : List (Option Nat)) (n : Nat) (tm : List (Nat × AV)) : List (Nat × AV) → Prop
  | [] => True
  | (t, x) :: r => (x.under n = true ∧ x.via (rnO ids) (getL tm t)) ∧ tmVia ids n tm r

def obVia1 (ids : List (Option Nat)) (n : Nat) (ob : List Ob) (o : Ob) : Option Nat → Prop
  | some j => match ob[j]? with
    | some o' => o.under n = true ∧ o.via (rnO ids) o'
    | none => False
  | none => o.empty = true

def obVia (all : List (Option Nat)) (n : Nat) (ob : List Ob) : List (Option Nat) → List Ob → Prop
  | [], os => os = []
  | i :: ids, os => match os with
    | o :: os => obVia1 all n ob o i ∧ obVia all n ob ids os
    | [] => False

def distinct : List (Option Nat) → Bool
  | [] => true
  | i :: ids => (i == none || !ids.contains i) && distinct ids

/-- the first objects keep their names -/
def pre : Nat → Nat → List (Option Nat) → Bool
  | 0, _, _ => true
  | _ + 1, _, [] => false
  | N + 1, k, i :: ids => i == some k && pre N (k + 1) ids

theorem pre_spec : ∀ {N k : Nat} {ids : List (Option Nat)}, pre N k ids = true → N ≤ ids.length ∧ ∀ i, i < N → ids[i]? = some (some (k + i))
  | 0, _, _, _ => ⟨Nat.zero_le _, fun i hi => by omega⟩
  | N + 1, k, [], h => by simp [pre] at h
  | N + 1, k, i :: ids, h => by
    simp only [pre, Bool.and_eq_true, beq_iff_eq] at h
    obtain ⟨rfl, h⟩ := h
    obtain ⟨h1, h2⟩ := pre_spec h
    refine ⟨by simp; omega, fun j hj => ?_⟩
    cases j with
    | zero => rfl
    | succ j =>
      rw [List.getElem?_cons_succ, h2 j (by omega)]
      congr 2; omega

/-- a smaller state: the temporaries that are listed, the objects that are named -/
def Keep (N : Nat) (ids : List (Option Nat)) (σ σ' : St) : Prop :=
  σ'.n = σ.n ∧ distinct ids = true ∧ pre N 0 ids = true ∧ tmVia ids σ'.ob.length σ.tm σ'.tm ∧ obVia ids σ'.ob.length σ.ob ids σ'.ob

theorem tmVia_get {ids : List (Option Nat)} {n : Nat} {tm : List (Nat × AV)} : ∀ {tm' : List (Nat × AV)}, tmVia ids n tm tm' → ∀ t, (getL tm' t).under n = true ∧ (getL tm' t).via (rnO ids) (getL tm t)
  | [], _, t => ⟨rfl, by simp [getL, AV.via]⟩
  | (k, x) :: r, h, t => by
    simp only [getL]
    split
    · rename_i ht
      subst ht
      exact h.1
    · exact tmVia_get h.2 t

theorem obVia_get {all : List (Option Nat)} {n : Nat} {ob : List Ob} : ∀ {ids : List (Option Nat)} {os : List Ob}, obVia all n ob ids os → ids.length = os.length ∧ ∀ (i : Nat) (o : Ob), os[i]? = some o → ∃ k, ids[i]? = some k ∧ obVia1 all n ob o k
  | [], os, h => by simp only [obVia] at h; subst h; exact ⟨rfl, by simp⟩
  | i :: ids, os, h => by
    simp only [obVia] at h
    split at h
    · obtain ⟨h1, h2⟩ := h
      obtain ⟨k1, k2⟩ := obVia_get h2
      refine ⟨by simp [k1], fun j o hj => ?_⟩
      cases j with
      | zero => simp only [List.getElem?_cons_zero, Option.some.injEq] at hj; subst hj; exact ⟨i, rfl, h1⟩
      | succ j => exact k2 j o (by simpa using hj)
    · cases h

theorem distinct_spec : ∀ {ids : List (Option Nat)}, distinct ids = true → ∀ (i j k : Nat), ids[i]? = some (some k) → ids[j]? = some (some k) → i = j
  | [], _, i, j, k, h, _ => by simp at h
  | x :: ids, hd, i, j, k, h1, h2 => by
    simp only [distinct, Bool.and_eq_true, Bool.or_eq_true, beq_iff_eq, Bool.not_eq_true'] at hd
    obtain ⟨hd1, hd2⟩ := hd
    have no : ∀ m : Nat, ids[m]? = some (some k) → x ≠ some k := by
      rintro m hm rfl
      rcases hd1 with h | h
      · cases h
      · have : (some k) ∈ ids := List.mem_of_getElem? hm
        rw [List.contains_iff_mem.2 this] at h
        cases h
    cases i with
    | zero =>
      cases j with
      | zero => rfl
      | succ j =>
        simp only [List.getElem?_cons_zero, Option.some.injEq, List.getElem?_cons_succ] at h1 h2
        exact absurd h1 (no j h2)
    | succ i =>
      cases j with
      | zero =>
        simp only [List.getElem?_cons_zero, Option.some.injEq, List.getElem?_cons_succ] at h1 h2
        exact absurd h2 (no i h1)
      | succ j =>
        simp only [List.getElem?_cons_succ] at h1 h2
        rw [distinct_spec hd2 i j k h1 h2]

theorem rnO_some {ids : List (Option Nat)} {i j : Nat} (h : rnO ids i = some j) : ids[i]? = some (some j) := by
  simp only [rnO] at h
  cases hq : ids[i]? with
  | none => rw [hq] at h; cases h
  | some k => rw [hq] at h; simp only [Option.join_some] at h; rw [h]

/-- .. with the objects' names told -/
theorem Rel.keep {ids : List (Option Nat)} {σ' : St} (hr : Rel w0 σ hv S F a w) (hn : σ'.n = σ.n) (hd : distinct ids = true) (hp : pre w0.na 0 ids = true) (ht : tmVia ids σ'.ob.length σ.tm σ'.tm) (ho : obVia ids σ'.ob.length σ.ob ids σ'.ob) : ∃ (hv' : Hv) (F' : Nat → List Nat), Rel w0 σ' hv' S F' a w ∧ hv'.B = hv.B ∧ ∀ i j, rnO ids i = some j → hv' i = hv j ∧ F' i = F j := by
  obtain ⟨hl, hob⟩ := obVia_get ho
  obtain ⟨hp1, hp2⟩ := pre_spec hp
  refine hr.via (σ' := σ') (rnO ids) hn (fun t => (tmVia_get ht t).2) (fun t => (tmVia_get ht t).1)
    (fun i o' hi => ?_) (fun i i' j hi hi' h1 h2 => distinct_spec hd i i' j (rnO_some h1) (rnO_some h2)) (fun i o' hi => ?_) (fun i hi => by simp [rnO, hp2 i hi]) (by omega)
  · obtain ⟨k, h1, h2⟩ := hob i o' hi
    have : rnO ids i = k := by simp [rnO, h1]
    rw [this]
    cases k with
    | some j =>
      simp only [obVia1] at h2
      split at h2
      · rename_i o ho
        exact .inr ⟨o, ho, h2.2⟩
      · cases h2
    | none => exact h2
  · obtain ⟨k, h1, h2⟩ := hob i o' hi
    cases k with
    | some j =>
      simp only [obVia1] at h2
      split at h2
      · exact h2.1
      · cases h2
    | none =>
      simp only [obVia1] at h2
      cases o' <;> first | rfl | (simp [Ob.empty] at h2)

theorem pre_le : ∀ {M N k : Nat} {ids : List (Option Nat)}, M ≤ N → pre N k ids = true → pre M k ids = true
  | 0, _, _, _, _, _ => rfl
  | M + 1, 0, _, _, h, _ => by omega
  | M + 1, N + 1, k, [], _, h => by simp [pre] at h
  | M + 1, N + 1, k, i :: ids, hle, h => by
    simp only [pre, Bool.and_eq_true] at h ⊢
    exact ⟨h.1, pre_le (by omega) h.2⟩

theorem Keep.wk {N : Nat} {ids : List (Option Nat)} {σ σ' : St} (h : Keep N ids σ σ') : Wk N σ σ' := by
  obtain ⟨hn, hd, hp, ht, ho⟩ := h
  intro w0 hv S F a w hN hr
  obtain ⟨hv', F', hr', _⟩ := hr.keep hn hd (pre_le hN hp) ht ho
  exact ⟨hv', S, F', hr'⟩

end

end Go.Proofs.Ythhgcklidfilfaa.BX
