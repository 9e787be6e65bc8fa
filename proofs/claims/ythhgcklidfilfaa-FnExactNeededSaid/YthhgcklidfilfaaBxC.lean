/-
  A frame for proofs over whole functions, second make, third part: how the state goes on: temporaries, new objects, writes, what is given up.
-/
import Derived.Test.YthhgcklidfilfaaBxB
namespace Go.Proofs.Ythhgcklidfilfaa.BX
set_option linter.unusedSectionVars false
set_option linter.unusedSimpArgs false
set_option linter.unusedVariables false
open Go Go.RowKit
variable [Bd]

section
variable {w0 : Base} {σ : St} {hv : Hv} {S : Nat → Prop} {F : Nat → List Nat} {a : Act} {w w' : World}

/-- a temporary is written -/
theorem Rel.put (h : Rel w0 σ hv S F a w)
    {d : Option Nat} {x : AV} {v : Value} {L : List Nat} (hx : footA hv w x v L) (hL : ∀ b ∈ L, S b) (hu : x.under σ.ob.length = true) (hd : ∀ k, d = some k → k < σ.n) :
    Rel w0 (σ.set d x) hv S F (a.put d v) w := by
  cases d with
  | none => exact h
  | some d =>
    have hlt : d < a.tmps.size := by rw [h.size]; exact hd d rfl
    refine { h with size := by simp [Act.put, St.set, h.size], defs := by simpa [Act.put] using h.defs, tm := fun t => ?_, utm := fun t => ?_ }
    · simp only [St.set, getL, Act.put]
      by_cases ht : t = d
      · subst ht
        simp only [if_true]
        exact ⟨L, by simpa [hlt] using hx, hL⟩
      · simp only [ht, if_false]
        obtain ⟨L', h1, h2⟩ := h.tm t
        refine ⟨L', ?_, h2⟩
        have : (a.tmps.setIfInBounds d v).getD t undef = a.tmps.getD t undef := by
          simp [Array.getElem?_setIfInBounds_ne (Ne.symm ht)]
        rw [this]; exact h1
    · simp only [St.set, getL]
      by_cases ht : t = d
      · simp only [ht, if_true]; exact hu
      · simp only [ht, if_false]; exact h.utm t

/-- the world has grown: no block that was there has turned -/
structure Grew (w w' : World) : Prop where
  os : w'.os = w.os
  tape : w'.tape = w.tape
  output : w'.output = w.output
  size : w.heap.size ≤ w'.heap.size
  block : ∀ k, k < w.heap.size → w'.heap[k]? = w.heap[k]?
  drawn : w.drawn ≤ w'.drawn

theorem Grew.refl (w : World) : Grew w w := ⟨rfl, rfl, rfl, Nat.le_refl _, fun _ _ => rfl, Nat.le_refl _⟩
theorem Grew.drew (w : World) : Grew w w.drew := ⟨rfl, rfl, rfl, Nat.le_refl _, fun _ _ => rfl, Nat.le_succ _⟩
theorem Grew.alloc (w : World) (o : Obj) : Grew w (w.alloc o) := ⟨rfl, rfl, rfl, by simp, fun k hk => Below.heap_alloc _ _ _ hk, Nat.le_refl _⟩
theorem Grew.trans {a b c : World} (h : Grew a b) (k : Grew b c) : Grew a c :=
  ⟨k.os.trans h.os, k.tape.trans h.tape, k.output.trans h.output, Nat.le_trans h.size k.size, fun i hi => (k.block i (Nat.lt_of_lt_of_le hi h.size)).trans (h.block i hi), Nat.le_trans h.drawn k.drawn⟩
theorem Grew.of_below (h : Below w.heap.size w w') (hd : w.drawn ≤ w'.drawn) : Grew w w' := ⟨h.os, h.tape, h.output, h.size, h.block, hd⟩
theorem Grew.below {w0 : World} {B : Nat} {M : Nat → Prop} (h : But M B w0 w) (g : Grew w w') (hB : B ≤ w.heap.size) : But M B w0 w' :=
  h.trans ⟨g.os, g.tape, g.output, g.size, fun k hk _ => g.block k (by omega), g.drawn⟩

/-- what is new may be looked at for good -/
def Hv.more (hv : Hv) (a b : Nat) : Hv := ⟨hv.v, fun k => hv.B k ∨ (a ≤ k ∧ k < b)⟩

/-- the world grows (draws, blocks that nobody names, what a callee made): all stands; what is new may be read -/
theorem Rel.grow (h : Rel w0 σ hv S F a w) (g : Grew w w') :
    Rel w0 σ (hv.more w.heap.size w'.heap.size) (fun b => S b ∨ (w.heap.size ≤ b ∧ b < w'.heap.size)) F a w' := by
  have hS : ∀ b, S b → (S b ∨ (w.heap.size ≤ b ∧ b < w'.heap.size)) ∧ w'.heap[b]? = w.heap[b]? := fun b hb => ⟨.inl hb, g.block b (h.Slt b hb)⟩
  have hB : ∀ b, hv.B b → (hv.more w.heap.size w'.heap.size).B b ∧ w'.heap[b]? = w.heap[b]? := fun b hb => ⟨.inl hb, g.block b (h.Blt b hb)⟩
  refine { size := h.size, defs := h.defs, tm := fun t => ?_, utm := h.utm, ob := fun id o ho => ?_, uob := h.uob, root := fun id o ho hd b hb => ?_, sep := h.sep, SB := fun b hb => hb.imp (h.SB b) id, Blt := fun b hb => ?_, Bin := fun b hb => ?_, fown := fun id o ho hown b hb => ?_, fsep := h.fsep, below := g.below h.below h.below.size, one := h.one, an := h.an, av := h.av }
  · obtain ⟨L, h1, h2⟩ := h.tm t
    exact ⟨L, footA_hv (n := σ.ob.length) (fun b hb => (hB b hb).1) (fun _ _ => rfl) _ _ _ (h.utm t) (footA_mono (fun b hb => (hB b hb).2) _ _ L (fun b hb => (hS b (h2 b hb)).2) h1), fun b hb => (hS b (h2 b hb)).1⟩
  · by_cases hd : o = .dead
    · subst hd; trivial
    · exact (h.ob id o ho).mono (h.uob id o ho) (fun _ _ => rfl) hS hB (fun hown b hb => (hB b (h.fown id o ho hown b hb).2.1).2) fun b hb => g.block b (h.root id o ho hd b hb).2.1
  · obtain ⟨h1, h2, h3⟩ := h.root id o ho hd b hb
    refine ⟨h1, Nat.lt_of_lt_of_le h2 g.size, fun hh => ?_⟩
    rcases hh with hh | ⟨hh, _⟩
    · exact h3 hh
    · omega
  · rcases hb with hb | ⟨_, hb⟩
    · exact Nat.lt_of_lt_of_le (h.Blt b hb) g.size
    · exact hb
  · rcases hb with hb | ⟨hb, _⟩
    · exact h.Bin b hb
    · exact .inr (.inr (Nat.le_trans h.below.size hb))
  · obtain ⟨h1, h2, h3⟩ := h.fown id o ho hown b hb
    refine ⟨h1, .inl h2, fun hh => ?_⟩
    rcases hh with hh | ⟨hh, _⟩
    · exact h3 hh
    · have := h.Blt b h2; omega

theorem set_get {α : Type} {l : List α} {id i : Nat} {x y : α} (h : (l.set id x)[i]? = some y) : (i = id ∧ y = x) ∨ (i ≠ id ∧ l[i]? = some y) := by
  by_cases e : i = id
  · subst e
    by_cases hlt : i < l.length
    · rw [List.getElem?_set_self hlt] at h; exact .inl ⟨rfl, (Option.some.inj h).symm⟩
    · rw [List.getElem?_eq_none (by simpa using hlt)] at h; cases h
  · rw [List.getElem?_set_ne (Ne.symm e)] at h; exact .inr ⟨e, h⟩

theorem app_get {α : Type} {l : List α} {o y : α} {id : Nat} (h : (l ++ [o])[id]? = some y) : (id < l.length ∧ l[id]? = some y) ∨ (id = l.length ∧ y = o) := by
  rcases Nat.lt_trichotomy id l.length with hi | hi | hi
  · rw [List.getElem?_append_left hi] at h; exact .inl ⟨hi, h⟩
  · subst hi; simp at h; exact .inr ⟨rfl, h.symm⟩
  · rw [List.getElem?_eq_none (by simp; omega)] at h; cases h

theorem get_lt {α : Type} {l : List α} {i : Nat} {x : α} (h : l[i]? = some x) : i < l.length := (List.getElem?_eq_some_iff.1 h).1

/-- a name for a new object, in a later world; 'B'': what may be looked at then -/
theorem Rel.new0 (h : Rel w0 σ hv S F a w) (hsz : w.heap.size ≤ w'.heap.size) (hbl : But w0.M w0.heap.size w0.toWorld w')
    (hsB : ∀ b, hv.B b → w'.heap[b]? = w.heap[b]?) (hsR : ∀ (j : Nat) oj, σ.ob[j]? = some oj → oj ≠ .dead → ∀ b, blkOf (hv j) = some b → w'.heap[b]? = w.heap[b]?)
    {o : Ob} {v : Value} {Fi : List Nat} {S' B' : Nat → Prop} (hSS : ∀ b, S b → S' b) (hSB : ∀ b, S' b → B' b) (hBB : ∀ b, hv.B b → B' b)
    (hB' : ∀ b, B' b → hv.B b ∨ (w.heap.size ≤ b ∧ b < w'.heap.size)) (hS' : ∀ b, S' b → S b ∨ w.heap.size ≤ b)
    (hroot : ∀ b, blkOf v = some b → (w0.M b ∨ w0.heap.size ≤ b) ∧ b < w'.heap.size ∧ ¬ B' b ∧ ∀ (j : Nat) oj, σ.ob[j]? = some oj → oj ≠ .dead → blkOf (hv j) ≠ some b) (hu : o.under σ.ob.length = true) (hv1 : v.oneCell' = true)
    (hF : o.owns = true → ∀ b ∈ Fi, (w0.M b ∨ w0.heap.size ≤ b) ∧ B' b ∧ ¬ S' b)
    (hFs : o.owns = true → ∀ (j : Nat) oj, σ.ob[j]? = some oj → oj.owns = true → ∀ b ∈ Fi, b ∉ F j)
    (ho : ∀ hv' : Hv, hv'.B = B' → (∀ i, i < σ.ob.length → hv' i = hv i) → hv' σ.ob.length = v → ObR hv' S' w' Fi v o) :
    ∃ hv' : Hv, hv'.B = B' ∧ (∀ i, i < σ.ob.length → hv' i = hv i) ∧ hv' σ.ob.length = v ∧
      Rel w0 { σ with ob := σ.ob ++ [o] } hv' S' (fun i => if i = σ.ob.length then Fi else F i) a w' := by
  refine ⟨⟨fun i => if i = σ.ob.length then v else hv i, B'⟩, rfl, fun i hi => by simp [Nat.ne_of_lt hi], by simp, ?_⟩
  generalize hhv : (⟨fun i => if i = σ.ob.length then v else hv i, B'⟩ : Hv) = hv'
  have hvB : hv'.B = B' := by rw [← hhv]
  have he : ∀ i, i < σ.ob.length → hv' i = hv i := fun i hi => by rw [← hhv]; simp [Nat.ne_of_lt hi]
  have hn : hv' σ.ob.length = v := by rw [← hhv]; simp
  have hB2 : ∀ b, hv.B b → hv'.B b := fun b hb => by rw [hvB]; exact hBB b hb
  have hB : ∀ b, hv.B b → hv'.B b ∧ w'.heap[b]? = w.heap[b]? := fun b hb => ⟨hB2 b hb, hsB b hb⟩
  have hS : ∀ b, S b → S' b ∧ w'.heap[b]? = w.heap[b]? := fun b hb => ⟨hSS b hb, hsB b (h.SB b hb)⟩
  have hlen : (σ.ob ++ [o]).length = σ.ob.length + 1 := by simp
  refine { size := h.size, defs := h.defs, tm := fun t => ?_, utm := fun t => ?_, ob := fun id o' ho' => ?_, uob := fun id o' ho' => ?_, root := fun id o' ho' hd b hb => ?_, sep := ?_, SB := fun b hb => by rw [hvB]; exact hSB b hb, Blt := fun b hb => ?_, Bin := fun b hb => ?_, fown := ?_, fsep := ?_, below := hbl, one := fun i => by rw [← hhv]; dsimp only; split <;> first | exact hv1 | exact h.one i, an := by rw [hlen]; have := h.an; omega, av := fun i hi => by rw [he i (by have := h.an; omega)]; exact h.av i hi }
  · obtain ⟨L, h1, h2⟩ := h.tm t
    exact ⟨L, footA_hv hB2 he _ _ L (h.utm t) (footA_mono hsB _ _ L (fun b hb => (hS b (h2 b hb)).2) h1), fun b hb => (hS b (h2 b hb)).1⟩
  · exact AV.under_mono (by simp) _ (h.utm t)
  · rcases app_get ho' with ⟨hi, h1⟩ | ⟨rfl, rfl⟩
    · simp only [Nat.ne_of_lt hi, if_false]
      by_cases hd : o' = .dead
      · subst hd; trivial
      · rw [he id hi]
        exact (h.ob id o' h1).mono (h.uob id o' h1) he hS hB (fun hown b hb => hsB b (h.fown id o' h1 hown b hb).2.1) (hsR id o' h1 hd)
    · simp only [if_true, hn]
      exact ho hv' hvB he hn
  · show o'.under (σ.ob ++ [o]).length = true
    rw [hlen]
    rcases app_get ho' with ⟨_, h1⟩ | ⟨_, rfl⟩
    · exact Ob.under_mono (by omega) _ (h.uob id o' h1)
    · exact Ob.under_mono (by omega) _ hu
  · rcases app_get ho' with ⟨hi, h1⟩ | ⟨rfl, rfl⟩
    · rw [he id hi] at hb
      obtain ⟨k1, k2, k3⟩ := h.root id o' h1 hd b hb
      refine ⟨k1, Nat.lt_of_lt_of_le k2 hsz, fun hh => ?_⟩
      rw [hvB] at hh
      rcases hB' b hh with hh | ⟨hh, _⟩
      · exact k3 hh
      · omega
    · rw [hn] at hb
      obtain ⟨k1, k2, k3, _⟩ := hroot b hb
      exact ⟨k1, k2, by rw [hvB]; exact k3⟩
  · intro i j oi oj hij hi hj di dj b hb
    rcases app_get hi with ⟨hi', h1⟩ | ⟨rfl, rfl⟩
    · rw [he i hi'] at hb
      rcases app_get hj with ⟨hj', h2⟩ | ⟨rfl, rfl⟩
      · rw [he j hj']; exact h.sep i j oi oj hij h1 h2 di dj b hb
      · rw [hn]
        exact fun hh => (hroot b hh).2.2.2 i oi h1 di hb
    · rw [hn] at hb
      rcases app_get hj with ⟨hj', h2⟩ | ⟨rfl, _⟩
      · rw [he j hj']
        exact (hroot b hb).2.2.2 j oj h2 dj
      · exact absurd rfl hij
  · rw [hvB] at hb
    rcases hB' b hb with hb | ⟨_, hb⟩
    · exact Nat.lt_of_lt_of_le (h.Blt b hb) hsz
    · exact hb
  · rw [hvB] at hb
    rcases hB' b hb with hb | ⟨hb, _⟩
    · exact h.Bin b hb
    · exact .inr (.inr (Nat.le_trans h.below.size hb))
  · intro id o' hid hown
    rw [hvB]
    rcases app_get hid with ⟨hi, h1⟩ | ⟨rfl, rfl⟩
    · simp only [Nat.ne_of_lt hi, if_false]
      intro b hb
      obtain ⟨q1, q2, q3⟩ := h.fown id o' h1 hown b hb
      refine ⟨q1, hBB b q2, fun hh => ?_⟩
      rcases hS' b hh with hh | hh
      · exact q3 hh
      · have := h.Blt b q2; omega
    · simp only [if_true]; exact hF hown
  · intro i j oi oj hij hi hj hoi hoj b hb
    rcases app_get hi with ⟨hi', h1⟩ | ⟨rfl, rfl⟩
    · simp only [Nat.ne_of_lt hi', if_false] at hb
      rcases app_get hj with ⟨hj', h2⟩ | ⟨rfl, rfl⟩
      · simp only [Nat.ne_of_lt hj', if_false]; exact h.fsep i j oi oj hij h1 h2 hoi hoj b hb
      · simp only [if_true]
        exact fun hh => hFs hoj i oi h1 hoi b hh hb
    · simp only [if_true] at hb
      rcases app_get hj with ⟨hj', h2⟩ | ⟨rfl, _⟩
      · simp only [Nat.ne_of_lt hj', if_false]
        exact hFs hoi j oj h2 hoj b hb
      · exact absurd rfl hij

/-- a name for a new object whose root is a new block (or none); other new blocks may be looked at -/
theorem Rel.new (h : Rel w0 σ hv S F a w) (g : Grew w w')
    {o : Ob} {v : Value} {Fi : List Nat} (hroot : ∀ b, blkOf v = some b → w.heap.size ≤ b ∧ b < w'.heap.size) (hu : o.under σ.ob.length = true) (hv1 : v.oneCell' = true)
    (hF : o.owns = true → ∀ b ∈ Fi, (w0.M b ∨ w0.heap.size ≤ b) ∧ hv.B b ∧ ¬ S b)
    (hFs : o.owns = true → ∀ (j : Nat) oj, σ.ob[j]? = some oj → oj.owns = true → ∀ b ∈ Fi, b ∉ F j)
    (ho : ∀ hv' : Hv, (∀ b, hv.B b → hv'.B b) → (∀ i, i < σ.ob.length → hv' i = hv i) → hv' σ.ob.length = v → ObR hv' (fun b => S b ∨ (w.heap.size ≤ b ∧ b < w'.heap.size ∧ blkOf v ≠ some b)) w' Fi v o) :
    ∃ hv' : Hv, (∀ b, hv.B b → hv'.B b) ∧ (∀ i, i < σ.ob.length → hv' i = hv i) ∧ hv' σ.ob.length = v ∧
      Rel w0 { σ with ob := σ.ob ++ [o] } hv' (fun b => S b ∨ (w.heap.size ≤ b ∧ b < w'.heap.size ∧ blkOf v ≠ some b)) (fun i => if i = σ.ob.length then Fi else F i) a w' := by
  have hb0 := h.below.size
  have hroot' : ∀ b, blkOf v = some b → (w0.M b ∨ w0.heap.size ≤ b) ∧ b < w'.heap.size ∧ ¬ (hv.B b ∨ (w.heap.size ≤ b ∧ b < w'.heap.size ∧ blkOf v ≠ some b)) ∧ ∀ (j : Nat) oj, σ.ob[j]? = some oj → oj ≠ .dead → blkOf (hv j) ≠ some b := by
    intro b hb
    obtain ⟨k1, k2⟩ := hroot b hb
    refine ⟨.inr (by omega), k2, fun hh => ?_, fun j oj hj hd hh => ?_⟩
    · rcases hh with hh | ⟨_, _, hh⟩
      · have := h.Blt b hh; omega
      · exact hh hb
    · have := (h.root j oj hj hd b hh).2.1; omega
  obtain ⟨hv', h1, h2, h3, h4⟩ := h.new0 g.size (g.below h.below h.below.size) (fun b hb => g.block b (h.Blt b hb)) (fun j oj hj hd b hb => g.block b (h.root j oj hj hd b hb).2.1) (o := o) (v := v) (Fi := Fi)
    (S' := fun b => S b ∨ (w.heap.size ≤ b ∧ b < w'.heap.size ∧ blkOf v ≠ some b)) (B' := fun b => hv.B b ∨ (w.heap.size ≤ b ∧ b < w'.heap.size ∧ blkOf v ≠ some b)) (fun b hb => .inl hb) (fun b hb => hb.imp (h.SB b) (fun h => h)) (fun b hb => .inl hb)
    (fun b hb => hb.imp (fun h => h) fun hh => ⟨hh.1, hh.2.1⟩) (fun b hb => hb.imp (fun h => h) fun hh => hh.1) hroot' hu hv1
    (fun hown b hb => by
      obtain ⟨q1, q2, q3⟩ := hF hown b hb
      exact ⟨q1, .inl q2, fun hh => hh.elim q3 fun hh => by have := h.Blt b q2; omega⟩) hFs
    (fun hv' hB he hn => ho hv' (fun b hb => by rw [hB]; exact .inl hb) he hn)
  exact ⟨hv', fun b hb => by rw [h1]; exact .inl hb, h2, h3, h4⟩

/-- an object is written: its root alone -/
theorem Rel.write (h : Rel w0 σ hv S F a w) {id : Nat} {o o' : Ob}
    (hid : σ.ob[id]? = some o) (hd : o ≠ .dead) (hw : ∀ k, blkOf (hv id) ≠ some k → w'.heap[k]? = w.heap[k]?) (hsz : w'.heap.size = w.heap.size) (hos : w'.os = w.os) (htp : w'.tape = w.tape) (hout : w'.output = w.output) (hdr : w.drawn ≤ w'.drawn)
    (hu : o'.under σ.ob.length = true) (ho' : ObR hv S w' (F id) (hv id) o') (hown : o'.owns = true → o.owns = true) :
    Rel w0 { σ with ob := σ.ob.set id o' } hv S F a w' := by
  have hB : ∀ b, hv.B b → w'.heap[b]? = w.heap[b]? := fun b hb => hw b fun e => (h.root id o hid hd b e).2.2 hb
  have hother : ∀ i oi, i ≠ id → σ.ob[i]? = some oi → oi ≠ .dead → ∀ b, blkOf (hv i) = some b → w'.heap[b]? = w.heap[b]? := fun i oi hi ho hd' b hb => hw b fun e => h.sep i id oi o hi ho hid hd' hd b hb e
  have own : ∀ (k : Nat) ok, (σ.ob.set id o')[k]? = some ok → ok.owns = true → ∃ ok', σ.ob[k]? = some ok' ∧ ok'.owns = true := by
    intro k ok hk hokn
    rcases set_get hk with ⟨rfl, rfl⟩ | ⟨_, hk'⟩
    · exact ⟨o, hid, hown hokn⟩
    · exact ⟨_, hk', hokn⟩
  refine { size := h.size, defs := h.defs, tm := fun t => ?_, utm := fun t => by simpa using h.utm t, ob := fun i oi hi => ?_, uob := fun i oi hi => ?_, root := fun i oi hi hdi b hb => ?_, sep := fun i j oi oj hij hi hj di dj b hb => ?_, SB := h.SB, Blt := fun b hb => by rw [hsz]; exact h.Blt b hb, Bin := h.Bin, fown := fun i oi hi hoi => ?_, fsep := fun i j oi oj hij hi hj hoi hoj => ?_, below := ?_, one := h.one, an := by simpa using h.an, av := h.av }
  · obtain ⟨L, h1, h2⟩ := h.tm t
    exact ⟨L, footA_mono hB _ _ L (fun b hb => hB b (h.SB b (h2 b hb))) h1, h2⟩
  · rcases set_get hi with ⟨rfl, rfl⟩ | ⟨hne, hi'⟩
    · exact ho'
    · by_cases hdd : oi = .dead
      · subst hdd; trivial
      · exact (h.ob i oi hi').mono (h.uob i oi hi') (fun _ _ => rfl) (fun b hb => ⟨hb, hB b (h.SB b hb)⟩) (fun b hb => ⟨hb, hB b hb⟩) (fun hoi b hb => hB b (h.fown i oi hi' hoi b hb).2.1) (hother i oi hne hi' hdd)
  · show oi.under (σ.ob.set id o').length = true
    rw [List.length_set]
    rcases set_get hi with ⟨rfl, rfl⟩ | ⟨_, hi'⟩
    · exact hu
    · exact h.uob i oi hi'
  · rw [hsz]
    rcases set_get hi with ⟨rfl, rfl⟩ | ⟨_, hi'⟩
    · exact h.root i o hid hd b hb
    · exact h.root i oi hi' hdi b hb
  · rcases set_get hi with ⟨rfl, rfl⟩ | ⟨hne, hi'⟩
    · rcases set_get hj with ⟨rfl, _⟩ | ⟨_, hj'⟩
      · exact absurd rfl hij
      · exact h.sep i j o oj hij hid hj' hd dj b hb
    · rcases set_get hj with ⟨rfl, rfl⟩ | ⟨_, hj'⟩
      · exact h.sep i j oi o hij hi' hid di hd b hb
      · exact h.sep i j oi oj hij hi' hj' di dj b hb
  · obtain ⟨ok', h1, h2⟩ := own i oi hi hoi
    exact h.fown i ok' h1 h2
  · obtain ⟨o1, h1, h2⟩ := own i _ hi hoi
    obtain ⟨o2, h3, h4⟩ := own j _ hj hoj
    exact h.fsep i j o1 o2 hij h1 h3 h2 h4
  · refine h.below.trans ⟨hos, htp, hout, by omega, fun k hk hm => hw k fun e => ?_, hdr⟩
    have := (h.root id o hid hd k e).1
    rcases this with h' | h'
    · exact hm h'
    · omega

/-- an object is forgotten -/
theorem Rel.drop (h : Rel w0 σ hv S F a w) (id : Nat) : Rel w0 { σ with ob := σ.ob.set id .dead } hv S F a w := by
  have get : ∀ i oi, (σ.ob.set id .dead)[i]? = some oi → oi = .dead ∨ (i ≠ id ∧ σ.ob[i]? = some oi) := fun i oi hi => (set_get hi).imp (fun h => h.2) (fun h => h)
  refine { h with an := by simpa using h.an, utm := fun t => by simpa using h.utm t, ob := fun i oi hi => ?_, uob := fun i oi hi => ?_, root := fun i oi hi hdi b hb => ?_, sep := fun i j oi oj hij hi hj di dj b hb => ?_, fown := fun i oi hi hoi b hb => ?_, fsep := fun i j oi oj hij hi hj hoi hoj => ?_ }
  · rcases get i oi hi with rfl | ⟨hne, hi'⟩
    · trivial
    · exact h.ob i oi hi'
  · show oi.under (σ.ob.set id .dead).length = true
    rw [List.length_set]
    rcases get i oi hi with rfl | ⟨_, hi'⟩
    · rfl
    · exact h.uob i oi hi'
  · rcases get i oi hi with rfl | ⟨_, hi'⟩
    · exact absurd rfl hdi
    · exact h.root i oi hi' hdi b hb
  · rcases get i oi hi with rfl | ⟨_, hi'⟩
    · exact absurd rfl di
    · rcases get j oj hj with rfl | ⟨_, hj'⟩
      · exact absurd rfl dj
      · exact h.sep i j oi oj hij hi' hj' di dj b hb
  · rcases get i _ hi with rfl | ⟨_, hi'⟩
    · cases hoi
    · exact h.fown i oi hi' hoi b hb
  · rcases get i _ hi with rfl | ⟨_, hi'⟩
    · cases hoi
    · rcases get j _ hj with rfl | ⟨_, hj'⟩
      · cases hoj
      · exact h.fsep i j oi oj hij hi' hj' hoi hoj

/-- more may be looked at for a while -/
theorem Rel.moreB (h : Rel w0 σ hv S F a w) {B' : Nat → Prop} (hB : ∀ b, hv.B b → B' b) (hlt : ∀ b, B' b → b < w.heap.size) (hin : ∀ b, B' b → w0.L b ∨ w0.M b ∨ w0.heap.size ≤ b)
    (hroot : ∀ (id : Nat) (o : Ob), σ.ob[id]? = some o → o ≠ .dead → ∀ b, blkOf (hv id) = some b → ¬ B' b) : Rel w0 σ ⟨hv.v, B'⟩ S F a w := by
  refine { h with tm := fun t => ?_, ob := fun i oi hi => ?_, root := fun i oi hi hdi b hb => ?_, SB := fun b hb => hB b (h.SB b hb), Blt := hlt, Bin := hin, fown := fun i oi hi hoi b hb => ?_ }
  · obtain ⟨L, h1, h2⟩ := h.tm t
    exact ⟨L, footA_hv (hv := hv) (hv' := ⟨hv.v, B'⟩) (n := σ.ob.length) hB (fun _ _ => rfl) _ _ _ (h.utm t) h1, h2⟩
  · exact (h.ob i oi hi).mono (h.uob i oi hi) (fun _ _ => rfl) (fun b hb => ⟨hb, rfl⟩) (fun b hb => ⟨hB b hb, rfl⟩) (fun _ _ _ => rfl) (fun _ _ => rfl)
  · obtain ⟨k1, k2, k3⟩ := h.root i oi hi hdi b hb
    exact ⟨k1, k2, hroot i oi hi hdi b hb⟩
  · obtain ⟨k1, k2, k3⟩ := h.fown i oi hi hoi b hb
    exact ⟨k1, hB b k2, k3⟩

/-- more may be looked at for good -/
theorem Rel.moreS (h : Rel w0 σ hv S F a w) {S' : Nat → Prop} (hS : ∀ b, S b → S' b) (hB : ∀ b, S' b → hv.B b) (hF : ∀ (id : Nat) (o : Ob), σ.ob[id]? = some o → o.owns = true → ∀ b ∈ F id, ¬ S' b) : Rel w0 σ hv S' F a w := by
  refine { h with tm := fun t => ?_, ob := fun i oi hi => ?_, SB := hB, fown := fun i oi hi hoi b hb => ?_ }
  · obtain ⟨L, h1, h2⟩ := h.tm t
    exact ⟨L, h1, fun b hb => hS b (h2 b hb)⟩
  · exact (h.ob i oi hi).mono (h.uob i oi hi) (fun _ _ => rfl) (fun b hb => ⟨hS b hb, rfl⟩) (fun b hb => ⟨hb, rfl⟩) (fun _ _ _ => rfl) (fun _ _ => rfl)
  · obtain ⟨k1, k2, k3⟩ := h.fown i oi hi hoi b hb
    exact ⟨k1, k2, hF i oi hi hoi b hb⟩

/-- an object is given up: from now on it is only read -/
theorem Rel.kill (h : Rel w0 σ hv S F a w) (id : Nat) :
    ∃ (hv' : Hv) (S' : Nat → Prop), hv'.v = hv.v ∧ (∀ b, hv.B b → hv'.B b) ∧ (∀ b, S b → S' b) ∧ (∀ o, σ.ob[id]? = some o → o ≠ .dead → ∀ b, (blkOf (hv id) = some b ∨ (o.owns = true ∧ b ∈ F id)) → S' b) ∧ Rel w0 { σ with ob := σ.ob.set id .dead } hv' S' F a w ∧
      (∀ b, S' b → S b ∨ ∃ o, σ.ob[id]? = some o ∧ o ≠ .dead ∧ (blkOf (hv id) = some b ∨ (o.owns = true ∧ b ∈ F id))) ∧ (∀ b, hv'.B b → hv.B b ∨ ∃ o, σ.ob[id]? = some o ∧ o ≠ .dead ∧ blkOf (hv id) = some b) := by
  have h1 := h.drop id
  let B' : Nat → Prop := fun b => hv.B b ∨ ∃ o, σ.ob[id]? = some o ∧ o ≠ .dead ∧ blkOf (hv id) = some b
  let S' : Nat → Prop := fun b => S b ∨ ∃ o, σ.ob[id]? = some o ∧ o ≠ .dead ∧ (blkOf (hv id) = some b ∨ (o.owns = true ∧ b ∈ F id))
  have h2 := h1.moreB (B' := B') (fun b hb => .inl hb) (fun b hb => hb.elim (h.Blt b) fun ⟨o, g1, g2, g3⟩ => (h.root id o g1 g2 b g3).2.1)
    (fun b hb => hb.elim (h.Bin b) fun ⟨o, g1, g2, g3⟩ => .inr (h.root id o g1 g2 b g3).1)
    (fun i oi hi hdi b hb hh => by
      rcases set_get hi with ⟨_, e⟩ | ⟨hne, hi'⟩
      · exact hdi e
      · rcases hh with hh | ⟨o, g1, g2, g3⟩
        · exact (h.root i oi hi' hdi b hb).2.2 hh
        · exact h.sep i id oi o hne hi' g1 hdi g2 b hb g3)
  have h3 := h2.moreS (S' := S') (fun b hb => .inl hb) (fun b hb => by
      rcases hb with hb | ⟨o, g1, g2, g3⟩
      · exact .inl (h.SB b hb)
      · rcases g3 with g3 | ⟨g3, g4⟩
        · exact .inr ⟨o, g1, g2, g3⟩
        · exact .inl (h.fown id o g1 g3 b g4).2.1)
    (fun i oi hi hoi b hb hh => by
      rcases set_get hi with ⟨_, rfl⟩ | ⟨hne, hi'⟩
      · cases hoi
      · rcases hh with hh | ⟨o, g1, g2, g3⟩
        · exact (h.fown i oi hi' hoi b hb).2.2 hh
        · rcases g3 with g3 | ⟨g3, g4⟩
          · exact (h.root id o g1 g2 b g3).2.2 (h.fown i oi hi' hoi b hb).2.1
          · exact h.fsep i id oi o hne hi' g1 hoi g3 b hb g4)
  exact ⟨⟨hv.v, B'⟩, S', rfl, fun b hb => .inl hb, fun b hb => .inl hb, fun o g1 g2 b g3 => .inr ⟨o, g1, g2, g3⟩, h3, fun b hb => hb, fun b hb => hb⟩

def killAll : List Nat → List Ob → List Ob
  | [], ob => ob
  | i :: ids, ob => killAll ids (ob.set i .dead)

theorem killAll_length : ∀ (ids : List Nat) (ob : List Ob), (killAll ids ob).length = ob.length
  | [], _ => rfl
  | i :: ids, ob => by simp [killAll, killAll_length ids]

theorem killAll_get : ∀ (ids : List Nat) (ob : List Ob) (i : Nat) (o : Ob), (killAll ids ob)[i]? = some o → o ≠ .dead → i ∉ ids ∧ ob[i]? = some o
  | [], _, _, _, h, _ => ⟨by simp, h⟩
  | j :: ids, ob, i, o, h, hd => by
    obtain ⟨h1, h2⟩ := killAll_get ids _ i o h hd
    rcases set_get h2 with ⟨_, e⟩ | ⟨e, h2⟩
    · exact absurd e hd
    · exact ⟨by simp [e, h1], h2⟩

theorem killAll_keep : ∀ (ids : List Nat) (ob : List Ob) (i : Nat), i ∉ ids → (killAll ids ob)[i]? = ob[i]?
  | [], _, _, _ => rfl
  | j :: ids, ob, i, h => by
    simp only [List.mem_cons, not_or] at h
    rw [killAll, killAll_keep ids _ i h.2, List.getElem?_set_ne (Ne.symm h.1)]

/-- objects are forgotten -/
theorem Rel.dropAll : ∀ (ids : List Nat) {σ : St}, Rel w0 σ hv S F a w → Rel w0 { σ with ob := killAll ids σ.ob } hv S F a w
  | [], _, h => h
  | i :: ids, _, h => Rel.dropAll ids (h.drop i)

/-- objects are given up -/
theorem Rel.killAll : ∀ (ids : List Nat) {σ : St} {hv : Hv} {S : Nat → Prop}, Rel w0 σ hv S F a w → ids.Nodup →
    ∃ (hv' : Hv) (S' : Nat → Prop), hv'.v = hv.v ∧ (∀ b, hv.B b → hv'.B b) ∧ (∀ b, S b → S' b) ∧ (∀ i ∈ ids, ∀ o, σ.ob[i]? = some o → o ≠ .dead → ∀ b, (blkOf (hv i) = some b ∨ (o.owns = true ∧ b ∈ F i)) → S' b) ∧ Rel w0 { σ with ob := BX.killAll ids σ.ob } hv' S' F a w ∧
      (∀ b, S' b → S b ∨ ∃ i ∈ ids, ∃ o, σ.ob[i]? = some o ∧ o ≠ .dead ∧ (blkOf (hv i) = some b ∨ (o.owns = true ∧ b ∈ F i)))
  | [], σ, hv, S, h, _ => ⟨hv, S, rfl, fun _ hb => hb, fun _ hb => hb, by simp, h, fun b hb => .inl hb⟩
  | i :: ids, σ, hv, S, h, hn => by
    obtain ⟨hv1, S1, e1, b1, h1, h2, h3, h4, _⟩ := h.kill i
    obtain ⟨hn1, hn2⟩ := List.nodup_cons.1 hn
    obtain ⟨hv2, S2, e2, b2, k1, k2, k3, k4⟩ := Rel.killAll ids h3 hn2
    refine ⟨hv2, S2, e2.trans e1, fun b hb => b2 b (b1 b hb), fun b hb => k1 b (h1 b hb), fun j hj o ho hd b hb => ?_, k3, fun b hb => ?_⟩
    · rcases List.mem_cons.1 hj with rfl | hj
      · exact k1 b (h2 o ho hd b hb)
      · refine k2 j hj o ?_ hd b (by rw [e1]; exact hb)
        show (σ.ob.set i .dead)[j]? = some o
        rw [List.getElem?_set_ne (by rintro rfl; exact hn1 hj)]
        exact ho
    · rcases k4 b hb with hb | ⟨j, hj, o, q1, q2, q3⟩
      · rcases h4 b hb with hb | ⟨o, q1, q2, q3⟩
        · exact .inl hb
        · exact .inr ⟨i, List.mem_cons_self .., o, q1, q2, q3⟩
      · refine .inr ⟨j, List.mem_cons_of_mem _ hj, o, ?_, q2, by rw [e1] at q3; exact q3⟩
        have q1' : (σ.ob.set i .dead)[j]? = some o := q1
        rwa [List.getElem?_set_ne (by rintro rfl; exact hn1 hj)] at q1'

end

end Go.Proofs.Ythhgcklidfilfaa.BX
