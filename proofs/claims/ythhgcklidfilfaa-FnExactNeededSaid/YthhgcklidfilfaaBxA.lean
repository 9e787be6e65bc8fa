/-
  A frame for proofs over whole functions, second make, first part: closed and open values, and how they lie in memory.
-/
import Derived.Below
import Derived.Orders
import Derived.OwnWalk
import Derived.Laws.MakeOwn
import Derived.Laws.OwnMore
import Derived.Laws.Slices
import Derived.RowKit3
namespace Go.Proofs.Ythhgcklidfilfaa.BX
set_option linter.unusedSectionVars false
set_option linter.unusedSimpArgs false
set_option linter.unusedVariables false
open Go Go.RowKit

/-- how long a list or a text may be -/
class Bd where
  B : Nat
  lo : 2147483648 ≤ B
  hi : B ≤ 9223372036854775808
/-- so that a congruence is always taken -/
def tick {α : Sort _} (a : α) : α := a
theorem tick_eq {α : Sort _} {a : α} : tick a = a := id rfl

variable [Bd]

/-- a closed value: a tree that is only read -/
inductive T where
  | b (x : Bool) | i (k : IntKind) (n : Int) | s (x : List UInt8)
  | ag (cs : List T) | tp (cs : List T) | sl (es : List T) | po (y : T) (off : Nat) | np | nm | ni
  | ifc (t : TypeId) (x : T) | mp (ks vs : List T) | fn (f : FuncId) (cs : List T)

/-- how a tree that is somebody's own lies: no memory; fields; a list in a row of its own (the elements' type and cells) -/
inductive Sh where
  | leaf | ag (ss : List Sh) | sl (e : TypeId) (m : Nat) (s : Sh)

/-- the values of the objects; the blocks that may be looked at as long as nobody writes into them -/
structure Hv where
  v : Nat → Value
  B : Nat → Prop
instance : CoeFun Hv fun _ => Nat → Value := ⟨Hv.v⟩

/-- an open value: closed ones ('t': for good; 'bw': as long as nobody writes), and references to objects -/
inductive AV where
  | un | ud | ns | t (x : T) | bw (x : T) | ag (cs : List AV) | tp (cs : List AV) | rf (id off : Nat) | ra (id i m off : Nat) | sr (id : Nat) | mr (id : Nat) | it (id : Nat) | fn (f : FuncId) (caps : List AV) | sv (id a m n : Nat)

def cellsL (vs : List Value) : List Value := vs.flatMap fun v => v.cells.toList
def ones (cs : List Value) : Prop := ∀ u ∈ cs, u.oneCell' = true
def laid (w : World) (b off : Nat) (cs : List Value) : Prop := ∀ j v, cs[j]? = some v → w.cell? ⟨b, off + j, none⟩ = some v

mutual
/-- the closed value lies in the world as this value; L: the blocks that it takes -/
def footT (w : World) : T → Value → List Nat → Prop
  | .b x, v, L => v = .bool x ∧ L = []
  | .i k n, v, L => v = .int k n ∧ L = []
  | .s x, v, L => v = .string ⟨x.toArray⟩ ∧ L = [] ∧ x.length < Bd.B
  | .ag cs, v, L => ∃ vs, v = .agg vs.toArray ∧ footTs w cs vs L
  | .tp cs, v, L => ∃ vs, v = .tuple vs.toArray ∧ footTs w cs vs L
  | .sl es, v, L => ∃ A c, v = .slice A es.length c ∧ es.length ≤ c ∧ es.length < Bd.B ∧
      ((es = [] ∧ L = []) ∨ ∃ b off vs L' m, A = some ⟨b, off, none⟩ ∧ footTs w es vs L' ∧ (∀ v ∈ vs, v.cells.size = m) ∧ L = b :: L' ∧ laid w b off (cellsL vs) ∧ ones (cellsL vs))
  | .po y off, v, L => ∃ b o u L', v = .pointer (some ⟨b, o + off, none⟩) ∧ footT w y u L' ∧ L = b :: L' ∧ laid w b o u.cells.toList
  | .np, v, L => v = .pointer none ∧ L = []
  | .nm, v, L => v = .map none ∧ L = []
  | .ni, v, L => v = .nilIface ∧ L = []
  | .ifc t x, v, L => ∃ u, v = .iface t u ∧ footT w x u L
  | .mp ks xs, v, L => ∃ r es clock l L1 L2, v = .map (some r) ∧ w.heap[r]? = some (.map es clock) ∧ (List.Perm l es.toList ∧ (l.map (·.born)).Nodup ∧ (∀ e ∈ l, e.born < clock) ∧ ks.Nodup ∧ ks.length < Bd.B) ∧
      footTs w ks (l.map (·.key)) L1 ∧ footTs w xs (l.map (·.val)) L2 ∧ L = r :: (L1 ++ L2)
  | .fn f cs, v, L => ∃ vs, v = .func (.func f) #[] vs.toArray ∧ footTs w cs vs L
def footTs (w : World) : List T → List Value → List Nat → Prop
  | [], vs, L => vs = [] ∧ L = []
  | x :: xs, vs, L => ∃ v vs' L1 L2, vs = v :: vs' ∧ L = L1 ++ L2 ∧ footT w x v L1 ∧ footTs w xs vs' L2
end

theorem laid_of_block {w w' : World} {b off : Nat} {cs : List Value} (h : w'.heap[b]? = w.heap[b]?) (hl : laid w b off cs) : laid w' b off cs :=
  fun j v hj => (World.cell?_of_block (w := w) (w' := w') (a := ⟨b, off + j, none⟩) h).trans (hl j v hj)

mutual
theorem footT_mono {w w' : World} : ∀ (x : T) (v : Value) (L : List Nat), (∀ b ∈ L, w'.heap[b]? = w.heap[b]?) → footT w x v L → footT w' x v L
  | .b _, _, _, _, h => by simpa only [footT] using h
  | .i _ _, _, _, _, h => by simpa only [footT] using h
  | .s _, _, _, _, h => by simpa only [footT] using h
  | .np, _, _, _, h => by simpa only [footT] using h
  | .nm, _, _, _, h => by simpa only [footT] using h
  | .ni, _, _, _, h => by simpa only [footT] using h
  | .ag cs, v, L, hb, h => by
    simp only [footT] at h ⊢
    obtain ⟨vs, e, h⟩ := h
    exact ⟨vs, e, footTs_mono cs vs L hb h⟩
  | .tp cs, v, L, hb, h => by
    simp only [footT] at h ⊢
    obtain ⟨vs, e, h⟩ := h
    exact ⟨vs, e, footTs_mono cs vs L hb h⟩
  | .fn f cs, v, L, hb, h => by
    simp only [footT] at h ⊢
    obtain ⟨vs, e, h⟩ := h
    exact ⟨vs, e, footTs_mono cs vs L hb h⟩
  | .ifc t x, v, L, hb, h => by
    simp only [footT] at h ⊢
    obtain ⟨u, e, h⟩ := h
    exact ⟨u, e, footT_mono x u L hb h⟩
  | .sl es, v, L, hb, h => by
    simp only [footT] at h ⊢
    obtain ⟨A, c, e, hc, hbig, h⟩ := h
    refine ⟨A, c, e, hc, hbig, ?_⟩
    rcases h with h | ⟨b, off, vs, L', m, hA, hf, hs, hL, hl⟩
    · exact .inl h
    · subst hL
      exact .inr ⟨b, off, vs, L', m, hA, footTs_mono es vs L' (fun x hx => hb x (List.mem_cons_of_mem _ hx)) hf, hs, rfl, laid_of_block (hb b (List.mem_cons_self ..)) hl.1, hl.2⟩
  | .po y off, v, L, hb, h => by
    simp only [footT] at h ⊢
    obtain ⟨b, o, u, L', e, hf, hL, hl⟩ := h
    subst hL
    exact ⟨b, o, u, L', e, footT_mono y u L' (fun x hx => hb x (List.mem_cons_of_mem _ hx)) hf, rfl, laid_of_block (hb b (List.mem_cons_self ..)) hl⟩
  | .mp ks xs, v, L, hb, h => by
    simp only [footT] at h ⊢
    obtain ⟨r, es, clock, l, L1, L2, e, hr, hp, h1, h2, hL⟩ := h
    subst hL
    exact ⟨r, es, clock, l, L1, L2, e, (hb r (List.mem_cons_self ..)).trans hr, hp,
      footTs_mono ks _ L1 (fun x hx => hb x (List.mem_cons_of_mem _ (List.mem_append_left _ hx))) h1,
      footTs_mono xs _ L2 (fun x hx => hb x (List.mem_cons_of_mem _ (List.mem_append_right _ hx))) h2, rfl⟩
theorem footTs_mono {w w' : World} : ∀ (xs : List T) (vs : List Value) (L : List Nat), (∀ b ∈ L, w'.heap[b]? = w.heap[b]?) → footTs w xs vs L → footTs w' xs vs L
  | [], _, _, _, h => by simpa only [footTs] using h
  | x :: xs, vs, L, hb, h => by
    simp only [footTs] at h ⊢
    obtain ⟨v, vs', L1, L2, e, hL, h1, h2⟩ := h
    subst hL
    exact ⟨v, vs', L1, L2, e, rfl, footT_mono x v L1 (fun b hx => hb b (List.mem_append_left _ hx)) h1, footTs_mono xs vs' L2 (fun b hx => hb b (List.mem_append_right _ hx)) h2⟩
end

theorem footTs_length {w : World} : ∀ {xs : List T} {vs : List Value} {L : List Nat}, footTs w xs vs L → vs.length = xs.length
  | [], _, _, h => by simp only [footTs] at h; simp [h.1]
  | _ :: xs, _, _, h => by
    simp only [footTs] at h
    obtain ⟨v, vs', L1, L2, e, _, _, h2⟩ := h
    subst e
    simp [footTs_length h2]

/-- one of the list -/
theorem footTs_get {w : World} : ∀ {xs : List T} {vs : List Value} {L : List Nat} (_ : footTs w xs vs L) {i : Nat} {x : T} (_ : xs[i]? = some x),
    ∃ v L', vs[i]? = some v ∧ footT w x v L' ∧ ∀ b ∈ L', b ∈ L
  | [], _, _, _, _, _, hx => by simp at hx
  | _ :: xs, _, _, h, i, x, hx => by
    simp only [footTs] at h
    obtain ⟨v, vs', L1, L2, e, hL, h1, h2⟩ := h
    subst e hL
    cases i with
    | zero =>
      simp only [List.getElem?_cons_zero, Option.some.injEq] at hx
      subst hx
      exact ⟨v, L1, rfl, h1, fun b hb => List.mem_append_left _ hb⟩
    | succ i =>
      simp only [List.getElem?_cons_succ] at hx
      obtain ⟨u, L', hu, hf, hs⟩ := footTs_get h2 hx
      exact ⟨u, L', by simpa using hu, hf, fun b hb => List.mem_append_right _ (hs b hb)⟩

theorem footTs_append {w : World} : ∀ {xs ys : List T} {vs us : List Value} {L M : List Nat}, footTs w xs vs L → footTs w ys us M → footTs w (xs ++ ys) (vs ++ us) (L ++ M)
  | [], _, _, _, _, _, h, k => by simp only [footTs] at h; obtain ⟨rfl, rfl⟩ := h; simpa using k
  | x :: xs, ys, vs, us, L, M, h, k => by
    simp only [footTs] at h
    obtain ⟨v, vs', L1, L2, e, hL, h1, h2⟩ := h
    subst e hL
    simp only [List.cons_append, footTs]
    exact ⟨v, vs' ++ us, L1, L2 ++ M, rfl, by simp [List.append_assoc], h1, footTs_append h2 k⟩

/-- a piece of the list -/
theorem footTs_split {w : World} : ∀ {xs ys : List T} {vs : List Value} {L : List Nat}, footTs w (xs ++ ys) vs L →
    ∃ vs1 vs2 L1 L2, vs = vs1 ++ vs2 ∧ L = L1 ++ L2 ∧ footTs w xs vs1 L1 ∧ footTs w ys vs2 L2
  | [], ys, vs, L, h => ⟨[], vs, [], L, rfl, rfl, by simp [footTs], by simpa using h⟩
  | x :: xs, ys, vs, L, h => by
    simp only [List.cons_append, footTs] at h
    obtain ⟨v, vs', L1, L2, e, hL, h1, h2⟩ := h
    obtain ⟨a1, a2, M1, M2, e1, e2, k1, k2⟩ := footTs_split h2
    subst e hL e1 e2
    exact ⟨v :: a1, a2, L1 ++ M1, M2, rfl, by simp [List.append_assoc], by simp only [footTs]; exact ⟨v, a1, L1, M1, rfl, rfl, h1, k1⟩, k2⟩

theorem footTs_take {w : World} {xs : List T} {vs : List Value} {L : List Nat} (h : footTs w xs vs L) (k : Nat) : ∃ L', footTs w (xs.take k) (vs.take k) L' ∧ ∀ b ∈ L', b ∈ L := by
  have h' := h
  rw [← List.take_append_drop k xs] at h'
  obtain ⟨a1, a2, M1, M2, e1, e2, k1, k2⟩ := footTs_split h'
  have hl := footTs_length k1
  have hl0 := footTs_length h
  subst e1 e2
  refine ⟨M1, ?_, fun b hb => List.mem_append_left _ hb⟩
  have : (a1 ++ a2).take k = a1 := by
    rcases Nat.lt_or_ge k xs.length with hk | hk
    · rw [List.length_take, Nat.min_eq_left (by omega)] at hl
      rw [← hl, List.take_left]
    · have h2l := footTs_length k2
      rw [List.drop_eq_nil_of_le hk] at h2l
      have : a2 = [] := by simpa using h2l
      subst this
      rw [List.append_nil, List.take_of_length_le]
      rw [hl, List.length_take]; omega
  rw [this]; exact k1

theorem footTs_drop {w : World} {xs : List T} {vs : List Value} {L : List Nat} (h : footTs w xs vs L) (k : Nat) : ∃ L', footTs w (xs.drop k) (vs.drop k) L' ∧ ∀ b ∈ L', b ∈ L := by
  have h' := h
  rw [← List.take_append_drop k xs] at h'
  obtain ⟨a1, a2, M1, M2, e1, e2, k1, k2⟩ := footTs_split h'
  have hl := footTs_length k1
  have hl2 := footTs_length k2
  subst e1 e2
  refine ⟨M2, ?_, fun b hb => List.mem_append_right _ hb⟩
  have : (a1 ++ a2).drop k = a2 := by
    rcases Nat.lt_or_ge k xs.length with hk | hk
    · rw [List.length_take, Nat.min_eq_left (by omega)] at hl
      rw [← hl, List.drop_left]
    · rw [List.drop_eq_nil_of_le hk] at hl2
      have : a2 = [] := by simpa using hl2
      subst this
      rw [List.append_nil, List.drop_eq_nil_of_le]
      rw [hl, List.length_take]; omega
  rw [this]; exact k2

mutual
/-- the open value, in a world, where the call's own things lie as 'hv' says -/
def footA (hv : Hv) (w : World) : AV → Value → List Nat → Prop
  | .un, _, L => L = []
  | .ud, v, L => v = undef ∧ L = []
  | .ns, v, L => v = .slice none 0 0 ∧ L = []
  | .t x, v, L => footT w x v L
  | .bw x, v, L => (∃ L', footT w x v L' ∧ ∀ b ∈ L', hv.B b) ∧ L = []
  | .ag cs, v, L => ∃ vs, v = .agg vs.toArray ∧ footAs hv w cs vs L
  | .tp cs, v, L => ∃ vs, v = .tuple vs.toArray ∧ footAs hv w cs vs L
  | .rf id off, v, L => ∃ b, hv id = .pointer (some ⟨b, 0, none⟩) ∧ v = .pointer (some ⟨b, off, none⟩) ∧ L = []
  | .ra id i m off, v, L => ∃ b n c, hv id = .slice (some ⟨b, 0, none⟩) n c ∧ v = .pointer (some ⟨b, i * m + off, none⟩) ∧ L = []
  | .sv id a m n, v, L => ((n = 0 ∧ ∃ A c, v = .slice A 0 c) ∨ ∃ b k c c', hv id = .slice (some ⟨b, 0, none⟩) k c ∧ v = .slice (some ⟨b, a * m, none⟩) n c' ∧ a + n ≤ k ∧ n ≤ c') ∧ L = []
  | .sr id, v, L => v = hv id ∧ L = []
  | .mr id, v, L => v = hv id ∧ L = []
  | .it id, v, L => v = hv id ∧ L = []
  | .fn f cs, v, L => ∃ vs, v = .func (.func f) #[] vs.toArray ∧ footAs hv w cs vs L
def footAs (hv : Hv) (w : World) : List AV → List Value → List Nat → Prop
  | [], vs, L => vs = [] ∧ L = []
  | x :: xs, vs, L => ∃ v vs' L1 L2, vs = v :: vs' ∧ L = L1 ++ L2 ∧ footA hv w x v L1 ∧ footAs hv w xs vs' L2
end

mutual
theorem footA_mono {hv : Hv} {w w' : World} (hB : ∀ b, hv.B b → w'.heap[b]? = w.heap[b]?) : ∀ (x : AV) (v : Value) (L : List Nat), (∀ b ∈ L, w'.heap[b]? = w.heap[b]?) → footA hv w x v L → footA hv w' x v L
  | .un, _, _, _, h => by simpa only [footA] using h
  | .it _, _, _, _, h => by simpa only [footA] using h
  | .bw x, v, L, _, h => by
    simp only [footA] at h ⊢
    obtain ⟨⟨L', h1, h2⟩, h3⟩ := h
    exact ⟨⟨L', footT_mono x v L' (fun b hb => hB b (h2 b hb)) h1, h2⟩, h3⟩
  | .ud, _, _, _, h => by simpa only [footA] using h
  | .rf _ _, _, _, _, h => by simpa only [footA] using h
  | .ns, _, _, _, h => by simpa only [footA] using h
  | .ra _ _ _ _, _, _, _, h => by simpa only [footA] using h
  | .sv _ _ _ _, _, _, _, h => by simpa only [footA] using h
  | .sr _, _, _, _, h => by simpa only [footA] using h
  | .mr _, _, _, _, h => by simpa only [footA] using h
  | .t x, v, L, hb, h => by simp only [footA] at h ⊢; exact footT_mono x v L hb h
  | .ag cs, v, L, hb, h => by
    simp only [footA] at h ⊢
    obtain ⟨vs, e, h⟩ := h
    exact ⟨vs, e, footAs_mono hB cs vs L hb h⟩
  | .tp cs, v, L, hb, h => by
    simp only [footA] at h ⊢
    obtain ⟨vs, e, h⟩ := h
    exact ⟨vs, e, footAs_mono hB cs vs L hb h⟩
  | .fn f cs, v, L, hb, h => by
    simp only [footA] at h ⊢
    obtain ⟨vs, e, h⟩ := h
    exact ⟨vs, e, footAs_mono hB cs vs L hb h⟩
theorem footAs_mono {hv : Hv} {w w' : World} (hB : ∀ b, hv.B b → w'.heap[b]? = w.heap[b]?) : ∀ (xs : List AV) (vs : List Value) (L : List Nat), (∀ b ∈ L, w'.heap[b]? = w.heap[b]?) → footAs hv w xs vs L → footAs hv w' xs vs L
  | [], _, _, _, h => by simpa only [footAs] using h
  | x :: xs, vs, L, hb, h => by
    simp only [footAs] at h ⊢
    obtain ⟨v, vs', L1, L2, e, hL, h1, h2⟩ := h
    subst hL
    exact ⟨v, vs', L1, L2, e, rfl, footA_mono hB x v L1 (fun b hx => hb b (List.mem_append_left _ hx)) h1, footAs_mono hB xs vs' L2 (fun b hx => hb b (List.mem_append_right _ hx)) h2⟩
end

theorem footAs_length {hv : Hv} {w : World} : ∀ {xs : List AV} {vs : List Value} {L : List Nat}, footAs hv w xs vs L → vs.length = xs.length
  | [], _, _, h => by simp only [footAs] at h; simp [h.1]
  | _ :: xs, _, _, h => by
    simp only [footAs] at h
    obtain ⟨v, vs', L1, L2, e, _, _, h2⟩ := h
    subst e
    simp [footAs_length h2]

theorem footAs_get {hv : Hv} {w : World} : ∀ {xs : List AV} {vs : List Value} {L : List Nat} (_ : footAs hv w xs vs L) {i : Nat} {x : AV} (_ : xs[i]? = some x),
    ∃ v L', vs[i]? = some v ∧ footA hv w x v L' ∧ ∀ b ∈ L', b ∈ L
  | [], _, _, _, _, _, hx => by simp at hx
  | _ :: xs, _, _, h, i, x, hx => by
    simp only [footAs] at h
    obtain ⟨v, vs', L1, L2, e, hL, h1, h2⟩ := h
    subst e hL
    cases i with
    | zero =>
      simp only [List.getElem?_cons_zero, Option.some.injEq] at hx
      subst hx
      exact ⟨v, L1, rfl, h1, fun b hb => List.mem_append_left _ hb⟩
    | succ i =>
      simp only [List.getElem?_cons_succ] at hx
      obtain ⟨u, L', hu, hf, hs⟩ := footAs_get h2 hx
      exact ⟨u, L', by simpa using hu, hf, fun b hb => List.mem_append_right _ (hs b hb)⟩

mutual
def AV.under (n : Nat) : AV → Bool
  | .un | .ud | .ns | .t _ | .bw _ => true
  | .it id => decide (id < n)
  | .ag cs => unders n cs
  | .tp cs => unders n cs
  | .fn _ cs => unders n cs
  | .rf id _ => decide (id < n)
  | .sr id => decide (id < n)
  | .ra id _ _ _ => decide (id < n)
  | .sv id _ _ _ => decide (id < n)
  | .mr id => decide (id < n)
def unders (n : Nat) : List AV → Bool
  | [] => true
  | x :: xs => x.under n && unders n xs
end

mutual
theorem footA_hv {hv hv' : Hv} {w : World} {n : Nat} (hB : ∀ b, hv.B b → hv'.B b) (he : ∀ i, i < n → hv' i = hv i) : ∀ (x : AV) (v : Value) (L : List Nat), x.under n = true → footA hv w x v L → footA hv' w x v L
  | .un, _, _, _, h => by simpa only [footA] using h
  | .ud, _, _, _, h => by simpa only [footA] using h
  | .ns, _, _, _, h => by simpa only [footA] using h
  | .t x, v, L, _, h => by simpa only [footA] using h
  | .bw x, v, L, _, h => by
    simp only [footA] at h ⊢
    obtain ⟨⟨L', h1, h2⟩, h3⟩ := h
    exact ⟨⟨L', h1, fun b hb => hB b (h2 b hb)⟩, h3⟩
  | .it id, v, L, hn, h => by
    simp only [AV.under, decide_eq_true_eq] at hn
    simp only [footA] at h ⊢
    rw [he id hn]; exact h
  | .rf id off, v, L, hn, h => by
    simp only [AV.under, decide_eq_true_eq] at hn
    simp only [footA] at h ⊢
    rw [he id hn]; exact h
  | .ra id i m off, v, L, hn, h => by
    simp only [AV.under, decide_eq_true_eq] at hn
    simp only [footA] at h ⊢
    rw [he id hn]; exact h
  | .sv id i m off, v, L, hn, h => by
    simp only [AV.under, decide_eq_true_eq] at hn
    simp only [footA] at h ⊢
    rw [he id hn]; exact h
  | .sr id, v, L, hn, h => by
    simp only [AV.under, decide_eq_true_eq] at hn
    simp only [footA] at h ⊢
    rw [he id hn]; exact h
  | .mr id, v, L, hn, h => by
    simp only [AV.under, decide_eq_true_eq] at hn
    simp only [footA] at h ⊢
    rw [he id hn]; exact h
  | .ag cs, v, L, hn, h => by
    simp only [AV.under] at hn
    simp only [footA] at h ⊢
    obtain ⟨vs, e, h⟩ := h
    exact ⟨vs, e, footAs_hv hB he cs vs L hn h⟩
  | .tp cs, v, L, hn, h => by
    simp only [AV.under] at hn
    simp only [footA] at h ⊢
    obtain ⟨vs, e, h⟩ := h
    exact ⟨vs, e, footAs_hv hB he cs vs L hn h⟩
  | .fn f cs, v, L, hn, h => by
    simp only [AV.under] at hn
    simp only [footA] at h ⊢
    obtain ⟨vs, e, h⟩ := h
    exact ⟨vs, e, footAs_hv hB he cs vs L hn h⟩
theorem footAs_hv {hv hv' : Hv} {w : World} {n : Nat} (hB : ∀ b, hv.B b → hv'.B b) (he : ∀ i, i < n → hv' i = hv i) : ∀ (xs : List AV) (vs : List Value) (L : List Nat), unders n xs = true → footAs hv w xs vs L → footAs hv' w xs vs L
  | [], _, _, _, h => by simpa only [footAs] using h
  | x :: xs, vs, L, hn, h => by
    simp only [unders, Bool.and_eq_true] at hn
    simp only [footAs] at h ⊢
    obtain ⟨v, vs', L1, L2, e, hL, h1, h2⟩ := h
    exact ⟨v, vs', L1, L2, e, hL, footA_hv hB he x v L1 hn.1 h1, footAs_hv hB he xs vs' L2 hn.2 h2⟩
end

/-- the block that a value leads to -/
def blkOf : Value → Option Nat
  | .pointer (some a) => some a.block
  | .slice (some a) _ _ => some a.block
  | .map (some r) => some r
  | _ => none

mutual
def T.flat : T → Bool
  | .b _ | .i _ _ | .s _ | .np | .nm | .ni => true
  | .ag cs => flats cs
  | .tp cs => flats cs
  | _ => false
def flats : List T → Bool
  | [] => true
  | x :: xs => x.flat && flats xs
end

mutual
theorem flat_foot {w : World} : ∀ (x : T) {v : Value} {L : List Nat}, x.flat = true → footT w x v L → L = [] ∧ ∀ w', footT w' x v []
  | .b _, _, _, _, h | .i _ _, _, _, _, h | .s _, _, _, _, h | .np, _, _, _, h | .nm, _, _, _, h | .ni, _, _, _, h => by
    simp only [footT] at h ⊢; simp [h]
  | .ag cs, v, L, hf, h => by
    simp only [T.flat] at hf
    simp only [footT] at h ⊢
    obtain ⟨vs, rfl, h⟩ := h
    exact ⟨(flats_foot cs hf h).1, fun w' => ⟨vs, rfl, (flats_foot cs hf h).2 w'⟩⟩
  | .tp cs, v, L, hf, h => by
    simp only [T.flat] at hf
    simp only [footT] at h ⊢
    obtain ⟨vs, rfl, h⟩ := h
    exact ⟨(flats_foot cs hf h).1, fun w' => ⟨vs, rfl, (flats_foot cs hf h).2 w'⟩⟩
  | .sl _, _, _, hf, _ | .po _ _, _, _, hf, _ | .ifc _ _, _, _, hf, _ | .mp _ _, _, _, hf, _ | .fn _ _, _, _, hf, _ => by simp [T.flat] at hf
theorem flats_foot {w : World} : ∀ (xs : List T) {vs : List Value} {L : List Nat}, flats xs = true → footTs w xs vs L → L = [] ∧ ∀ w', footTs w' xs vs []
  | [], _, _, _, h => by simp only [footTs] at h ⊢; simp [h]
  | x :: xs, vs, L, hf, h => by
    simp only [flats, Bool.and_eq_true] at hf
    simp only [footTs] at h ⊢
    obtain ⟨v, vs', L1, L2, rfl, rfl, h1, h2⟩ := h
    obtain ⟨rfl, k1⟩ := flat_foot x hf.1 h1
    obtain ⟨rfl, k2⟩ := flats_foot xs hf.2 h2
    exact ⟨rfl, fun w' => ⟨v, vs', [], [], rfl, rfl, k1 w', k2 w'⟩⟩
end

mutual
/-- the tree lies so in memory of its own; L: its blocks -/
def ownT (w : World) : Sh → T → Value → List Nat → Prop
  | .leaf, x, v, L => x.flat = true ∧ footT w x v [] ∧ L = []
  | .ag ss, .ag cs, v, L => ∃ vs, v = .agg vs.toArray ∧ ownTs w ss cs vs L
  | .sl e m s, .sl es, v, L => ∃ vs L', w.ownsRow 0 e m v es.length (cellsL vs) ∧ ownEs w s es vs L' ∧ (∀ u ∈ vs, u.cells.size = m) ∧ (es.length < Bd.B ∧ ones (cellsL vs)) ∧ L = (blkOf v).toList ++ L'
  | _, _, _, _ => False
def ownTs (w : World) : List Sh → List T → List Value → List Nat → Prop
  | [], [], vs, L => vs = [] ∧ L = []
  | s :: ss, x :: xs, vs, L => ∃ v vs' L1 L2, vs = v :: vs' ∧ L = L1 ++ L2 ∧ ownT w s x v L1 ∧ ownTs w ss xs vs' L2
  | _, _, _, _ => False
def ownEs (w : World) (s : Sh) : List T → List Value → List Nat → Prop
  | [], vs, L => vs = [] ∧ L = []
  | x :: xs, vs, L => ∃ v vs' L1 L2, vs = v :: vs' ∧ L = L1 ++ L2 ∧ ownT w s x v L1 ∧ ownEs w s xs vs' L2
end

end Go.Proofs.Ythhgcklidfilfaa.BX
