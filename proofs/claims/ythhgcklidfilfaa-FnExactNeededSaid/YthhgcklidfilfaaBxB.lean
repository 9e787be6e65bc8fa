/-
  A frame for proofs over whole functions, second make, second part: the state of a call, and how it stands to a world.
-/
import Derived.Test.YthhgcklidfilfaaBxA
namespace Go.Proofs.Ythhgcklidfilfaa.BX
set_option linter.unusedSectionVars false
set_option linter.unusedSimpArgs false
set_option linter.unusedVariables false
open Go Go.RowKit
variable [Bd]

inductive Lay where
  | int (k : IntKind) | bool | str | ptr | sli (e : TypeId) (m : Nat) | st (fs : List (Nat × Nat)) (m : Nat) | map (k e : TypeId) | ifc | fnc | oth

def lay (P : Program) (t : TypeId) : Lay :=
  match P.underlying t with
  | some (.int k) => .int k
  | some .bool => .bool
  | some .string => .str
  | some (.pointer _) => .ptr
  | some (.slice e) => match P.info? e with
    | some i => .sli e i.size
    | none => .oth
  | some (.struct fs) => if fs.toList.all (fun f => (P.info? f.type).isSome) = true then .st (fs.toList.map fun f => (f.offset, P.cellsOf f.type)) (P.cellsOf t) else .oth
  | some (.map k e) => .map k e
  | some (.interface _) => .ifc
  | some (.func ..) => .fnc
  | _ => .oth

def Lay.sc : Lay → Bool
  | .st .. | .oth => false
  | _ => true

def T.cells : T → List T
  | .ag cs => cs
  | x => [x]

/-- what is looked at for a while: 't' where it holds no memory -/
def AV.bwc (x : T) : AV := if x.flat = true then .t x else .bw x

def AV.cells : AV → List AV
  | .ag cs => cs
  | .t x => x.cells.map .t
  | .bw x => x.cells.map AV.bwc
  | x => [x]
def T.isAg : T → Bool
  | .ag _ => true
  | _ => false
def T.one : T → Bool
  | .ag _ | .tp _ => false
  | _ => true
def AV.one : AV → Bool
  | .un | .ud | .ag _ | .tp _ => false
  | .t x => x.one
  | .bw x => x.one
  | _ => true

/-- how the elements of a row or a map lie: each the row's own, for good, for a while -/
inductive Kind where
  | own (s : Sh) | clo | bor

inductive Ob where
  | dead | box (x : AV) | arr (e : TypeId) (m : Nat) (k : Kind) (es : List T) | hole (e : TypeId) (m : Nat) (s : Sh) (es : List T) (i j id : Nat)
  | map (kt vt : TypeId) (k : Kind) (ks vs : List T) (pend : Option (Int × T)) | mhole (kt vt : TypeId) (s : Sh) (ks vs : List T) (i id : Nat) | iter (c : Option (T × T)) (l : List (T × T))

def Ob.owns : Ob → Bool
  | .arr _ _ (.own _) _ | .hole .. | .map _ _ (.own _) _ _ _ | .mhole .. => true
  | _ => false
/-- a row or a map -/
def Ob.bulk : Ob → Bool
  | .arr .. | .map .. => true
  | _ => false

structure St where
  n : Nat
  tm : List (Nat × AV)
  ob : List Ob

def getL : List (Nat × AV) → Nat → AV
  | [], _ => .un
  | (k, x) :: r, t => if t = k then x else getL r t

def St.set (σ : St) (d : Option Nat) (x : AV) : St :=
  match d with
  | some d => { σ with tm := (d, x) :: σ.tm }
  | none => σ

def Kind.isOwn : Kind → Bool
  | .own _ => true
  | _ => false

def Sh.cells : Sh → List Sh
  | .ag ss => ss
  | s => [s]
def T.setCell (y : T) (j : Nat) (z : T) : T := match y with
  | .ag cs => .ag (cs.set j z)
  | _ => z

/-- the elements -/
def elsR (hv : Hv) (S : Nat → Prop) (w : World) (Fi : List Nat) : Kind → List T → List Value → Prop
  | .own s, es, vs => ∃ L, ownEs w s es vs L ∧ L.Nodup ∧ ∀ b ∈ L, b ∈ Fi
  | .clo, es, vs => ∃ L, footTs w es vs L ∧ ∀ b ∈ L, S b
  | .bor, es, vs => ∃ L, footTs w es vs L ∧ ∀ b ∈ L, hv.B b

/-- a map's entries, in some order -/
structure Ents (w : World) (h : Value) (ks : List T) (r : Nat) (es : Array MapEntry) (clock : Nat) (l : List MapEntry) : Prop where
  val : h = .map (some r)
  heap : w.heap[r]? = some (.map es clock)
  perm : List.Perm l es.toList
  born : (l.map (·.born)).Nodup
  lt : ∀ e ∈ l, e.born < clock
  keys : footTs w ks (l.map (·.key)) []
  flat : flats ks = true
  nodup : ks.Nodup
  small : ks.length < Bd.B
  ones : ∀ e ∈ l, e.val.oneCell' = true

def ObR (hv : Hv) (S : Nat → Prop) (w : World) (Fi : List Nat) (h : Value) : Ob → Prop
  | .dead => True
  | .box x => ∃ b e u L, h = .pointer (some ⟨b, 0, none⟩) ∧ w.heap[b]? = some (.cells u.cells e (0, 0)) ∧ footA hv w x u L ∧ ∀ b' ∈ L, S b'
  | .arr e m k es => ∃ vs, w.ownsRow 0 e m h es.length (cellsL vs) ∧ elsR hv S w Fi k es vs ∧ (∀ v ∈ vs, v.cells.size = m) ∧ (es.length < Bd.B ∧ ones (cellsL vs))
  | .hole e m s es i j id => ∃ vs v y L0 e1 m1 s1, w.ownsRow 0 e m h es.length (cellsL vs) ∧ (∀ v ∈ vs, v.cells.size = m) ∧ (es.length < Bd.B ∧ ones (cellsL vs)) ∧
      es[i]? = some y ∧ vs[i]? = some v ∧ v.cells[j]? = some (hv id) ∧ s.cells[j]? = some (.sl e1 m1 s1) ∧ L0.Nodup ∧ (∀ b ∈ L0, b ∈ Fi) ∧
      ∀ (w' : World) (xs : List T) (Lj : List Nat), (∀ b ∈ L0, w'.heap[b]? = w.heap[b]?) → ownT w' (.sl e1 m1 s1) (.sl xs) (hv id) Lj → ∃ L', ownEs w' s (es.set i (y.setCell j (.sl xs))) vs L' ∧ List.Perm L' (Lj ++ L0)
  | .map _ _ k ks vs pend => ∃ r es clock l, Ents w h ks r es clock l ∧ elsR hv S w Fi k vs (l.map (·.val)) ∧ ks.length = vs.length ∧ (∀ n x, pend = some (n, x) → ∃ i : Nat, ks[i]? = some x ∧ ∃ e : MapEntry, l[i]? = some e ∧ (e.born : Int) = n)
  | .mhole _ _ s ks vs i _ => ∃ r es clock l L, Ents w h ks r es clock l ∧ i < ks.length ∧ ownEs w s (vs.eraseIdx i) ((l.map (·.val)).eraseIdx i) L ∧ L.Nodup ∧ (∀ b ∈ L, b ∈ Fi) ∧ ks.length = vs.length
  | .iter c xs => ∃ b m es clock seen last lc l L1 L2, h = .pointer (some ⟨b, 0, none⟩) ∧ w.heap[b]? = some (.mapIter (some m) clock seen last) ∧ S m ∧ w.heap[m]? = some (.map es clock) ∧ clock ≤ last ∧ (seen = #[] ∨ last = clock) ∧ (∀ e ∈ es.toList, e.born < clock) ∧ (es.toList.map (·.born)).Nodup ∧
      (List.Perm l (es.toList.filter fun e => !seen.contains e.born) ∧ lc.length = c.toList.length ∧ ∀ e ∈ lc, e ∈ es.toList ∧ seen.back? = some e.born ∧ last = clock) ∧ footTs w ((c.toList ++ xs).map (·.1)) ((lc ++ l).map (·.key)) L1 ∧ footTs w ((c.toList ++ xs).map (·.2)) ((lc ++ l).map (·.val)) L2 ∧ ∀ b' ∈ L1 ++ L2, S b'

def Ob.under (n : Nat) : Ob → Bool
  | .box x => x.under n
  | .hole _ _ _ _ _ _ id => decide (id < n)
  | _ => true

/-- the world at the call; what may be looked at; what may be written; the objects that were handed in, and their values -/
structure Base extends World where
  L : Nat → Prop
  M : Nat → Prop
  na : Nat
  av : Nat → Value

/-- nothing that was there has turned, but for what may be written -/
structure But (M : Nat → Prop) (B : Nat) (w w' : World) : Prop where
  os : w'.os = w.os
  tape : w'.tape = w.tape
  output : w'.output = w.output
  size : w.heap.size ≤ w'.heap.size
  block : ∀ k, k < B → ¬ M k → w'.heap[k]? = w.heap[k]?
  drawn : w.drawn ≤ w'.drawn

theorem But.refl (M : Nat → Prop) (B : Nat) (w : World) : But M B w w := ⟨rfl, rfl, rfl, Nat.le_refl _, fun _ _ _ => rfl, Nat.le_refl _⟩
theorem But.trans {M : Nat → Prop} {B : Nat} {a b c : World} (h : But M B a b) (k : But M B b c) : But M B a c :=
  ⟨k.os.trans h.os, k.tape.trans h.tape, k.output.trans h.output, Nat.le_trans h.size k.size, fun i hi hm => (k.block i hi hm).trans (h.block i hi hm), Nat.le_trans h.drawn k.drawn⟩
theorem But.below {M : Nat → Prop} {B : Nat} {w w' : World} (h : But M B w w') (hM : ∀ b, ¬ M b) : Below B w w' := ⟨h.os, h.tape, h.output, h.size, fun k hk => h.block k hk (hM k)⟩

structure Rel (w0 : Base) (σ : St) (hv : Hv) (S : Nat → Prop) (F : Nat → List Nat) (a : Act) (w : World) : Prop where
  size : a.tmps.size = σ.n
  defs : a.defers = []
  tm : ∀ t, ∃ L, footA hv w (getL σ.tm t) (a.tmps.getD t undef) L ∧ ∀ b ∈ L, S b
  utm : ∀ t, (getL σ.tm t).under σ.ob.length = true
  ob : ∀ (id : Nat) (o : Ob), σ.ob[id]? = some o → ObR hv S w (F id) (hv id) o
  uob : ∀ (id : Nat) (o : Ob), σ.ob[id]? = some o → o.under σ.ob.length = true
  root : ∀ (id : Nat) (o : Ob), σ.ob[id]? = some o → o ≠ .dead → ∀ b, blkOf (hv id) = some b → (w0.M b ∨ w0.heap.size ≤ b) ∧ b < w.heap.size ∧ ¬ hv.B b
  sep : ∀ (i j : Nat) (oi oj : Ob), i ≠ j → σ.ob[i]? = some oi → σ.ob[j]? = some oj → oi ≠ .dead → oj ≠ .dead → ∀ b, blkOf (hv i) = some b → blkOf (hv j) ≠ some b
  SB : ∀ b, S b → hv.B b
  Blt : ∀ b, hv.B b → b < w.heap.size
  Bin : ∀ b, hv.B b → w0.L b ∨ w0.M b ∨ w0.heap.size ≤ b
  fown : ∀ (id : Nat) o, σ.ob[id]? = some o → o.owns = true → ∀ b ∈ F id, (w0.M b ∨ w0.heap.size ≤ b) ∧ hv.B b ∧ ¬ S b
  fsep : ∀ (i j : Nat) oi oj, i ≠ j → σ.ob[i]? = some oi → σ.ob[j]? = some oj → oi.owns = true → oj.owns = true → ∀ b ∈ F i, b ∉ F j
  below : But w0.M w0.heap.size w0.toWorld w
  one : ∀ id, (hv id).oneCell' = true
  an : w0.na ≤ σ.ob.length
  av : ∀ i, i < w0.na → hv i = w0.av i

section
variable {w0 : Base} {σ : St} {hv : Hv} {S : Nat → Prop} {F : Nat → List Nat} {a : Act} {w : World}
theorem Rel.Slt (h : Rel w0 σ hv S F a w) : ∀ b, S b → b < w.heap.size := fun b hb => h.Blt b (h.SB b hb)
theorem Rel.rootS (h : Rel w0 σ hv S F a w) {id : Nat} {o : Ob} (hid : σ.ob[id]? = some o) (hd : o ≠ .dead) {b : Nat} (hb : blkOf (hv id) = some b) : ¬ S b := fun hS => (h.root id o hid hd b hb).2.2 (h.SB b hS)
end

mutual
theorem AV.under_mono {n m : Nat} (h : n ≤ m) : ∀ x : AV, x.under n = true → x.under m = true
  | .un, _ | .ud, _ | .ns, _ | .t _, _ | .bw _, _ => rfl
  | .ag cs, hx => by simp only [AV.under] at hx ⊢; exact unders_mono h cs hx
  | .tp cs, hx => by simp only [AV.under] at hx ⊢; exact unders_mono h cs hx
  | .fn _ cs, hx => by simp only [AV.under] at hx ⊢; exact unders_mono h cs hx
  | .rf id _, hx => by simp only [AV.under, decide_eq_true_eq] at hx ⊢; omega
  | .sr id, hx => by simp only [AV.under, decide_eq_true_eq] at hx ⊢; omega
  | .ra id _ _ _, hx => by simp only [AV.under, decide_eq_true_eq] at hx ⊢; omega
  | .sv id _ _ _, hx => by simp only [AV.under, decide_eq_true_eq] at hx ⊢; omega
  | .mr id, hx => by simp only [AV.under, decide_eq_true_eq] at hx ⊢; omega
  | .it id, hx => by simp only [AV.under, decide_eq_true_eq] at hx ⊢; omega
theorem unders_mono {n m : Nat} (h : n ≤ m) : ∀ xs : List AV, unders n xs = true → unders m xs = true
  | [], _ => rfl
  | x :: xs, hx => by
    simp only [unders, Bool.and_eq_true] at hx ⊢
    exact ⟨AV.under_mono h x hx.1, unders_mono h xs hx.2⟩
end

theorem Ob.under_mono {n m : Nat} (h : n ≤ m) (o : Ob) (ho : o.under n = true) : o.under m = true := by
  cases o <;> first | rfl | exact AV.under_mono h _ ho | (simp only [Ob.under, decide_eq_true_eq] at ho ⊢; omega)

theorem unders_mem {n : Nat} {xs : List AV} (h : unders n xs = true) {x : AV} (hx : x ∈ xs) : x.under n = true := by
  induction xs with
  | nil => cases hx
  | cons y ys ih =>
    simp only [unders, Bool.and_eq_true] at h
    rcases List.mem_cons.1 hx with rfl | hx
    · exact h.1
    · exact ih h.2 hx

theorem unders_of {n : Nat} {xs : List AV} (h : ∀ x ∈ xs, x.under n = true) : unders n xs = true := by
  induction xs with
  | nil => rfl
  | cons y ys ih =>
    simp only [unders, Bool.and_eq_true]
    exact ⟨h y (List.mem_cons_self ..), ih fun x hx => h x (List.mem_cons_of_mem _ hx)⟩

theorem AV.bwc_under {n : Nat} (x : T) : (AV.bwc x).under n = true := by unfold AV.bwc; split <;> rfl

theorem AV.under_cells {n : Nat} {x : AV} (h : x.under n = true) : ∀ y ∈ x.cells, y.under n = true := by
  cases x with
  | ag cs => intro y hy; simp only [AV.under] at h; simp only [AV.cells] at hy; exact unders_mem h hy
  | t x => intro y hy; simp only [AV.cells, List.mem_map] at hy; obtain ⟨z, _, rfl⟩ := hy; rfl
  | bw x => intro y hy; simp only [AV.cells, List.mem_map] at hy; obtain ⟨z, _, rfl⟩ := hy; exact AV.bwc_under z
  | _ => intro y hy; simp only [AV.cells, List.mem_singleton] at hy; subst hy; exact h

/-! ### trees of somebody's own -/

theorem ownsRow_block {w w' : World} {base : Nat} {e : TypeId} {size n : Nat} {v : Value} {xs : List Value} (h : w.ownsRow base e size v n xs)
    (hb : ∀ b, blkOf v = some b → w'.heap[b]? = w.heap[b]?) : w'.ownsRow base e size v n xs := by
  obtain ⟨h1, h2⟩ := h
  refine ⟨h1, ?_⟩
  rcases h2 with h2 | ⟨g, cap, cur, hv, hg, hh, r⟩
  · exact .inl h2
  · exact .inr ⟨g, cap, cur, hv, hg, (hb g (by rw [hv]; rfl)).trans hh, r⟩

mutual
theorem ownT_mono {w w' : World} : ∀ (s : Sh) (x : T) (v : Value) (L : List Nat), (∀ b ∈ L, w'.heap[b]? = w.heap[b]?) → ownT w s x v L → ownT w' s x v L
  | .leaf, x, v, L, _, h => by
    simp only [ownT] at h ⊢
    exact ⟨h.1, (flat_foot x h.1 h.2.1).2 w', h.2.2⟩
  | .ag ss, x, v, L, hb, h => by
    cases x <;> simp only [ownT] at h ⊢
    obtain ⟨vs, e, h⟩ := h
    exact ⟨vs, e, ownTs_mono ss _ vs L hb h⟩
  | .sl e m s, x, v, L, hb, h => by
    cases x <;> simp only [ownT] at h ⊢
    obtain ⟨vs, L', h1, h2, h3, h4, rfl⟩ := h
    exact ⟨vs, L', ownsRow_block h1 (fun b hb' => hb b (List.mem_append_left _ (by simp [hb']))), ownEs_mono s _ vs L' (fun b hb' => hb b (List.mem_append_right _ hb')) h2, h3, h4, rfl⟩
theorem ownTs_mono {w w' : World} : ∀ (ss : List Sh) (xs : List T) (vs : List Value) (L : List Nat), (∀ b ∈ L, w'.heap[b]? = w.heap[b]?) → ownTs w ss xs vs L → ownTs w' ss xs vs L
  | [], [], _, _, _, h => by simpa only [ownTs] using h
  | s :: ss, x :: xs, vs, L, hb, h => by
    simp only [ownTs] at h ⊢
    obtain ⟨v, vs', L1, L2, e, rfl, h1, h2⟩ := h
    exact ⟨v, vs', L1, L2, e, rfl, ownT_mono s x v L1 (fun b hx => hb b (List.mem_append_left _ hx)) h1, ownTs_mono ss xs vs' L2 (fun b hx => hb b (List.mem_append_right _ hx)) h2⟩
  | [], _ :: _, _, _, _, h => by simp only [ownTs] at h
  | _ :: _, [], _, _, _, h => by simp only [ownTs] at h
theorem ownEs_mono {w w' : World} : ∀ (s : Sh) (xs : List T) (vs : List Value) (L : List Nat), (∀ b ∈ L, w'.heap[b]? = w.heap[b]?) → ownEs w s xs vs L → ownEs w' s xs vs L
  | _, [], _, _, _, h => by simpa only [ownEs] using h
  | s, x :: xs, vs, L, hb, h => by
    simp only [ownEs] at h ⊢
    obtain ⟨v, vs', L1, L2, e, rfl, h1, h2⟩ := h
    exact ⟨v, vs', L1, L2, e, rfl, ownT_mono s x v L1 (fun b hx => hb b (List.mem_append_left _ hx)) h1, ownEs_mono s xs vs' L2 (fun b hx => hb b (List.mem_append_right _ hx)) h2⟩
end

theorem heap_lt {w : World} {b : Nat} {o : Obj} (h : w.heap[b]? = some o) : b < w.heap.size := by
  rcases Nat.lt_or_ge b w.heap.size with h' | h'
  · exact h'
  · rw [Array.getElem?_eq_none h'] at h; cases h

theorem laid_of_heap {w : World} {b : Nat} {cs : Array Value} {e : TypeId} {fr : Nat × Nat} (h : w.heap[b]? = some (.cells cs e fr)) : laid w b 0 cs.toList := by
  intro j v hj
  simp only [World.cell?, h, Nat.zero_add]
  simpa using hj

theorem ownsRow_laid {w : World} {base : Nat} {e : TypeId} {m n : Nat} {v : Value} {xs : List Value} (h : w.ownsRow base e m v n xs) {b : Nat} {k c : Nat} (hv : v = .slice (some ⟨b, 0, none⟩) k c) : laid w b 0 xs := by
  obtain ⟨h1, h2⟩ := h
  rcases h2 with ⟨h2, _⟩ | ⟨g, cap, cur, hv', hg, hh, hn, hm, hs, ht⟩
  · rw [hv] at h2; cases h2
  · rw [hv] at hv'
    cases hv'
    intro j u hj
    have := laid_of_heap hh j u
    refine this ?_
    rw [← ht, List.getElem?_take] at hj
    split at hj
    · exact hj
    · cases hj

theorem row_foot {w : World} {base : Nat} {e : TypeId} {m : Nat} {v : Value} {es : List T} {vs : List Value} {L : List Nat} (k1 : w.ownsRow base e m v es.length (cellsL vs)) (k2 : footTs w es vs L) (k3 : ∀ v ∈ vs, v.cells.size = m) (k5 : es.length < Bd.B ∧ ones (cellsL vs)) :
    ∃ L', footT w (.sl es) v L' ∧ (L' = [] ∨ ∃ b, blkOf v = some b ∧ L' = b :: L) := by
  rcases k1.2 with ⟨q, q2⟩ | ⟨g, cap, cur, q, hg, hh, hn, _⟩
  · have : es = [] := List.eq_nil_of_length_eq_zero q2
    subst this
    refine ⟨[], ?_, .inl rfl⟩
    simp only [footT]
    exact ⟨none, 0, by simpa using q, by simp, k5.1, .inl ⟨trivial, trivial⟩⟩
  · refine ⟨g :: L, ?_, .inr ⟨g, by rw [q]; rfl, rfl⟩⟩
    simp only [footT]
    exact ⟨_, cap, q, hn, k5.1, .inr ⟨g, 0, vs, L, m, rfl, k2, k3, rfl, ownsRow_laid k1 q, k5.2⟩⟩

mutual
/-- what is somebody's own can be read -/
theorem ownT_foot {w : World} : ∀ (s : Sh) (x : T) {v : Value} {L : List Nat}, ownT w s x v L → ∃ L', footT w x v L' ∧ ∀ b ∈ L', b ∈ L
  | .leaf, x, v, L, h => by simp only [ownT] at h; exact ⟨[], h.2.1, by simp⟩
  | .ag ss, x, v, L, h => by
    cases x <;> simp only [ownT] at h
    obtain ⟨vs, rfl, h⟩ := h
    obtain ⟨L', h1, h2⟩ := ownTs_foot ss _ h
    exact ⟨L', by simp only [footT]; exact ⟨vs, rfl, h1⟩, h2⟩
  | .sl e m s, x, v, L, h => by
    cases x <;> simp only [ownT] at h
    obtain ⟨vs, L1, h1, h2, h3, h4, rfl⟩ := h
    obtain ⟨L2, k1, k2⟩ := ownEs_foot s _ h2
    obtain ⟨L', f1, f2⟩ := row_foot h1 k1 h3 h4
    refine ⟨L', f1, fun b hb => ?_⟩
    rcases f2 with rfl | ⟨g, hg, rfl⟩
    · cases hb
    · rcases List.mem_cons.1 hb with rfl | hb
      · exact List.mem_append_left _ (by simp [hg])
      · exact List.mem_append_right _ (k2 b hb)
theorem ownTs_foot {w : World} : ∀ (ss : List Sh) (xs : List T) {vs : List Value} {L : List Nat}, ownTs w ss xs vs L → ∃ L', footTs w xs vs L' ∧ ∀ b ∈ L', b ∈ L
  | [], [], vs, L, h => by simp only [ownTs] at h; exact ⟨[], by simp only [footTs]; exact ⟨h.1, trivial⟩, by simp⟩
  | s :: ss, x :: xs, vs, L, h => by
    simp only [ownTs] at h
    obtain ⟨v, vs', L1, L2, rfl, rfl, h1, h2⟩ := h
    obtain ⟨M1, f1, g1⟩ := ownT_foot s x h1
    obtain ⟨M2, f2, g2⟩ := ownTs_foot ss xs h2
    exact ⟨M1 ++ M2, by simp only [footTs]; exact ⟨v, vs', M1, M2, rfl, rfl, f1, f2⟩, fun b hb => (List.mem_append.1 hb).elim (fun h => List.mem_append_left _ (g1 b h)) (fun h => List.mem_append_right _ (g2 b h))⟩
  | [], _ :: _, _, _, h => by simp only [ownTs] at h
  | _ :: _, [], _, _, h => by simp only [ownTs] at h
theorem ownEs_foot {w : World} : ∀ (s : Sh) (xs : List T) {vs : List Value} {L : List Nat}, ownEs w s xs vs L → ∃ L', footTs w xs vs L' ∧ ∀ b ∈ L', b ∈ L
  | _, [], vs, L, h => by simp only [ownEs] at h; exact ⟨[], by simp only [footTs]; exact ⟨h.1, trivial⟩, by simp⟩
  | s, x :: xs, vs, L, h => by
    simp only [ownEs] at h
    obtain ⟨v, vs', L1, L2, rfl, rfl, h1, h2⟩ := h
    obtain ⟨M1, f1, g1⟩ := ownT_foot s x h1
    obtain ⟨M2, f2, g2⟩ := ownEs_foot s xs h2
    exact ⟨M1 ++ M2, by simp only [footTs]; exact ⟨v, vs', M1, M2, rfl, rfl, f1, f2⟩, fun b hb => (List.mem_append.1 hb).elim (fun h => List.mem_append_left _ (g1 b h)) (fun h => List.mem_append_right _ (g2 b h))⟩
end

theorem ownEs_length {w : World} {s : Sh} {xs : List T} {vs : List Value} {L : List Nat} (h : ownEs w s xs vs L) : vs.length = xs.length := by
  obtain ⟨L', h1, _⟩ := ownEs_foot s xs h
  exact footTs_length h1

theorem elsR_length {hv : Hv} {S : Nat → Prop} {w : World} {Fi : List Nat} {k : Kind} {es : List T} {vs : List Value} (h : elsR hv S w Fi k es vs) : vs.length = es.length := by
  cases k <;> obtain ⟨L, h1, _⟩ := h
  · exact ownEs_length h1
  · exact footTs_length h1
  · exact footTs_length h1

theorem ownEs_append {w : World} {s : Sh} : ∀ {xs ys : List T} {vs us : List Value} {L M : List Nat}, ownEs w s xs vs L → ownEs w s ys us M → ownEs w s (xs ++ ys) (vs ++ us) (L ++ M)
  | [], _, _, _, _, _, h, k => by simp only [ownEs] at h; obtain ⟨rfl, rfl⟩ := h; simpa using k
  | x :: xs, ys, vs, us, L, M, h, k => by
    simp only [ownEs] at h
    obtain ⟨v, vs', L1, L2, rfl, rfl, h1, h2⟩ := h
    simp only [List.cons_append, ownEs]
    exact ⟨v, vs' ++ us, L1, L2 ++ M, rfl, by simp [List.append_assoc], h1, ownEs_append h2 k⟩

theorem ownEs_split {w : World} {s : Sh} : ∀ {xs ys : List T} {vs : List Value} {L : List Nat}, ownEs w s (xs ++ ys) vs L →
    ∃ vs1 vs2 L1 L2, vs = vs1 ++ vs2 ∧ L = L1 ++ L2 ∧ ownEs w s xs vs1 L1 ∧ ownEs w s ys vs2 L2
  | [], ys, vs, L, h => ⟨[], vs, [], L, rfl, rfl, by simp [ownEs], by simpa using h⟩
  | x :: xs, ys, vs, L, h => by
    simp only [List.cons_append, ownEs] at h
    obtain ⟨v, vs', L1, L2, rfl, rfl, h1, h2⟩ := h
    obtain ⟨a1, a2, M1, M2, rfl, rfl, k1, k2⟩ := ownEs_split h2
    exact ⟨v :: a1, a2, L1 ++ M1, M2, rfl, by simp [List.append_assoc], by simp only [ownEs]; exact ⟨v, a1, L1, M1, rfl, rfl, h1, k1⟩, k2⟩

/-! ### the objects in a later world -/

theorem elsR.mono {hv hv' : Hv} {S S' : Nat → Prop} {w w' : World} {Fi : List Nat} {k : Kind} {es : List T} {vs : List Value} (h : elsR hv S w Fi k es vs)
    (hS : ∀ b, S b → S' b ∧ w'.heap[b]? = w.heap[b]?) (hB : ∀ b, hv.B b → hv'.B b ∧ w'.heap[b]? = w.heap[b]?) (hF : k.isOwn = true → ∀ b ∈ Fi, w'.heap[b]? = w.heap[b]?) : elsR hv' S' w' Fi k es vs := by
  cases k with
  | own s =>
    obtain ⟨L, h1, h2, h3⟩ := h
    exact ⟨L, ownEs_mono s es vs L (fun b hb => hF rfl b (h3 b hb)) h1, h2, h3⟩
  | clo =>
    obtain ⟨L, h1, h2⟩ := h
    exact ⟨L, footTs_mono es vs L (fun b hb => (hS b (h2 b hb)).2) h1, fun b hb => (hS b (h2 b hb)).1⟩
  | bor =>
    obtain ⟨L, h1, h2⟩ := h
    exact ⟨L, footTs_mono es vs L (fun b hb => (hB b (h2 b hb)).2) h1, fun b hb => (hB b (h2 b hb)).1⟩

theorem Ents.mono {w w' : World} {h : Value} {ks : List T} {r : Nat} {es : Array MapEntry} {clock : Nat} {l : List MapEntry} (he : Ents w h ks r es clock l) (hb : w'.heap[r]? = w.heap[r]?) : Ents w' h ks r es clock l :=
  ⟨he.val, hb.trans he.heap, he.perm, he.born, he.lt, (flats_foot ks he.flat he.keys).2 w', he.flat, he.nodup, he.small, he.ones⟩

/-- an object reads as it did where neither its root nor what it is allowed to read has turned -/
theorem ObR.mono {hv hv' : Hv} {S S' : Nat → Prop} {w w' : World} {Fi : List Nat} {h : Value} {o : Ob} {n : Nat} (hr : ObR hv S w Fi h o)
    (hu : o.under n = true) (he : ∀ i, i < n → hv' i = hv i) (hS : ∀ b, S b → S' b ∧ w'.heap[b]? = w.heap[b]?) (hB : ∀ b, hv.B b → hv'.B b ∧ w'.heap[b]? = w.heap[b]?) (hF : o.owns = true → ∀ b ∈ Fi, w'.heap[b]? = w.heap[b]?)
    (hb : ∀ b, blkOf h = some b → w'.heap[b]? = w.heap[b]?) : ObR hv' S' w' Fi h o := by
  cases o with
  | dead => trivial
  | box x =>
    obtain ⟨b, e, u, L, h1, h2, h3, h4⟩ := hr
    exact ⟨b, e, u, L, h1, (hb b (by rw [h1]; rfl)).trans h2, footA_hv (fun b hb => (hB b hb).1) he x u L hu (footA_mono (fun b hb => (hB b hb).2) x u L (fun b' hb' => (hS b' (h4 b' hb')).2) h3), fun b' hb' => (hS b' (h4 b' hb')).1⟩
  | arr e m k es =>
    obtain ⟨vs, h1, h2, h3, h4⟩ := hr
    exact ⟨vs, ownsRow_block h1 hb, h2.mono hS hB (fun hk => hF (by cases k <;> first | rfl | cases hk)), h3, h4⟩
  | hole e m s es i j id =>
    obtain ⟨vs, v, y, L0, e1, m1, s1, h1, h2, h3, h4, h5, h6, h7, h8, h9, h10⟩ := hr
    simp only [Ob.under, decide_eq_true_eq] at hu
    have hF' := hF rfl
    exact ⟨vs, v, y, L0, e1, m1, s1, ownsRow_block h1 hb, h2, h3, h4, h5, by rw [he id hu]; exact h6, h7, h8, h9, fun w'' xs Lj ha hx => h10 w'' xs Lj (fun b hb => (ha b hb).trans (hF' b (h9 b hb))) (by rw [← he id hu]; exact hx)⟩
  | map kt vt k ks vs pend =>
    obtain ⟨r, es, clock, l, h1, h2, h3, h4⟩ := hr
    exact ⟨r, es, clock, l, h1.mono (hb r (by rw [h1.val]; rfl)), h2.mono hS hB (fun hk => hF (by cases k <;> first | rfl | cases hk)), h3, h4⟩
  | mhole kt vt s ks vs i id =>
    obtain ⟨r, es, clock, l, L, h1, h2, h3, h4, h5, h6⟩ := hr
    have hF' := hF rfl
    exact ⟨r, es, clock, l, L, h1.mono (hb r (by rw [h1.val]; rfl)), h2, ownEs_mono _ _ _ L (fun b hb => hF' b (h5 b hb)) h3, h4, h5, h6⟩
  | iter c xs =>
    obtain ⟨b, m, es, clock, seen, last, lc, l, L1, L2, h1, h2, h3, h4, h5, h6, h7, h8, h9, h10, h11, h12⟩ := hr
    exact ⟨b, m, es, clock, seen, last, lc, l, L1, L2, h1, (hb b (by rw [h1]; rfl)).trans h2, (hS m h3).1, (hS m h3).2.trans h4, h5, h6, h7, h8, h9, footTs_mono _ _ L1 (fun b hb => (hS b (h12 b (List.mem_append_left _ hb))).2) h10,
      footTs_mono _ _ L2 (fun b hb => (hS b (h12 b (List.mem_append_right _ hb))).2) h11, fun b hb => (hS b (h12 b hb)).1⟩

end Go.Proofs.Ythhgcklidfilfaa.BX
