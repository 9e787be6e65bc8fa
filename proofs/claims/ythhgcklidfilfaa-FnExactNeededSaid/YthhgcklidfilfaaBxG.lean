/-
  A frame for proofs over whole functions, second make, seventh part: open values are closed: as somebody's own, for good, for a while.
-/
import Derived.Test.YthhgcklidfilfaaBxF
namespace Go.Proofs.Ythhgcklidfilfaa.BX
set_option linter.unusedSectionVars false
set_option linter.unusedSimpArgs false
set_option linter.unusedVariables false
open Go Go.RowKit
variable [Bd]

def zeroOf (P : Program) (t : TypeId) : Option Value := (P.info? t).bind (·.zero)

mutual
/-- how a value of the type lies when it is somebody's own -/
def shOf (P : Program) : Nat → TypeId → Sh
  | 0, _ => .leaf
  | n + 1, t => match P.underlying t with
    | some (.slice e) => .sl e (P.cellsOf e) (shOf P n e)
    | some (.struct fs) => .ag (shFs P n (fs.toList.map (·.type)))
    | _ => .leaf
def shFs (P : Program) : Nat → List TypeId → List Sh
  | _, [] => []
  | 0, _ => []
  | n + 1, t :: ts => (match shOf P n t with | .ag ss => ss | s => [s]) ++ shFs P n ts
end

def segA (ys : List AV) (off : Nat) (xs : List AV) : List AV := ys.take off ++ xs ++ ys.drop (off + xs.length)
def segT (ys : List T) (off : Nat) (xs : List T) : List T := ys.take off ++ xs ++ ys.drop (off + xs.length)

def allOne : List AV → Bool
  | [] => true
  | x :: xs => x.one && allOne xs
def T.allOne : List T → Bool
  | [] => true
  | x :: xs => x.one && T.allOne xs

mutual
/-- closed for good, by giving up what the call itself made -/
def AV.take (ob : List Ob) : Nat → AV → Option (T × List Nat)
  | _, .t y => some (y, [])
  | _, .ns => some (.sl [], [])
  | n, .ag cs => match takes ob n cs with
    | some (ys, ids) => some (.ag ys, ids)
    | none => none
  | n, .tp cs => match takes ob n cs with
    | some (ys, ids) => some (.tp ys, ids)
    | none => none
  | n, .fn f cs => match takes ob n cs with
    | some (ys, ids) => some (.fn f ys, ids)
    | none => none
  | _, .sr id => match ob[id]? with
    | some (.arr _ _ .bor _) => none
    | some (.arr _ _ _ es) => some (.sl es, [id])
    | _ => none
  | _, .mr id => match ob[id]? with
    | some (.map _ _ .bor _ _ _) => none
    | some (.map _ _ _ ks vs _) => some (.mp ks vs, [id])
    | _ => none
  | n + 1, .rf id off => match ob[id]? with
    | some (.box x) => match x.take ob n with
      | some (y, ids) => some (.po y off, id :: ids)
      | none => none
    | _ => none
  | _, _ => none
def takes (ob : List Ob) : Nat → List AV → Option (List T × List Nat)
  | _, [] => some ([], [])
  | n, x :: xs => match x.take ob n, takes ob n xs with
    | some (y, i), some (ys, i') => some (y :: ys, i ++ i')
    | _, _ => none
end

mutual
/-- plain data of this shape -/
def fits : Sh → T → Bool
  | .leaf, x => x.flat
  | .ag ss, .ag xs => fitss ss xs
  | _, _ => false
def fitss : List Sh → List T → Bool
  | [], [] => true
  | s :: ss, x :: xs => fits s x && fitss ss xs
  | _, _ => false
end
def fitsAll (s : Sh) : List T → Bool
  | [] => true
  | x :: xs => fits s x && fitsAll s xs

open Classical in
mutual
/-- closed as somebody's own -/
noncomputable def AV.own (ob : List Ob) : Sh → AV → Option (T × List Nat)
  | s, .t x => if fits s x = true then some (x, []) else none
  | .ag ss, .ag cs => match ownsL ob ss cs with
    | some (ys, ids) => some (.ag ys, ids)
    | none => none
  | .sl _ _ _, .ns => some (.sl [], [])
  | .sl e m s, .sr id => match ob[id]? with
    | some (.arr e' m' (.own s') es) => if e' = e ∧ m' = m ∧ s' = s then some (.sl es, [id]) else none
    | _ => none
  | _, _ => none
noncomputable def ownsL (ob : List Ob) : List Sh → List AV → Option (List T × List Nat)
  | [], [] => some ([], [])
  | s :: ss, x :: xs => match x.own ob s, ownsL ob ss xs with
    | some (y, i), some (ys, i') => some (y :: ys, i ++ i')
    | _, _ => none
  | _, _ => none
end
noncomputable def ownsA (ob : List Ob) (s : Sh) : List AV → Option (List T × List Nat)
  | [] => some ([], [])
  | x :: xs => match x.own ob s, ownsA ob s xs with
    | some (y, i), some (ys, i') => some (y :: ys, i ++ i')
    | _, _ => none

mutual
/-- closed for a while -/
def AV.shutB : AV → Option T
  | .t x => some x
  | .bw x => some x
  | .ns => some (.sl [])
  | .ag cs => (shutBs cs).map T.ag
  | .tp cs => (shutBs cs).map T.tp
  | _ => none
def shutBs : List AV → Option (List T)
  | [] => some []
  | x :: xs => match x.shutB with
    | some y => (shutBs xs).map (y :: ·)
    | none => none
end

def nodupB : List Nat → Bool
  | [] => true
  | i :: is => !is.contains i && nodupB is

theorem nodupB_spec : ∀ {l : List Nat}, nodupB l = true → l.Nodup
  | [], _ => List.nodup_nil
  | i :: is, h => by
    simp only [nodupB, Bool.and_eq_true, Bool.not_eq_true'] at h
    refine List.nodup_cons.2 ⟨fun hh => ?_, nodupB_spec h.2⟩
    rw [List.contains_iff_mem.2 hh] at h
    cases h.1

/-- elements are laid into a row of this kind -/
noncomputable def mix (ob : List Ob) (k : Kind) (xs : List AV) : Option (List T × List Nat × Kind) :=
  match k with
  | .own s => match ownsA ob s xs with
    | some (ys, ids) => some (ys, ids, .own s)
    | none => match takes ob 5 xs with
      | some (ys, ids) => some (ys, ids, .clo)
      | none => match shutBs xs with
        | some ys => some (ys, [], .bor)
        | none => none
  | .clo => match takes ob 5 xs with
    | some (ys, ids) => some (ys, ids, .clo)
    | none => match shutBs xs with
      | some ys => some (ys, [], .bor)
      | none => none
  | .bor => match shutBs xs with
    | some ys => some (ys, [], .bor)
    | none => none

section
variable {P : Program} {Q : Exit → Act → World → Prop} {w0 : Base} {σ : St} {hv : Hv} {S : Nat → Prop} {F : Nat → List Nat} {a : Act} {w : World}
  {K : AV → List Ob → Prop} {next : Value → World → Prop}

theorem ns_foot {v : Value} {L : List Nat} (hf : footA hv w .ns v L) : footT w (.sl []) v [] := by
  simp only [footA] at hf
  simp only [footT]
  have := Bd.lo
  exact ⟨none, 0, by simpa using hf.1, by simp, by simp; omega, .inl ⟨trivial, trivial⟩⟩

mutual
theorem shutB_sound (hS : ∀ b, S b → hv.B b) : ∀ (x : AV) {y : T} {v : Value} {L : List Nat}, x.shutB = some y → footA hv w x v L → (∀ b ∈ L, S b) → ∃ L', footT w y v L' ∧ ∀ b ∈ L', hv.B b
  | .t x, y, v, L, h, hf, hL => by
    simp only [AV.shutB, Option.some.injEq] at h; subst h
    simp only [footA] at hf
    exact ⟨L, hf, fun b hb => hS b (hL b hb)⟩
  | .bw x, y, v, L, h, hf, hL => by
    simp only [AV.shutB, Option.some.injEq] at h; subst h
    simp only [footA] at hf
    exact hf.1
  | .ns, y, v, L, h, hf, hL => by
    simp only [AV.shutB, Option.some.injEq] at h; subst h
    exact ⟨[], ns_foot hf, by simp⟩
  | .ag cs, y, v, L, h, hf, hL => by
    simp only [AV.shutB, Option.map_eq_some_iff] at h
    obtain ⟨ts, h1, rfl⟩ := h
    simp only [footA] at hf
    obtain ⟨vs, rfl, hf⟩ := hf
    obtain ⟨L', k1, k2⟩ := shutBs_sound hS cs h1 hf hL
    exact ⟨L', by simp only [footT]; exact ⟨vs, rfl, k1⟩, k2⟩
  | .tp cs, y, v, L, h, hf, hL => by
    simp only [AV.shutB, Option.map_eq_some_iff] at h
    obtain ⟨ts, h1, rfl⟩ := h
    simp only [footA] at hf
    obtain ⟨vs, rfl, hf⟩ := hf
    obtain ⟨L', k1, k2⟩ := shutBs_sound hS cs h1 hf hL
    exact ⟨L', by simp only [footT]; exact ⟨vs, rfl, k1⟩, k2⟩
  | .un, _, _, _, h, _, _ | .ud, _, _, _, h, _, _ => by simp [AV.shutB] at h
  | .rf _ _, _, _, _, h, _, _ | .sr _, _, _, _, h, _, _ | .mr _, _, _, _, h, _, _ | .it _, _, _, _, h, _, _ | .fn _ _, _, _, _, h, _, _ | .ra _ _ _ _, _, _, _, h, _, _ | .sv _ _ _ _, _, _, _, h, _, _ => by simp [AV.shutB] at h
theorem shutBs_sound (hS : ∀ b, S b → hv.B b) : ∀ (xs : List AV) {ys : List T} {vs : List Value} {L : List Nat}, shutBs xs = some ys → footAs hv w xs vs L → (∀ b ∈ L, S b) → ∃ L', footTs w ys vs L' ∧ ∀ b ∈ L', hv.B b
  | [], ys, vs, L, h, hf, hL => by
    simp only [shutBs, Option.some.injEq] at h; subst h
    simp only [footAs] at hf
    exact ⟨[], by simp only [footTs]; exact ⟨hf.1, trivial⟩, by simp⟩
  | x :: xs, ys, vs, L, h, hf, hL => by
    simp only [shutBs] at h
    split at h
    · rename_i y hy
      simp only [Option.map_eq_some_iff] at h
      obtain ⟨zs, h1, rfl⟩ := h
      simp only [footAs] at hf
      obtain ⟨v, vs', L1, L2, rfl, rfl, f1, f2⟩ := hf
      obtain ⟨M1, k1, k2⟩ := shutB_sound hS x hy f1 (fun b hb => hL b (List.mem_append_left _ hb))
      obtain ⟨M2, k3, k4⟩ := shutBs_sound hS xs h1 f2 (fun b hb => hL b (List.mem_append_right _ hb))
      exact ⟨M1 ++ M2, by simp only [footTs]; exact ⟨v, vs', M1, M2, rfl, rfl, k1, k3⟩, fun b hb => (List.mem_append.1 hb).elim (k2 b) (k4 b)⟩
    · cases h
end

/-- where a footprint that is closed for good comes from -/
def From (σ : St) (hv : Hv) (S : Nat → Prop) (F : Nat → List Nat) (ids : List Nat) (b : Nat) : Prop :=
  S b ∨ ∃ i ∈ ids, ∃ o, σ.ob[i]? = some o ∧ o ≠ .dead ∧ (blkOf (hv i) = some b ∨ (o.owns = true ∧ b ∈ F i))

theorem From.left {ids ids' : List Nat} {b : Nat} (h : From σ hv S F ids b) : From σ hv S F (ids ++ ids') b := h.imp (fun h => h) fun ⟨i, hi, q⟩ => ⟨i, List.mem_append_left _ hi, q⟩
theorem From.right {ids ids' : List Nat} {b : Nat} (h : From σ hv S F ids' b) : From σ hv S F (ids ++ ids') b := h.imp (fun h => h) fun ⟨i, hi, q⟩ => ⟨i, List.mem_append_right _ hi, q⟩

theorem els_from {k : Kind} {Fi : List Nat} {es : List T} {vs : List Value} (h : elsR hv S w Fi k es vs) (hk : k ≠ .bor) : ∃ L, footTs w es vs L ∧ ∀ b ∈ L, S b ∨ (k.isOwn = true ∧ b ∈ Fi) := by
  cases k with
  | own s =>
    obtain ⟨L, h1, h2, h3⟩ := h
    obtain ⟨L', k1, k2⟩ := ownEs_foot s es h1
    exact ⟨L', k1, fun b hb => .inr ⟨rfl, h3 b (k2 b hb)⟩⟩
  | clo =>
    obtain ⟨L, h1, h2⟩ := h
    exact ⟨L, h1, fun b hb => .inl (h2 b hb)⟩
  | bor => exact absurd rfl hk

mutual
theorem take_sound (hr : Rel w0 σ hv S F a w) : ∀ (n : Nat) (x : AV) {y : T} {ids : List Nat} {v : Value} {L : List Nat}, x.take σ.ob n = some (y, ids) → footA hv w x v L → (∀ b ∈ L, S b) →
    ∃ L', footT w y v L' ∧ ∀ b ∈ L', From σ hv S F ids b
  | n, .t x, y, ids, v, L, h, hf, hL => by
    simp only [AV.take, Option.some.injEq, Prod.mk.injEq] at h
    obtain ⟨rfl, rfl⟩ := h
    simp only [footA] at hf
    exact ⟨L, hf, fun b hb => .inl (hL b hb)⟩
  | n, .ns, y, ids, v, L, h, hf, hL => by
    simp only [AV.take, Option.some.injEq, Prod.mk.injEq] at h
    obtain ⟨rfl, rfl⟩ := h
    exact ⟨[], ns_foot hf, by simp⟩
  | n, .sr id, y, ids, v, L, h, hf, hL => by
    simp only [AV.take] at h
    split at h
    · cases h
    · rename_i e m k es hk hid
      simp only [Option.some.injEq, Prod.mk.injEq] at h
      obtain ⟨rfl, rfl⟩ := h
      simp only [footA] at hf
      obtain ⟨rfl, _⟩ := hf
      obtain ⟨vs, k1, k2, k3, k4⟩ := hr.ob id _ hid
      obtain ⟨L1, g1, g2⟩ := els_from k2 (fun e => hk e)
      obtain ⟨L', f1, f2⟩ := row_foot k1 g1 k3 k4
      refine ⟨L', f1, fun b hb => ?_⟩
      rcases f2 with rfl | ⟨g, hg, rfl⟩
      · cases hb
      · rcases List.mem_cons.1 hb with rfl | hb
        · exact .inr ⟨id, by simp, _, hid, by simp, .inl hg⟩
        · rcases g2 b hb with h | ⟨h1, h2⟩
          · exact .inl h
          · exact .inr ⟨id, by simp, _, hid, by simp, .inr ⟨(by cases k <;> first | rfl | cases h1), h2⟩⟩
    · cases h
  | n, .mr id, y, ids, v, L, h, hf, hL => by
    simp only [AV.take] at h
    split at h
    · cases h
    · rename_i kt vt k ks vs p hk hid
      simp only [Option.some.injEq, Prod.mk.injEq] at h
      obtain ⟨rfl, rfl⟩ := h
      simp only [footA] at hf
      obtain ⟨rfl, _⟩ := hf
      obtain ⟨r, es, clock, l, k1, k2, k3, k4⟩ := hr.ob id _ hid
      obtain ⟨L1, g1, g2⟩ := els_from k2 (fun e => hk e)
      refine ⟨r :: ([] ++ L1), ?_, fun b hb => ?_⟩
      · simp only [footT]
        exact ⟨r, es, clock, l, [], L1, k1.val, k1.heap, ⟨k1.perm, k1.born, k1.lt, k1.nodup, k1.small⟩, k1.keys, g1, rfl⟩
      · rcases List.mem_cons.1 hb with rfl | hb
        · exact .inr ⟨id, by simp, _, hid, by simp, .inl (by rw [k1.val]; rfl)⟩
        · rcases g2 b (by simpa using hb) with h | ⟨h1, h2⟩
          · exact .inl h
          · exact .inr ⟨id, by simp, _, hid, by simp, .inr ⟨(by cases k <;> first | rfl | cases h1), h2⟩⟩
    · cases h
  | n, .ag cs, y, ids, v, L, h, hf, hL => by
    simp only [AV.take] at h
    split at h
    · rename_i ys is hcs
      simp only [Option.some.injEq, Prod.mk.injEq] at h
      obtain ⟨rfl, rfl⟩ := h
      simp only [footA] at hf
      obtain ⟨vs, rfl, hf⟩ := hf
      obtain ⟨L', f1, f2⟩ := takes_sound hr n cs hcs hf hL
      exact ⟨L', by simp only [footT]; exact ⟨vs, rfl, f1⟩, f2⟩
    · cases h
  | n, .tp cs, y, ids, v, L, h, hf, hL => by
    simp only [AV.take] at h
    split at h
    · rename_i ys is hcs
      simp only [Option.some.injEq, Prod.mk.injEq] at h
      obtain ⟨rfl, rfl⟩ := h
      simp only [footA] at hf
      obtain ⟨vs, rfl, hf⟩ := hf
      obtain ⟨L', f1, f2⟩ := takes_sound hr n cs hcs hf hL
      exact ⟨L', by simp only [footT]; exact ⟨vs, rfl, f1⟩, f2⟩
    · cases h
  | n, .fn f cs, y, ids, v, L, h, hf, hL => by
    simp only [AV.take] at h
    split at h
    · rename_i ys is hcs
      simp only [Option.some.injEq, Prod.mk.injEq] at h
      obtain ⟨rfl, rfl⟩ := h
      simp only [footA] at hf
      obtain ⟨vs, rfl, hf⟩ := hf
      obtain ⟨L', f1, f2⟩ := takes_sound hr n cs hcs hf hL
      exact ⟨L', by simp only [footT]; exact ⟨vs, rfl, f1⟩, f2⟩
    · cases h
  | n + 1, .rf id off, y, ids, v, L, h, hf, hL => by
    simp only [AV.take] at h
    split at h
    · rename_i x hid
      split at h
      · rename_i z is hx
        simp only [Option.some.injEq, Prod.mk.injEq] at h
        obtain ⟨rfl, rfl⟩ := h
        simp only [footA] at hf
        obtain ⟨b, e1, rfl, _⟩ := hf
        obtain ⟨b', te, u, L1, k1, k2, k3, k4⟩ := hr.ob id _ hid
        rw [e1] at k1
        cases k1
        obtain ⟨L', f1, f2⟩ := take_sound hr n x hx k3 k4
        refine ⟨b :: L', by simp only [footT]; exact ⟨b, 0, u, L', by rw [Nat.zero_add], f1, rfl, laid_of_heap k2⟩, fun b' hb' => ?_⟩
        rcases List.mem_cons.1 hb' with rfl | hb'
        · exact .inr ⟨id, by simp, _, hid, by simp, .inl (by rw [e1]; rfl)⟩
        · exact (f2 b' hb').imp (fun h => h) fun ⟨i, hi, q⟩ => ⟨i, List.mem_cons_of_mem _ hi, q⟩
      · cases h
    · cases h
  | 0, .rf _ _, _, _, _, _, h, _, _ => by simp [AV.take] at h
  | _, .un, _, _, _, _, h, _, _ | _, .ud, _, _, _, _, h, _, _ | _, .bw _, _, _, _, _, h, _, _ | _, .it _, _, _, _, _, h, _, _ | _, .ra _ _ _ _, _, _, _, _, h, _, _ | _, .sv _ _ _ _, _, _, _, _, h, _, _ => by simp [AV.take] at h
theorem takes_sound (hr : Rel w0 σ hv S F a w) : ∀ (n : Nat) (xs : List AV) {ys : List T} {ids : List Nat} {vs : List Value} {L : List Nat}, takes σ.ob n xs = some (ys, ids) → footAs hv w xs vs L → (∀ b ∈ L, S b) →
    ∃ L', footTs w ys vs L' ∧ ∀ b ∈ L', From σ hv S F ids b
  | n, [], ys, ids, vs, L, h, hf, hL => by
    simp only [takes, Option.some.injEq, Prod.mk.injEq] at h
    obtain ⟨rfl, rfl⟩ := h
    simp only [footAs] at hf
    exact ⟨[], by simp only [footTs]; exact ⟨hf.1, trivial⟩, by simp⟩
  | n, x :: xs, ys, ids, vs, L, h, hf, hL => by
    simp only [takes] at h
    split at h
    · rename_i y i ys' i' h1 h2
      simp only [Option.some.injEq, Prod.mk.injEq] at h
      obtain ⟨rfl, rfl⟩ := h
      simp only [footAs] at hf
      obtain ⟨v, vs', L1, L2, rfl, rfl, f1, f2⟩ := hf
      obtain ⟨M1, g1, t1⟩ := take_sound hr n x h1 f1 (fun b hb => hL b (List.mem_append_left _ hb))
      obtain ⟨M2, g2, t2⟩ := takes_sound hr n xs h2 f2 (fun b hb => hL b (List.mem_append_right _ hb))
      exact ⟨M1 ++ M2, by simp only [footTs]; exact ⟨v, vs', M1, M2, rfl, rfl, g1, g2⟩, fun b hb => (List.mem_append.1 hb).elim (fun h => (t1 b h).left) (fun h => (t2 b h).right)⟩
    · cases h
end

/-- where a footprint that becomes somebody's own comes from -/
def Mine (σ : St) (hv : Hv) (F : Nat → List Nat) (ids : List Nat) (b : Nat) : Prop :=
  ∃ i ∈ ids, ∃ o, σ.ob[i]? = some o ∧ o.owns = true ∧ (blkOf (hv i) = some b ∨ b ∈ F i)

theorem Mine.left {ids ids' : List Nat} {b : Nat} (h : Mine σ hv F ids b) : Mine σ hv F (ids ++ ids') b := let ⟨i, hi, q⟩ := h; ⟨i, List.mem_append_left _ hi, q⟩
theorem Mine.right {ids ids' : List Nat} {b : Nat} (h : Mine σ hv F ids' b) : Mine σ hv F (ids ++ ids') b := let ⟨i, hi, q⟩ := h; ⟨i, List.mem_append_right _ hi, q⟩

theorem owns_ne_dead {o : Ob} (h : o.owns = true) : o ≠ .dead := by rintro rfl; cases h

theorem Mine.apart (hr : Rel w0 σ hv S F a w) {ids ids' : List Nat} (hn : ∀ i ∈ ids, ∀ j ∈ ids', i ≠ j) {b : Nat} (h1 : Mine σ hv F ids b) (h2 : Mine σ hv F ids' b) : False := by
  obtain ⟨i, hi, oi, q1, q2, q3⟩ := h1
  obtain ⟨j, hj, oj, q4, q5, q6⟩ := h2
  have hne := hn i hi j hj
  rcases q3 with q3 | q3 <;> rcases q6 with q6 | q6
  · exact hr.sep i j oi oj hne q1 q4 (owns_ne_dead q2) (owns_ne_dead q5) b q3 q6
  · exact (hr.root i oi q1 (owns_ne_dead q2) b q3).2.2 (hr.fown j oj q4 q5 b q6).2.1
  · exact (hr.root j oj q4 (owns_ne_dead q5) b q6).2.2 (hr.fown i oi q1 q2 b q3).2.1
  · exact hr.fsep i j oi oj hne q1 q4 q2 q5 b q3 q6

mutual
theorem fits_own : ∀ (s : Sh) (x : T) {v : Value} {L : List Nat}, fits s x = true → footT w x v L → ownT w s x v []
  | .leaf, x, v, L, h, hf => by
    simp only [fits] at h
    simp only [ownT]
    exact ⟨h, (flat_foot x h hf).2 w, trivial⟩
  | .ag ss, .ag xs, v, L, h, hf => by
    simp only [fits] at h
    simp only [footT] at hf
    obtain ⟨vs, rfl, hf⟩ := hf
    simp only [ownT]
    exact ⟨vs, rfl, fitss_own ss xs h hf⟩
  | .sl _ _ _, x, _, _, h, _ => by simp [fits] at h
  | .ag ss, .b _, _, _, h, _ | .ag ss, .i _ _, _, _, h, _ | .ag ss, .s _, _, _, h, _ | .ag ss, .tp _, _, _, h, _ | .ag ss, .sl _, _, _, h, _ | .ag ss, .po _ _, _, _, h, _ | .ag ss, .np, _, _, h, _ | .ag ss, .nm, _, _, h, _ | .ag ss, .ni, _, _, h, _ | .ag ss, .ifc _ _, _, _, h, _ | .ag ss, .mp _ _, _, _, h, _ | .ag ss, .fn _ _, _, _, h, _ => by simp [fits] at h
theorem fitss_own : ∀ (ss : List Sh) (xs : List T) {vs : List Value} {L : List Nat}, fitss ss xs = true → footTs w xs vs L → ownTs w ss xs vs []
  | [], [], vs, L, h, hf => by simp only [footTs] at hf; simp only [ownTs]; exact ⟨hf.1, trivial⟩
  | s :: ss, x :: xs, vs, L, h, hf => by
    simp only [fitss, Bool.and_eq_true] at h
    simp only [footTs] at hf
    obtain ⟨v, vs', L1, L2, rfl, rfl, h1, h2⟩ := hf
    simp only [ownTs]
    exact ⟨v, vs', [], [], rfl, rfl, fits_own s x h.1 h1, fitss_own ss xs h.2 h2⟩
  | [], _ :: _, _, _, h, _ => by simp [fitss] at h
  | _ :: _, [], _, _, h, _ => by simp [fitss] at h
end

theorem fitsAll_own {s : Sh} : ∀ {xs : List T} {vs : List Value} {L : List Nat}, fitsAll s xs = true → footTs w xs vs L → ownEs w s xs vs []
  | [], vs, L, h, hf => by simp only [footTs] at hf; simp only [ownEs]; exact ⟨hf.1, trivial⟩
  | x :: xs, vs, L, h, hf => by
    simp only [fitsAll, Bool.and_eq_true] at h
    simp only [footTs] at hf
    obtain ⟨v, vs', L1, L2, rfl, rfl, h1, h2⟩ := hf
    simp only [ownEs]
    exact ⟨v, vs', [], [], rfl, rfl, fits_own s x h.1 h1, fitsAll_own h.2 h2⟩

mutual
theorem own_sound (hr : Rel w0 σ hv S F a w) : ∀ (s : Sh) (x : AV) {y : T} {ids : List Nat} {v : Value} {L : List Nat}, x.own σ.ob s = some (y, ids) → footA hv w x v L → ids.Nodup →
    ∃ L', ownT w s y v L' ∧ L'.Nodup ∧ ∀ b ∈ L', Mine σ hv F ids b
  | s, .t x, y, ids, v, L, h, hf, _ => by
    rw [AV.own] at h
    split at h
    · rename_i hfit
      simp only [Option.some.injEq, Prod.mk.injEq] at h
      obtain ⟨rfl, rfl⟩ := h
      simp only [footA] at hf
      exact ⟨[], fits_own s x hfit hf, by simp, by simp⟩
    · cases h
  | .ag ss, .ag cs, y, ids, v, L, h, hf, hn => by
    simp only [AV.own] at h
    split at h
    · rename_i ys is hcs
      simp only [Option.some.injEq, Prod.mk.injEq] at h
      obtain ⟨rfl, rfl⟩ := h
      simp only [footA] at hf
      obtain ⟨vs, rfl, hf⟩ := hf
      obtain ⟨L', f1, f2, f3⟩ := ownsL_sound hr ss cs hcs hf hn
      exact ⟨L', by simp only [ownT]; exact ⟨vs, rfl, f1⟩, f2, f3⟩
    · cases h
  | .sl e m s, .ns, y, ids, v, L, h, hf, _ => by
    simp only [AV.own, Option.some.injEq, Prod.mk.injEq] at h
    obtain ⟨rfl, rfl⟩ := h
    simp only [footA] at hf
    have := Bd.lo
    refine ⟨[], ?_, by simp, by simp⟩
    simp only [ownT, ownEs]
    exact ⟨[], [], by rw [hf.1]; exact World.ownsRow_nil w 0 e m, ⟨rfl, rfl⟩, by simp, ⟨by simp; omega, by simp [ones, cellsL]⟩, by rw [hf.1]; rfl⟩
  | .sl e m s, .sr id, y, ids, v, L, h, hf, _ => by
    simp only [AV.own] at h
    split at h
    · rename_i e' m' s' es hid
      split at h
      · rename_i hc
        obtain ⟨rfl, rfl, rfl⟩ := hc
        simp only [Option.some.injEq, Prod.mk.injEq] at h
        obtain ⟨rfl, rfl⟩ := h
        simp only [footA] at hf
        obtain ⟨rfl, _⟩ := hf
        obtain ⟨vs, k1, ⟨L1, g1, g2, g3⟩, k3, k4⟩ := hr.ob id _ hid
        refine ⟨(blkOf (hv id)).toList ++ L1, by simp only [ownT]; exact ⟨vs, L1, k1, g1, k3, k4, rfl⟩, ?_, fun b hb => ⟨id, by simp, _, hid, rfl, ?_⟩⟩
        · refine List.nodup_append.2 ⟨by cases blkOf (hv id) <;> simp, g2, fun b hb b' hb' e => ?_⟩
          subst e
          simp only [Option.mem_toList] at hb
          exact (hr.root id _ hid (by simp) b hb).2.2 (hr.fown id _ hid rfl b (g3 b hb')).2.1
        · rcases List.mem_append.1 hb with hb | hb
          · exact .inl (by simpa using hb)
          · exact .inr (g3 b hb)
      · cases h
    · cases h
  | .leaf, .un, _, _, _, _, h, _, _ | .leaf, .ud, _, _, _, _, h, _, _ | .leaf, .ns, _, _, _, _, h, _, _ | .leaf, .bw _, _, _, _, _, h, _, _ | .leaf, .ag _, _, _, _, _, h, _, _ | .leaf, .tp _, _, _, _, _, h, _, _ | .leaf, .rf _ _, _, _, _, _, h, _, _ | .leaf, .ra _ _ _ _, _, _, _, _, h, _, _ | .leaf, .sv _ _ _ _, _, _, _, _, h, _, _ | .leaf, .sr _, _, _, _, _, h, _, _ | .leaf, .mr _, _, _, _, _, h, _, _ | .leaf, .it _, _, _, _, _, h, _, _ | .leaf, .fn _ _, _, _, _, _, h, _, _ => by simp [AV.own] at h
  | .ag _, .un, _, _, _, _, h, _, _ | .ag _, .ud, _, _, _, _, h, _, _ | .ag _, .ns, _, _, _, _, h, _, _ | .ag _, .bw _, _, _, _, _, h, _, _ | .ag _, .tp _, _, _, _, _, h, _, _ | .ag _, .rf _ _, _, _, _, _, h, _, _ | .ag _, .ra _ _ _ _, _, _, _, _, h, _, _ | .ag _, .sv _ _ _ _, _, _, _, _, h, _, _ | .ag _, .sr _, _, _, _, _, h, _, _ | .ag _, .mr _, _, _, _, _, h, _, _ | .ag _, .it _, _, _, _, _, h, _, _ | .ag _, .fn _ _, _, _, _, _, h, _, _ => by simp [AV.own] at h
  | .sl _ _ _, .un, _, _, _, _, h, _, _ | .sl _ _ _, .ud, _, _, _, _, h, _, _ | .sl _ _ _, .bw _, _, _, _, _, h, _, _ | .sl _ _ _, .ag _, _, _, _, _, h, _, _ | .sl _ _ _, .tp _, _, _, _, _, h, _, _ | .sl _ _ _, .rf _ _, _, _, _, _, h, _, _ | .sl _ _ _, .ra _ _ _ _, _, _, _, _, h, _, _ | .sl _ _ _, .sv _ _ _ _, _, _, _, _, h, _, _ | .sl _ _ _, .mr _, _, _, _, _, h, _, _ | .sl _ _ _, .it _, _, _, _, _, h, _, _ | .sl _ _ _, .fn _ _, _, _, _, _, h, _, _ => by simp [AV.own] at h
theorem ownsL_sound (hr : Rel w0 σ hv S F a w) : ∀ (ss : List Sh) (xs : List AV) {ys : List T} {ids : List Nat} {vs : List Value} {L : List Nat}, ownsL σ.ob ss xs = some (ys, ids) → footAs hv w xs vs L → ids.Nodup →
    ∃ L', ownTs w ss ys vs L' ∧ L'.Nodup ∧ ∀ b ∈ L', Mine σ hv F ids b
  | [], [], ys, ids, vs, L, h, hf, _ => by
    simp only [ownsL, Option.some.injEq, Prod.mk.injEq] at h
    obtain ⟨rfl, rfl⟩ := h
    simp only [footAs] at hf
    exact ⟨[], by simp only [ownTs]; exact ⟨hf.1, trivial⟩, by simp, by simp⟩
  | s :: ss, x :: xs, ys, ids, vs, L, h, hf, hn => by
    simp only [ownsL] at h
    split at h
    · rename_i y i ys' i' h1 h2
      simp only [Option.some.injEq, Prod.mk.injEq] at h
      obtain ⟨rfl, rfl⟩ := h
      simp only [footAs] at hf
      obtain ⟨v, vs', L1, L2, rfl, rfl, f1, f2⟩ := hf
      obtain ⟨hn1, hn2, hn3⟩ := List.nodup_append.1 hn
      obtain ⟨M1, g1, n1, t1⟩ := own_sound hr s x h1 f1 hn1
      obtain ⟨M2, g2, n2, t2⟩ := ownsL_sound hr ss xs h2 f2 hn2
      refine ⟨M1 ++ M2, by simp only [ownTs]; exact ⟨v, vs', M1, M2, rfl, rfl, g1, g2⟩, List.nodup_append.2 ⟨n1, n2, fun b hb b' hb' e => ?_⟩, fun b hb => (List.mem_append.1 hb).elim (fun h => (t1 b h).left) (fun h => (t2 b h).right)⟩
      subst e
      exact Mine.apart hr hn3 (t1 b hb) (t2 b hb')
    · cases h
  | [], _ :: _, _, _, _, _, h, _, _ => by simp [ownsL] at h
  | _ :: _, [], _, _, _, _, h, _, _ => by simp [ownsL] at h
end

theorem ownsA_sound (hr : Rel w0 σ hv S F a w) (s : Sh) : ∀ (xs : List AV) {ys : List T} {ids : List Nat} {vs : List Value} {L : List Nat}, ownsA σ.ob s xs = some (ys, ids) → footAs hv w xs vs L → ids.Nodup →
    ∃ L', ownEs w s ys vs L' ∧ L'.Nodup ∧ ∀ b ∈ L', Mine σ hv F ids b
  | [], ys, ids, vs, L, h, hf, _ => by
    simp only [ownsA, Option.some.injEq, Prod.mk.injEq] at h
    obtain ⟨rfl, rfl⟩ := h
    simp only [footAs] at hf
    exact ⟨[], by simp only [ownEs]; exact ⟨hf.1, trivial⟩, by simp, by simp⟩
  | x :: xs, ys, ids, vs, L, h, hf, hn => by
    simp only [ownsA] at h
    split at h
    · rename_i y i ys' i' h1 h2
      simp only [Option.some.injEq, Prod.mk.injEq] at h
      obtain ⟨rfl, rfl⟩ := h
      simp only [footAs] at hf
      obtain ⟨v, vs', L1, L2, rfl, rfl, f1, f2⟩ := hf
      obtain ⟨hn1, hn2, hn3⟩ := List.nodup_append.1 hn
      obtain ⟨M1, g1, n1, t1⟩ := own_sound hr s x h1 f1 hn1
      obtain ⟨M2, g2, n2, t2⟩ := ownsA_sound hr s xs h2 f2 hn2
      refine ⟨M1 ++ M2, by simp only [ownEs]; exact ⟨v, vs', M1, M2, rfl, rfl, g1, g2⟩, List.nodup_append.2 ⟨n1, n2, fun b hb b' hb' e => ?_⟩, fun b hb => (List.mem_append.1 hb).elim (fun h => (t1 b h).left) (fun h => (t2 b h).right)⟩
      subst e
      exact Mine.apart hr hn3 (t1 b hb) (t2 b hb')
    · cases h

/-- blocks that nobody else has -/
def Free (w0 : Base) (ob : List Ob) (hv : Hv) (S : Nat → Prop) (F : Nat → List Nat) (Fi : List Nat) : Prop :=
  ∀ b ∈ Fi, (w0.M b ∨ w0.heap.size ≤ b) ∧ hv.B b ∧ ¬ S b ∧ ∀ (j : Nat) oj, ob[j]? = some oj → oj.owns = true → b ∉ F j

/-- elements are closed for a row of a kind: what is given up is given up, and the elements lie as the kind says -/
theorem mix_sound (hr : Rel w0 σ hv S F a w) {k k' : Kind} {xs : List AV} {ys : List T} {ids : List Nat} {vs : List Value} {L : List Nat} (h : mix σ.ob k xs = some (ys, ids, k')) (hn : ids.Nodup) (hf : footAs hv w xs vs L) (hL : ∀ b ∈ L, S b) :
    ∃ (hv1 : Hv) (S1 : Nat → Prop), hv1.v = hv.v ∧ (∀ b, hv.B b → hv1.B b) ∧ (∀ b, S b → S1 b) ∧ Rel w0 { σ with ob := BX.killAll ids σ.ob } hv1 S1 F a w ∧
      ∃ Fi, elsR hv1 S1 w Fi k' ys vs ∧ (k'.isOwn = true → k' = k ∧ Free w0 (BX.killAll ids σ.ob) hv1 S1 F Fi ∧ ∀ b, S1 b → S b) ∧ ∀ b, S1 b → From σ hv S F ids b := by
  have good : ∀ {ys : List T} {ids : List Nat}, takes σ.ob 5 xs = some (ys, ids) → ids.Nodup → ∃ (hv1 : Hv) (S1 : Nat → Prop), hv1.v = hv.v ∧ (∀ b, hv.B b → hv1.B b) ∧ (∀ b, S b → S1 b) ∧ Rel w0 { σ with ob := BX.killAll ids σ.ob } hv1 S1 F a w ∧
      ∃ Fi, elsR hv1 S1 w Fi .clo ys vs ∧ (Kind.clo.isOwn = true → Kind.clo = k ∧ Free w0 (BX.killAll ids σ.ob) hv1 S1 F Fi ∧ ∀ b, S1 b → S b) ∧ ∀ b, S1 b → From σ hv S F ids b := by
    intro ys ids h hn
    obtain ⟨L', f1, f2⟩ := takes_sound hr 5 xs h hf hL
    obtain ⟨hv1, S1, e1, b1, s1, s2, hr1, s3⟩ := hr.killAll ids hn
    refine ⟨hv1, S1, e1, b1, s1, hr1, [], ⟨L', f1, fun b hb => ?_⟩, (fun h => by cases h), fun b hb => s3 b hb⟩
    rcases f2 b hb with hb | ⟨i, hi, o, q1, q2, q3⟩
    · exact s1 b hb
    · exact s2 i hi o q1 q2 b q3
  have while_ : ∀ {ys : List T}, shutBs xs = some ys → ∃ (hv1 : Hv) (S1 : Nat → Prop), hv1.v = hv.v ∧ (∀ b, hv.B b → hv1.B b) ∧ (∀ b, S b → S1 b) ∧ Rel w0 { σ with ob := BX.killAll [] σ.ob } hv1 S1 F a w ∧
      ∃ Fi, elsR hv1 S1 w Fi .bor ys vs ∧ (Kind.bor.isOwn = true → Kind.bor = k ∧ Free w0 (BX.killAll [] σ.ob) hv1 S1 F Fi ∧ ∀ b, S1 b → S b) ∧ ∀ b, S1 b → From σ hv S F [] b := by
    intro ys h
    obtain ⟨L', f1, f2⟩ := shutBs_sound hr.SB xs h hf hL
    exact ⟨hv, S, rfl, fun b hb => hb, fun b hb => hb, hr, [], ⟨L', f1, f2⟩, (fun h => by cases h), fun b hb => .inl hb⟩
  have own : ∀ {s : Sh} {ys : List T} {ids : List Nat}, k = .own s → ownsA σ.ob s xs = some (ys, ids) → ids.Nodup → ∃ (hv1 : Hv) (S1 : Nat → Prop), hv1.v = hv.v ∧ (∀ b, hv.B b → hv1.B b) ∧ (∀ b, S b → S1 b) ∧ Rel w0 { σ with ob := BX.killAll ids σ.ob } hv1 S1 F a w ∧
      ∃ Fi, elsR hv1 S1 w Fi (.own s) ys vs ∧ ((Kind.own s).isOwn = true → Kind.own s = k ∧ Free w0 (BX.killAll ids σ.ob) hv1 S1 F Fi ∧ ∀ b, S1 b → S b) ∧ ∀ b, S1 b → From σ hv S F ids b := by
    intro s ys ids hk h hn
    obtain ⟨L', f1, f2, f3⟩ := ownsA_sound hr s xs h hf hn
    have hr1 := hr.dropAll ids
    let B' : Nat → Prop := fun b => hv.B b ∨ b ∈ L'
    have src : ∀ b ∈ L', (w0.M b ∨ w0.heap.size ≤ b) ∧ b < w.heap.size ∧ ¬ S b := by
      intro b hb
      obtain ⟨i, hi, o, q1, q2, q3⟩ := f3 b hb
      rcases q3 with q3 | q3
      · obtain ⟨k1, k2, k3⟩ := hr.root i o q1 (owns_ne_dead q2) b q3
        exact ⟨k1, k2, fun hS => k3 (hr.SB b hS)⟩
      · obtain ⟨k1, k2, k3⟩ := hr.fown i o q1 q2 b q3
        exact ⟨k1, hr.Blt b k2, k3⟩
    have hr2 := hr1.moreB (B' := B') (fun b hb => .inl hb) (fun b hb => hb.elim (hr.Blt b) fun hb => (src b hb).2.1) (fun b hb => hb.elim (hr.Bin b) fun hb => .inr (src b hb).1)
      (fun i oi hi hdi b hb hh => by
        obtain ⟨hi1, hi2⟩ := killAll_get ids σ.ob i oi hi hdi
        rcases hh with hh | hh
        · exact (hr.root i oi hi2 hdi b hb).2.2 hh
        · obtain ⟨j, hj, o, q1, q2, q3⟩ := f3 b hh
          rcases q3 with q3 | q3
          · exact hr.sep i j oi o (by rintro rfl; exact hi1 hj) hi2 q1 hdi (owns_ne_dead q2) b hb q3
          · exact (hr.root i oi hi2 hdi b hb).2.2 (hr.fown j o q1 q2 b q3).2.1)
    refine ⟨⟨hv.v, B'⟩, S, rfl, fun b hb => .inl hb, fun b hb => hb, hr2, L', ⟨L', f1, f2, fun b hb => hb⟩, fun _ => ⟨hk.symm, fun b hb => ⟨(src b hb).1, .inr hb, (src b hb).2.2, fun j oj hj hoj hbj => ?_⟩, fun b hb => hb⟩, fun b hb => .inl hb⟩
    obtain ⟨hj1, hj2⟩ := killAll_get ids σ.ob j oj hj (owns_ne_dead hoj)
    obtain ⟨i, hi, o, q1, q2, q3⟩ := f3 b hb
    rcases q3 with q3 | q3
    · exact (hr.root i o q1 (owns_ne_dead q2) b q3).2.2 (hr.fown j oj hj2 hoj b hbj).2.1
    · exact hr.fsep i j o oj (by rintro rfl; exact hj1 hi) q1 hj2 q2 hoj b q3 hbj
  unfold mix at h
  split at h
  · rename_i s
    split at h
    · rename_i ys' ids' hh
      simp only [Option.some.injEq, Prod.mk.injEq] at h
      obtain ⟨rfl, rfl, rfl⟩ := h
      exact own rfl hh hn
    · split at h
      · rename_i ys' ids' hh
        simp only [Option.some.injEq, Prod.mk.injEq] at h
        obtain ⟨rfl, rfl, rfl⟩ := h
        exact good hh hn
      · split at h
        · rename_i ys' hh
          simp only [Option.some.injEq, Prod.mk.injEq] at h
          obtain ⟨rfl, rfl, rfl⟩ := h
          exact while_ hh
        · cases h
  · split at h
    · rename_i ys' ids' hh
      simp only [Option.some.injEq, Prod.mk.injEq] at h
      obtain ⟨rfl, rfl, rfl⟩ := h
      exact good hh hn
    · split at h
      · rename_i ys' hh
        simp only [Option.some.injEq, Prod.mk.injEq] at h
        obtain ⟨rfl, rfl, rfl⟩ := h
        exact while_ hh
      · cases h
  · split at h
    · rename_i ys' hh
      simp only [Option.some.injEq, Prod.mk.injEq] at h
      obtain ⟨rfl, rfl, rfl⟩ := h
      exact while_ hh
    · cases h

end

end Go.Proofs.Ythhgcklidfilfaa.BX
