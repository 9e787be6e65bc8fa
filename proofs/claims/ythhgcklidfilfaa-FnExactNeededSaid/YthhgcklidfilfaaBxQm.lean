/-
  A frame for proofs over whole functions, second make: a region whose order is open, in which objects are made.
-/
import Derived.Test.YthhgcklidfilfaaBxQ
namespace Go.Proofs.Ythhgcklidfilfaa.BX
set_option linter.unusedSectionVars false
set_option linter.unusedSimpArgs false
set_option linter.unusedVariables false
open Go Go.RowKit
variable [Bd]

/-- a call over closed arguments: what it yields, what it makes -/
def Mkx (P : Program) (g : FuncId) (ts : Option (List T)) (sh : Bool) (ob : List Ob) (K : AV → List Ob → Prop) : Prop :=
  ∃ ts' x obs, Con P g ts' x obs ∧ ts = some ts' ∧ (x.noBw && obsNoBw obs) = true ∧ (sh = true ∨ (freshAV x = true ∧ freshOb obs = true)) ∧ K (x.ren (ob.length + ·)) (ob ++ obs.map (Ob.ren (ob.length + ·)))
theorem Mkx.closed {P : Program} {g : FuncId} {ts : Option (List T)} {sh : Bool} {ob : List Ob} {K : AV → List Ob → Prop} {ts' : List T} {x : AV} {obs : List Ob} (h : Con P g ts' x obs) (hts : ts = some ts') (hb : (x.noBw && obsNoBw obs) = true) (hs : sh = true ∨ (freshAV x = true ∧ freshOb obs = true))
    (k : K (x.ren (ob.length + ·)) (ob ++ obs.map (Ob.ren (ob.length + ·)))) : Mkx P g ts sh ob K := ⟨_, _, _, h, hts, hb, hs, k⟩
/-- what stands behind the objects that were there -/
def newOb : List Ob → List Ob → (List Ob → Prop) → Prop
  | [], ob', K => K ob'
  | o :: ob, ob', K => match ob' with
    | o' :: ob' => o = o' ∧ newOb ob ob' K
    | [] => False
theorem newOb_spec : ∀ {ob ob' : List Ob} {K : List Ob → Prop}, newOb ob ob' K → ∃ ext, ob' = ob ++ ext ∧ K ext
  | [], ob', K, h => ⟨ob', rfl, h⟩
  | o :: ob, [], K, h => h.elim
  | o :: ob, o' :: ob', K, h => by
    obtain ⟨rfl, h⟩ := h
    obtain ⟨ext, rfl, hk⟩ := newOb_spec h
    exact ⟨ext, rfl, hk⟩
def vcMkC (P : Program) (f : AV) (xs : List AV) (ob : List Ob) (K : AV → List Ob → Prop) : Prop :=
  match calleeOf f with
  | some (g, caps) => Mkx P g (seesW (AV.see ob 5) (xs ++ caps)) (shuts (xs ++ caps)).isSome ob K
  | none => False
def vcMk (P : Program) (B : Nat) (ob : List Ob) (e : Operand → AV) (op : Op) (K : AV → List Ob → Prop) : Prop :=
  match op with
  | .call c => match c.callee with
    | .value f => vcMkC P (e f) (c.args.toList.map e) ob K
    | .builtin .append => match c.args.toList, c.argTypes.toList with
      | [s, x], [t, t'] => t = t' ∧ vcAppend P t (e s) (e x) ob K
      | _, _ => False
    | _ => False
  | .buildSlice t n parts => vcBuildSlice P t n (parts.toList.map (·.1)) (parts.toList.map fun p => e p.2) ob fun x ob' => newOb (ob.take B) ob' fun _ => K x ob'
  | .alloc t => match zeroOf P t with
    | some z => K (.rf ob.length 0) (ob ++ [.box (ofV z)])
    | none => False
  | .box _ x => K (.rf ob.length 0) (ob ++ [.box (e x)])
  | .store t p x => match e p with
    | .rf id off => vcStore P t (.rf id off) (e x) ob K
    | _ => False
  | _ => False
def isSt : Op → Bool
  | .store .. => true
  | .call c => match c.callee with
    | .builtin _ => true
    | _ => false
  | _ => false
/-- what may give up objects that were made in the region -/
def isBs : Op → Bool
  | .buildSlice .. => true
  | _ => false
/-- no object is looked at -/
def isPure : Op → Bool
  | .extract .. | .move _ | .assign _ => true
  | _ => false

def opAt : List Oper → Nat → Option Oper
  | [], _ => none
  | o :: _, 0 => some o
  | _ :: os, j + 1 => opAt os j
theorem opAt_eq : ∀ (l : List Oper) (j : Nat), opAt l j = l[j]?
  | [], j => by simp [opAt]
  | o :: os, 0 => rfl
  | o :: os, j + 1 => by simp only [opAt, opAt_eq os j, List.getElem?_cons_succ]

/-- the first operations, in an order of choice: does it make something; its place in the text -/
def vcDm (P : Program) (all : Array Oper) (B : Nat) : List (Bool × Nat) → List Oper → St → (St → Prop) → Prop
  | [], rest, σ, K => vcOps P all rest σ K
  | (b, i) :: js, rest, σ, K => match opAt all.toList i with
    | some o => if b = true then o.guard = none ∧ dstOk σ.n o.dst ∧ vcMk P B σ.ob σ.opd o.op fun x ob => vcDm P all B js rest (({ σ with ob := ob } : St).set o.dst x) K
      else dstOk σ.n o.dst ∧ vcGuard all σ o (fun σ => vcLook P σ.ob σ.opd o.op fun x => vcDm P all B js rest (σ.set o.dst x) K) (fun σ => vcDm P all B js rest (σ.set o.dst .ud) K)
    | none => False

def waitsT (ops : Array Oper) : Nat → Nat → Nat → Bool
  | 0, i, j => waits ops i j
  | n + 1, i, j => waits ops i j || (List.range ops.size).any fun m => waits ops i m && waitsT ops n m j
/-- the first k operations stand in this order, or in any other that the edges leave open -/
def okDrawM (ops : Array Oper) (k : Nat) (es : List (Bool × Nat)) : Bool :=
  (decide (k ≤ ops.size) && decide (es.length = k)) &&
  ((List.range ops.size).all fun i => match ops[i]? with
    | some o => (o.after.all fun e => !Region.binds .any e || decide (e.on < i)) && (decide (i < k) || (List.range i).all fun j => (List.range ops.size).any fun m => decide (j < m) && decide (m ≤ i) && waits ops m j)
    | none => false) &&
  ((List.range k).all fun i => es.any fun e => e.2 == i) &&
  ((List.range k).all fun p => match es[p]? with
    | some (b, i) => decide (i < k) && match ops[i]? with
      | some o => (List.range k).all fun q => match es[q]? with
        | some (c, j) => (p == q || i != j) && (!(c && decide (q < p)) || waitsT ops 3 i j) && match ops[j]? with
          | some r => (b || !c || isPure o.op || decide (q < p) || waitsT ops 3 j i || (!isSt r.op && (!isBs r.op || (es.take p).all fun e => !e.1))) && match r.dst with
            | some t => (p == q || o.dst != some t) && (!(o.looksAt ops).contains t || (decide (q < p) && waits ops i j))
            | none => true
          | none => false
        | none => false
      | none => false
    | none => false)
structure StaticM (ops : Array Oper) (k : Nat) (es : List (Bool × Nat)) : Prop extends Static0 ops k where
  len : es.length = k
  onto : ∀ (i : Nat), i < k → ∃ (p : Nat) (b : Bool), es[p]? = some (b, i)
  lt : ∀ (p : Nat) (b : Bool) (i : Nat), es[p]? = some (b, i) → i < k
  inj : ∀ (p : Nat) (q : Nat) (b : Bool) (c : Bool) (i : Nat), es[p]? = some (b, i) → es[q]? = some (c, i) → p = q
  apart : ∀ (p : Nat) (q : Nat) (b : Bool) (c : Bool) (i : Nat) (j : Nat) (o : Oper) (r : Oper) (t : Nat), es[p]? = some (b, i) → es[q]? = some (c, j) → ops[i]? = some o → ops[j]? = some r → r.dst = some t → (p = q ∨ o.dst ≠ some t) ∧ (t ∈ o.looksAt ops → q < p ∧ waits ops i j = true)
  level : ∀ (p : Nat) (q : Nat) (b : Bool) (i : Nat) (j : Nat), es[p]? = some (b, i) → es[q]? = some (true, j) → q < p → waitsT ops 3 i j = true
  pure : ∀ (p q i j : Nat) (o r : Oper), es[p]? = some (false, i) → es[q]? = some (true, j) → ops[i]? = some o → ops[j]? = some r → p < q → isPure o.op = true ∨ waitsT ops 3 j i = true ∨ (isSt r.op = false ∧ (isBs r.op = false ∨ ∀ e ∈ es.take p, e.1 = false))
theorem okDrawM_spec {ops : Array Oper} {k : Nat} {es : List (Bool × Nat)} (h : okDrawM ops k es = true) : StaticM ops k es := by
  simp only [okDrawM, Bool.and_eq_true, decide_eq_true_eq, List.all_eq_true, List.mem_range, List.any_eq_true, beq_iff_eq] at h
  obtain ⟨⟨⟨⟨h1, h1'⟩, h2⟩, h3⟩, h4⟩ := h
  have hp : ∀ p e, es[p]? = some e → p < k := fun p e he => h1' ▸ (List.getElem?_eq_some_iff.1 he).1
  refine ⟨⟨h1, fun i o ho e he hb => ?_, fun i o ho hk j hj => ?_⟩, h1', fun i hi => ?_, fun p b i he => ?_, fun p q b c i he he' => ?_, fun p q b c i j o r t he he' ho hr ht => ?_, fun p q b i j he he' hq => ?_, fun p q i j o r he he' ho hr hq => ?_⟩
  · have := h2 i (Array.getElem?_eq_some_iff.1 ho).1
    simp only [ho, Bool.and_eq_true, Array.all_eq_true_iff_forall_mem, Bool.or_eq_true, Bool.not_eq_true', decide_eq_true_eq] at this
    rcases this.1 e he with h | h
    · rw [hb] at h; cases h
    · exact h
  · have := h2 i (Array.getElem?_eq_some_iff.1 ho).1
    simp only [ho, Bool.and_eq_true, Bool.or_eq_true, decide_eq_true_eq, List.all_eq_true, List.any_eq_true, List.mem_range] at this
    rcases this.2 with h | h
    · omega
    · obtain ⟨m, _, ⟨q1, q2⟩, q3⟩ := h j hj
      exact ⟨m, q1, q2, q3⟩
  · obtain ⟨⟨b, i'⟩, he, hi'⟩ := h3 i hi
    obtain ⟨p, hp⟩ := List.getElem?_of_mem he
    dsimp only at hi'
    subst hi'
    exact ⟨p, b, hp⟩
  · have := h4 p (hp p _ he)
    simp only [he, Bool.and_eq_true, decide_eq_true_eq] at this
    exact this.1
  · have := h4 p (hp p _ he)
    simp only [he, Bool.and_eq_true, decide_eq_true_eq] at this
    have hik := this.1
    cases ho : ops[i]? with
    | none => rw [ho] at this; cases this.2
    | some o =>
      simp only [ho, List.all_eq_true, List.mem_range] at this
      have := this.2 q (hp q _ he')
      simp only [he', Bool.and_eq_true, Bool.or_eq_true, beq_iff_eq, bne_self_eq_false, Bool.false_eq_true, or_false] at this
      exact this.1.1
  · have := h4 p (hp p _ he)
    simp only [he, ho, Bool.and_eq_true, List.all_eq_true, List.mem_range] at this
    have := this.2 q (hp q _ he')
    simp only [he', hr, ht, Bool.and_eq_true, Bool.or_eq_true, beq_iff_eq, bne_iff_ne, ne_eq, Bool.not_eq_true', decide_eq_true_eq] at this
    refine ⟨this.2.2.1, fun hm => ?_⟩
    rcases this.2.2.2 with h | h
    · simp [hm] at h
    · exact h
  · have := h4 p (hp p _ he)
    simp only [he, Bool.and_eq_true] at this
    cases ho : ops[i]? with
    | none => rw [ho] at this; cases this.2
    | some o =>
      simp only [ho, List.all_eq_true, List.mem_range] at this
      have := this.2 q (hp q _ he')
      simp only [he', Bool.and_eq_true, Bool.or_eq_true, Bool.not_eq_true', Bool.and_eq_false_iff, Bool.true_eq_false, decide_eq_false_iff_not, false_or] at this
      rcases this.1.2 with h | h
      · exact absurd hq h
      · exact h
  · have := h4 p (hp p _ he)
    simp only [he, ho, Bool.and_eq_true, List.all_eq_true, List.mem_range] at this
    have := this.2 q (hp q _ he')
    simp only [he', hr, Bool.and_eq_true, Bool.or_eq_true, Bool.not_eq_true', Bool.true_eq_false, Bool.false_eq_true, false_or, or_false, decide_eq_true_eq, List.all_eq_true] at this
    rcases this.2.1 with ((h | h) | h) | h
    · exact .inl h
    · omega
    · exact .inr (.inl h)
    · exact .inr (.inr h)

theorem waitsT_down {ops : Array Oper} {listed : Array Bool} (hd : Down ops listed) : ∀ (n i j : Nat), waitsT ops n i j = true → listed.getD i false = true → listed.getD j false = true
  | 0, i, j, h, hi => hd i j hi h
  | n + 1, i, j, h, hi => by
    simp only [waitsT, Bool.or_eq_true, List.any_eq_true, Bool.and_eq_true] at h
    rcases h with h | ⟨m, _, h1, h2⟩
    · exact hd i j hi h
    · exact waitsT_down hd n m j h2 (hd i m hi h1)
/-- what a ready one waits for is done -/
theorem waitsT_ready {ops : Array Oper} {listed : Array Bool} (hd : Down ops listed) {i : Nat} (hw : ∀ j, waits ops i j = true → listed.getD j false = true) : ∀ (n j : Nat), waitsT ops n i j = true → listed.getD j false = true
  | 0, j, h => hw j h
  | n + 1, j, h => by
    simp only [waitsT, Bool.or_eq_true, List.any_eq_true, Bool.and_eq_true] at h
    rcases h with h | ⟨m, _, h1, h2⟩
    · exact hw j h
    · exact waitsT_down hd n m j h2 (hw m h1)

def stp (σ : St) (d : Option Nat) (x : AV) (ob : List Ob) : St := ({ σ with ob := ob } : St).set d x
theorem stp_n {σ : St} {d : Option Nat} {x : AV} {ext : List Ob} : (stp σ d x ext).n = σ.n := by unfold stp; cases d <;> rfl
theorem stp_ob {σ : St} {d : Option Nat} {x : AV} {ext : List Ob} : (stp σ d x ext).ob = ext := by unfold stp; cases d <;> rfl
theorem stp_get {σ : St} {d : Option Nat} {x : AV} {ext : List Ob} {t : Nat} : getL (stp σ d x ext).tm t = if d = some t then x else getL σ.tm t := by
  unfold stp; rw [getL_set]
theorem stp_same {σ : St} {d : Option Nat} {x : AV} : stp σ d x σ.ob = σ.set d x := rfl
theorem Eqv.stp {σ σ' : St} (h : Eqv σ σ') (d : Option Nat) (x : AV) (ext : List Ob) : Eqv (stp σ d x ext) (BX.stp σ' d x ext) :=
  ⟨by rw [stp_n, stp_n, h.n], by rw [stp_ob, stp_ob], fun t => by rw [stp_get, stp_get, h.tm]⟩

/-- what is known of an operation that makes something -/
structure MkFact (P : Program) (ob : List Ob) (e : Operand → AV) (o : Oper) (x : AV) (ext : List Ob) : Prop where
  does : ∀ {Q : Exit → Act → World → Prop} {w0 : Base} {σ : St} {hv : Hv} {S : Nat → Prop} {F : Nat → List Nat} {a : Act} {w : World} {next : Value → World → Prop},
    Rel w0 σ hv S F a w → σ.ob = ob → (∀ y ∈ o.op.operands, σ.opd y = e y) → Ans w0 σ a (fun x' ob' => x' = x ∧ ob' = ext) next → Does P Q o a w next
  get : ∀ {w0 : Base} {σ : St} {hv : Hv} {S : Nat → Prop} {F : Nat → List Nat} {a : Act} {w : World},
    Rel w0 σ hv S F a w → σ.ob = ob → (∀ y ∈ o.op.operands, σ.opd y = e y) → (∀ k, o.dst = some k → k < σ.n) → ∃ hv' S' F' a' w', Rel w0 (stp σ o.dst x ext) hv' S' F' a' w'

section
variable {P : Program} {Q : Exit → Act → World → Prop} {w0 : Base} {σ : St} {hv : Hv} {S : Nat → Prop} {F : Nat → List Nat} {a : Act} {w : World}

theorem Does.some {o : Oper} {next : Value → World → Prop} (h : Does P (fun _ _ _ => False) o a w next) : ∃ v w', next v w' := by
  unfold Does Oper.wp at h
  cases hr : (execOp a.eval o).run P w with
  | ok n w' =>
    rw [hr] at h
    cases n with
    | value v => obtain ⟨v', _, h⟩ := h; exact ⟨_, _, h⟩
    | skip => obtain ⟨v', _, h⟩ := h; exact ⟨_, _, h⟩
    | defer d => obtain ⟨v', _, h⟩ := h; exact ⟨_, _, h⟩
    | enter f args =>
      obtain ⟨en, w', hh⟩ := Calls.some h
      cases en with
      | returned v0 => obtain ⟨v', _, h⟩ := hh; exact ⟨_, _, h⟩
      | panicked => exact hh.elim
      | outgrown => obtain ⟨_, _, hh⟩ := hh; exact hh.elim
    | row r args =>
      obtain ⟨v, w', hh, _⟩ := h (Frame.ofRow P r args .normal) []
      obtain ⟨v', _, h⟩ := hh; exact ⟨_, _, h⟩
    | _ => exact h.elim
  | halt c w' =>
    rw [hr] at h
    cases c <;> exact h.elim
/-- out of the way it is done -/
theorem MkFact.of {ob : List Ob} {e : Operand → AV} {o : Oper} {x : AV} {ext : List Ob} (h : ∀ {Q : Exit → Act → World → Prop} {w0 : Base} {σ : St} {hv : Hv} {S : Nat → Prop} {F : Nat → List Nat} {a : Act} {w : World} {next : Value → World → Prop},
    Rel w0 σ hv S F a w → σ.ob = ob → (∀ y ∈ o.op.operands, σ.opd y = e y) → Ans w0 σ a (fun x' ob' => x' = x ∧ ob' = ext) next → Does P Q o a w next) : MkFact P ob e o x ext := by
  refine ⟨h, ?_⟩
  intro w0 σ hv S F a w hr h1 h2 hd
  have := h (Q := fun _ _ _ => False) hr h1 h2 (next := fun v w' => ∃ hv' S' F' L, Rel w0 { σ with ob := ext } hv' S' F' a w' ∧ footA hv' w' x v L ∧ (∀ b ∈ L, S' b) ∧ x.under ext.length = true)
    (fun v w' x' ob' hv' S' F' L hk q1 q2 q3 q4 => by obtain ⟨rfl, rfl⟩ := hk; exact ⟨hv', S', F', L, q1, q2, q3, q4⟩)
  obtain ⟨v, w', hv', S', F', L, q1, q2, q3, q4⟩ := Does.some this
  refine ⟨hv', S', F', a.put o.dst v, w', ?_⟩
  unfold stp
  exact q1.put q2 q3 q4 hd
theorem buildSlice_mono {t : TypeId} {n : Nat} {ks : List Nat} {xs : List AV} {ob : List Ob} {K : AV → List Ob → Prop} (h : vcBuildSlice P t n ks xs ob K) : ∃ x ob', K x ob' ∧ vcBuildSlice P t n ks xs ob fun x' ob'' => x' = x ∧ ob'' = ob' := by
  unfold vcBuildSlice at h ⊢
  split at h
  · obtain ⟨h1, h2, h3, h4, h⟩ := h
    split at h
    · rename_i hm
      obtain ⟨h5, h6, h7, hK⟩ := h
      refine ⟨_, _, hK, h1, h2, h3, h4, ?_⟩
      exact ⟨h5, h6, h7, rfl, rfl⟩
    · cases h
  · cases h

theorem srcOf_mono {m i : Nat} {ob : List Ob} {k : Kind} {x : AV} {K : List T → List Nat → Kind → Prop} (h : srcOf m ob i k x K) : ∃ es ids k', K es ids k' ∧ srcOf m ob i k x fun a b c => a = es ∧ b = ids ∧ c = k' := by
  unfold srcOf at h ⊢
  repeat' split at h
  all_goals first
    | exact h.elim
    | exact ⟨_, _, _, h, rfl, rfl, rfl⟩
    | (obtain ⟨h1, h2⟩ := h; exact ⟨_, _, _, h2, h1, rfl, rfl, rfl⟩)
    | (obtain ⟨h1, h2, h3⟩ := h; exact ⟨_, _, _, h3, h1, h2, rfl, rfl, rfl⟩)
    | (rename_i hp; obtain ⟨h1, h2, h3⟩ := h; exact ⟨_, _, _, h3, h1, by rw [if_pos hp]; exact ⟨h2, rfl, rfl, rfl⟩⟩)
    | (rename_i hp; obtain ⟨h1, h2⟩ := h; exact ⟨_, _, _, h2, h1, by rw [if_neg hp]; exact ⟨rfl, rfl, rfl⟩⟩)
    | (rename_i hp; obtain ⟨h1, h2, h3, h4⟩ := h; exact ⟨_, _, _, h4, h1, h2, h3, by rw [if_pos hp]; exact ⟨rfl, rfl, rfl⟩⟩)
    | (rename_i hp; obtain ⟨h1, h2, h3, h4⟩ := h; exact ⟨_, _, _, h4, h1, h2, h3, by rw [if_neg hp]; exact ⟨rfl, rfl, rfl⟩⟩)
theorem srcOf_to {m i : Nat} {ob : List Ob} {k : Kind} {x : AV} {es : List T} {ids : List Nat} {k' : Kind} {K : List T → List Nat → Kind → Prop} (h : srcOf m ob i k x fun a b c => a = es ∧ b = ids ∧ c = k') (hk : K es ids k') : srcOf m ob i k x K := by
  unfold srcOf at h ⊢
  repeat' split at h
  all_goals first
    | exact h.elim
    | (obtain ⟨rfl, rfl, rfl⟩ := h; exact hk)
    | (obtain ⟨h1, rfl, rfl, rfl⟩ := h; exact ⟨h1, hk⟩)
    | (rename_i hp; obtain ⟨h1, h2, rfl, rfl, rfl⟩ := h; exact ⟨h1, by rw [if_pos hp]; exact ⟨h2, hk⟩⟩)
    | (rename_i hp; obtain ⟨h1, rfl, rfl, rfl⟩ := h; exact ⟨h1, by rw [if_neg hp]; exact hk⟩)
    | (obtain ⟨h1, h2, rfl, rfl, rfl⟩ := h; exact ⟨h1, h2, hk⟩)
    | (rename_i hp; obtain ⟨h1, h2, h3, rfl, rfl, rfl⟩ := h; exact ⟨h1, h2, h3, by rw [if_pos hp]; exact hk⟩)
    | (rename_i hp; obtain ⟨h1, h2, h3, rfl, rfl, rfl⟩ := h; exact ⟨h1, h2, h3, by rw [if_neg hp]; exact hk⟩)
theorem append_mono {t : TypeId} {s x : AV} {ob : List Ob} {K : AV → List Ob → Prop} (h : vcAppend P t s x ob K) : ∃ r ob', K r ob' ∧ vcAppend P t s x ob fun a b => a = r ∧ b = ob' := by
  unfold vcAppend at h ⊢
  split at h
  case h_2 => exact h.elim
  obtain ⟨h1, h2, h3, h⟩ := h
  split at h
  · split at h
    case h_2 => exact h.elim
    obtain ⟨q1, q2, h⟩ := h
    obtain ⟨es, ids, k', ⟨q3, q4⟩, q5⟩ := srcOf_mono h
    exact ⟨_, _, q4, h1, h2, h3, q1, q2, srcOf_to q5 ⟨q3, rfl, rfl⟩⟩
  · obtain ⟨es, ids, k', ⟨q3, q4⟩, q5⟩ := srcOf_mono h
    exact ⟨_, _, q4, h1, h2, h3, srcOf_to q5 ⟨q3, rfl, rfl⟩⟩
  · exact h.elim

theorem vcMk_sound {B : Nat} {ob : List Ob} {e : Operand → AV} {o : Oper} {K : AV → List Ob → Prop} (h : vcMk P B ob e o.op K) : ∃ x ob', K x ob' ∧ ((isSt o.op = false → ∃ ext, ob' = ob.take B ++ ext) ∧ (isSt o.op = false → isBs o.op = false → ∃ ext, ob' = ob ++ ext)) ∧ MkFact P ob e o x ob' := by
  have app : ∀ {ext : List Ob}, (isSt o.op = false → ∃ ext', ob ++ ext = ob.take B ++ ext') ∧ (isSt o.op = false → isBs o.op = false → ∃ ext', ob ++ ext = ob ++ ext') := fun {ext} => ⟨fun _ => ⟨ob.drop B ++ ext, by rw [← List.append_assoc, List.take_append_drop]⟩, fun _ _ => ⟨ext, rfl⟩⟩
  unfold vcMk at h
  split at h
  · rename_i c hop
    split at h
    case h_3 => cases h
    case h_2 =>
      rename_i hc
      split at h
      case h_2 => cases h
      rename_i s x t t' ha ht
      obtain ⟨rfl, h⟩ := h
      obtain ⟨r, ob', hK, hb⟩ := append_mono h
      have hst : isSt o.op = true := by rw [hop]; simp [isSt, hc]
      have ha' : c.args = #[s, x] := by apply Array.ext'; simpa using ha
      have hmem : ∀ y ∈ [s, x], y ∈ o.op.operands := by
        intro y hy
        rw [hop]
        simp only [Op.operands, Call.operands, hc, ha']
        simpa using hy
      refine ⟨_, _, hK, ⟨fun hh => absurd (hst.symm.trans hh) (by simp), fun hh => absurd (hst.symm.trans hh) (by simp)⟩, .of fun hr h1 h2 hn => append_sound hop hc ha ht hr ?_ hn⟩
      rw [h2 s (hmem s (by simp)), h2 x (hmem x (by simp)), h1]
      exact hb
    rename_i f hc
    unfold vcMkC at h
    split at h
    case h_2 => cases h
    rename_i g caps hg
    obtain ⟨ts', x, obs, hcon, hts, hb, hs, hK⟩ := h
    have hmem : f ∈ o.op.operands ∧ ∀ y ∈ c.args.toList, y ∈ o.op.operands := by
      rw [hop]
      refine ⟨?_, fun y hy => ?_⟩
      · simp [Op.operands, Call.operands, hc]
      · simp only [Op.operands, Call.operands, hc, Array.mem_append]
        exact .inr (by simpa using hy)
    refine ⟨_, _, hK, app, .of fun hr h1 h2 hn => callO_sound hop hc hr ?_ hn⟩
    rename_i σ _ _ _ _ _ _
    have hm : c.args.toList.map σ.opd = c.args.toList.map e := List.map_congr_left fun y hy => h2 y (hmem.2 y hy)
    rw [h2 f hmem.1, hm, h1]
    unfold vcCallO
    rw [hg]
    exact .closed hcon hts hb hs ⟨rfl, rfl⟩
  · rename_i t n parts hop
    obtain ⟨x, ob', hK, hb⟩ := buildSlice_mono h
    obtain ⟨ext, rfl, hK2⟩ := newOb_spec hK
    have hbs : isBs o.op = true := by rw [hop]; rfl
    refine ⟨x, _, hK2, ⟨fun _ => ⟨ext, rfl⟩, fun _ h => absurd (hbs.symm.trans h) (by simp)⟩, .of fun hr h1 h2 hn => buildSlice_sound hop hr (K := fun x' ob'' => x' = x ∧ ob'' = ob.take B ++ ext) ?_ hn⟩
    rename_i σ _ _ _ _ _ _
    have hm : (parts.toList.map fun p => σ.opd p.2) = parts.toList.map fun p => e p.2 := List.map_congr_left fun p hp => h2 p.2 (by
      rw [hop]
      simp only [Op.operands, List.mem_toArray, List.mem_map]
      exact ⟨p, hp, rfl⟩)
    rw [hm, h1]
    exact hb
  · rename_i t hop
    split at h
    · rename_i z hz
      refine ⟨_, _, h, app, .of fun hr h1 h2 hn => alloc_sound hop hr hz ?_ hn⟩
      rw [h1]; exact ⟨rfl, rfl⟩
    · cases h
  · rename_i t x hop
    refine ⟨_, _, h, app, .of fun hr h1 h2 hn => box_sound hop hr ?_ hn⟩
    rename_i σ _ _ _ _ _ _
    rw [h1, h2 x (by rw [hop]; simp [Op.operands])]
    exact ⟨rfl, rfl⟩
  · rename_i t p x hop
    split at h
    case h_2 => cases h
    rename_i id off hp
    have hst : isSt o.op = true := by rw [hop]; rfl
    unfold vcStore at h
    simp only at h
    split at h
    case h_2 => cases h
    rename_i y hy
    obtain ⟨q1, q2, q3, q4, q5, q6, hK⟩ := h
    refine ⟨_, _, hK, ⟨fun hh => absurd (hst.symm.trans hh) (by simp), fun hh => absurd (hst.symm.trans hh) (by simp)⟩, .of fun hr h1 h2 hn => ?_⟩
    rename_i σ _ _ _ _ _ _
    have hp' := h2 p (by rw [hop]; simp [Op.operands])
    have hx' := h2 x (by rw [hop]; simp [Op.operands])
    rw [hp] at hp'
    rw [← hx'] at q2 q3 q4 q5 q6 hn
    rw [← h1] at hy hn
    exact store_box_sound hop hr hp' hy q1 q2 q3 q4 q5 q6 ⟨rfl, rfl⟩ hn
  · cases h

/-- what looks at no object yields the same wherever it is done -/
theorem vcLook_det {ob : List Ob} {e : Operand → AV} {op : Op} {K : AV → Prop} (hp : isPure op = true) (h : vcLook P ob e op K) : ∃ r, K r ∧ ∀ ob', vcLook P ob' e op fun r' => r' = r := by
  cases op <;> first | (simp [isPure] at hp; done) | skip
  · exact ⟨_, h, fun _ => rfl⟩
  · exact ⟨_, h, fun _ => rfl⟩
  · rename_i x i
    have h : vcExtract (e x) i K := h
    show ∃ r, K r ∧ ∀ ob', vcExtract (e x) i fun r' => r' = r
    unfold vcExtract at h ⊢
    split at h
    all_goals first
      | cases h; done
      | (rename_i hx
         split at h
         · rename_i y hy
           refine ⟨_, h, fun _ => ?_⟩
           simp only [hy]
         · cases h)

def FactM (P : Program) (all : Array Oper) (B : Nat) (σ : St) (b : Bool) (o : Oper) (x : AV) (ext : List Ob) : Prop :=
  (dstOk σ.n o.dst ∧ (∀ t, (getL σ.tm t).under σ.ob.length = true) ∧ ∀ (id : Nat) (o : Ob), σ.ob[id]? = some o → o.under σ.ob.length = true) ∧ if b = true then o.guard = none ∧ ((isSt o.op = false → ∃ more, ext = σ.ob.take B ++ more) ∧ (isSt o.op = false → isBs o.op = false → ∃ more, ext = σ.ob ++ more)) ∧ MkFact P σ.ob σ.opd o x ext
    else ext = σ.ob ∧ ((guardOf all σ o = some true ∧ Fact P σ.ob σ.opd o x ∧ (isPure o.op = true → ∀ {w0 : Base} {σ1 : St} {hv : Hv} {S : Nat → Prop} {F : Nat → List Nat} {a : Act} {w : World}, Rel w0 σ1 hv S F a w → (∀ y ∈ o.op.operands, σ1.opd y = σ.opd y) → Fact P σ1.ob σ.opd o x)) ∨ (guardOf all σ o = some false ∧ x = .ud))
def runM (all : Array Oper) : St → List (Bool × Nat) → List (AV × List Ob) → St
  | σ, (_, i) :: es, (x, ext) :: rs => match all[i]? with
    | some o => runM all (stp σ o.dst x ext) es rs
    | none => runM all σ es rs
  | σ, _, _ => σ
def FactsM (P : Program) (all : Array Oper) (B : Nat) : St → List (Bool × Nat) → List (AV × List Ob) → Prop
  | _, [], [] => True
  | σ, (b, i) :: es, (x, ext) :: rs => ∃ o, all[i]? = some o ∧ FactM P all B σ b o x ext ∧ FactsM P all B (stp σ o.dst x ext) es rs
  | _, _, _ => False

theorem vcDm_sound {all : Array Oper} {B : Nat} {rest : List Oper} : ∀ (es : List (Bool × Nat)) {σ σ' : St} {hv : Hv} {S : Nat → Prop} {F : Nat → List Nat} {a : Act} {w : World} {K : St → Prop}, Rel w0 σ hv S F a w → Eqv σ σ' → vcDm P all B es rest σ' K →
    ∃ rs σ'', Eqv (runM all σ es rs) σ'' ∧ vcOps P all rest σ'' K ∧ FactsM P all B σ es rs
  | [], σ, σ', hv, S, F, a, w, K, hr, he, h => ⟨[], σ', he, h, trivial⟩
  | (b, i) :: es, σ, σ', hv, S, F, a, w, K, hr, he, h => by
    unfold vcDm at h
    split at h
    case h_2 => cases h
    rename_i o ho
    have ho : all[i]? = some o := by rw [opAt_eq, Array.getElem?_toList] at ho; exact ho
    have hu : (∀ t, (getL σ.tm t).under σ.ob.length = true) ∧ ∀ (id : Nat) (o : Ob), σ.ob[id]? = some o → o.under σ.ob.length = true := ⟨hr.utm, hr.uob⟩
    cases b with
    | true =>
      obtain ⟨hg, hd, h⟩ := h
      rw [he.n] at hd
      have hdk : ∀ k, o.dst = some k → k < σ.n := fun k hk => by rw [hk] at hd; exact hd
      obtain ⟨x, ob', hK, hx, hf⟩ := vcMk_sound h
      rw [he.ob, show σ'.opd = σ.opd from funext he.opd] at hf
      rw [he.ob] at hx
      obtain ⟨hv', S', F', a', w', hr'⟩ := hf.get hr rfl (fun _ _ => rfl) hdk
      obtain ⟨rs, σ'', k0, k1, k2⟩ := vcDm_sound es hr' (he.stp o.dst x ob') hK
      refine ⟨(x, ob') :: rs, σ'', ?_, k1, o, ho, ⟨⟨hd, hu⟩, ?_⟩, k2⟩
      · simp only [runM, ho]; exact k0
      · exact ⟨hg, hx, hf⟩
    | false =>
      obtain ⟨hd, h⟩ := h
      rw [he.n] at hd
      have hdk : ∀ k, o.dst = some k → k < σ.n := fun k hk => by rw [hk] at hd; exact hd
      rcases vcGuard_sound he h with ⟨hg, σ1, he1, h⟩ | ⟨hg, σ1, he1, h⟩
      · have hr1 := hr.tm_ext he1
        obtain ⟨x, hx, hf, hpure⟩ : ∃ x, vcDm P all B es rest (σ1.set o.dst x) K ∧ Fact P σ1.ob σ1.opd o x ∧ (isPure o.op = true → ∀ ob', vcLook P ob' σ1.opd o.op fun r' => r' = x) := by
          cases hp : isPure o.op with
          | true =>
            obtain ⟨x, hx, hdet⟩ := vcLook_det hp h
            obtain ⟨r, rfl, hf⟩ := vcLook_sound hr1.obs (fun y _ => hr1.arg y) (hdet σ1.ob)
            exact ⟨r, hx, hf, fun _ => hdet⟩
          | false =>
            obtain ⟨x, hx, hf⟩ := vcLook_sound hr1.obs (fun y _ => hr1.arg y) h
            exact ⟨x, hx, hf, fun hh => by cases hh⟩
        rw [he1.ob, show σ1.opd = σ.opd from funext he1.opd] at hf
        rw [show σ1.opd = σ.opd from funext he1.opd] at hpure
        obtain ⟨hv', S', F', a', w', hr'⟩ : ∃ hv' S' F' a' w', Rel w0 (σ.set o.dst x) hv' S' F' a' w' := by
          rcases hf with hf | ⟨r, rfl, hf⟩
          · obtain ⟨v, h1, ⟨L, h2, h2'⟩, h3⟩ := hf hr.obs (fun y _ => hr.arg y)
            exact ⟨hv, S, F, _, w, hr.put h2 h2' h3 hdk⟩
          · obtain ⟨f, args, h1, h2⟩ := hf hr.obs hr.Blt hr.rootsIn (fun y _ => hr.arg y)
            obtain ⟨en, w', v, L', rfl, q1, q2, q3⟩ := Calls.some h2
            exact ⟨_, _, F, _, w', (hr.grow q3).put (x := .t r) (by simpa only [footA] using q1) q2 rfl hdk⟩
        obtain ⟨rs, σ'', k0, k1, k2⟩ := vcDm_sound es hr' (he1.set o.dst x) hx
        refine ⟨(x, σ.ob) :: rs, σ'', ?_, k1, o, ho, ⟨⟨hd, hu⟩, rfl, .inl ⟨hg, hf, fun hp => ?_⟩⟩, ?_⟩
        · simp only [runM, ho, stp_same]; exact k0
        · intro w0 σ2 hv S F a w hr2 hopd
          obtain ⟨r, rfl, hf2⟩ := vcLook_sound (ob := σ2.ob) (e := σ.opd) (ρ := a.eval) hr2.obs (fun y hy => by rw [← hopd y hy]; exact hr2.arg y) (hpure hp σ2.ob)
          exact hf2
        · rw [stp_same]; exact k2
      · obtain ⟨rs, σ'', k0, k1, k2⟩ := vcDm_sound es (hr.put (d := o.dst) (x := .ud) (v := undef) (L := []) (by simp [footA]) (by simp) rfl hdk) (he1.set o.dst .ud) h
        refine ⟨(.ud, σ.ob) :: rs, σ'', ?_, k1, o, ho, ⟨⟨hd, hu⟩, rfl, .inr ⟨hg, rfl⟩⟩, ?_⟩
        · simp only [runM, ho, stp_same]; exact k0
        · rw [stp_same]; exact k2

theorem FactsM.len {all : Array Oper} {B : Nat} : ∀ {es : List (Bool × Nat)} {rs : List (AV × List Ob)} {σ : St}, FactsM P all B σ es rs → rs.length = es.length
  | [], [], _, _ => rfl
  | [], _ :: _, _, h => h.elim
  | _ :: _, [], _, h => h.elim
  | (_, _) :: es, (_, _) :: rs, σ, h => by obtain ⟨o, _, _, h⟩ := h; simp [FactsM.len h]
theorem FactsM.get {all : Array Oper} {B : Nat} : ∀ {es : List (Bool × Nat)} {rs : List (AV × List Ob)} {σ : St}, FactsM P all B σ es rs → ∀ {p : Nat} {b : Bool} {i : Nat}, es[p]? = some (b, i) → ∃ o x ext, all[i]? = some o ∧ rs[p]? = some (x, ext) ∧ FactM P all B (runM all σ (es.take p) (rs.take p)) b o x ext
  | [], _, _, _, p, b, i, hi => by simp at hi
  | _ :: _, [], _, h, _, _, _, _ => h.elim
  | (c, j) :: es, (x, ext) :: rs, σ, h, 0, b, i, hi => by
    simp only [List.getElem?_cons_zero, Option.some.injEq, Prod.mk.injEq] at hi
    obtain ⟨rfl, rfl⟩ := hi
    obtain ⟨o, ho, hf, _⟩ := h
    exact ⟨o, x, ext, ho, rfl, hf⟩
  | (c, j) :: es, (x, ext) :: rs, σ, h, p + 1, b, i, hi => by
    obtain ⟨o, ho, _, h⟩ := h
    obtain ⟨o', y, ext', h1, h2, h3⟩ := FactsM.get h (p := p) (by simpa using hi)
    refine ⟨o', y, ext', h1, by simpa using h2, ?_⟩
    simp only [List.take_succ_cons, runM, ho]
    exact h3
theorem runM_n {all : Array Oper} : ∀ (es : List (Bool × Nat)) (rs : List (AV × List Ob)) (σ : St), (runM all σ es rs).n = σ.n
  | [], _, _ => by simp [runM]
  | _ :: _, [], _ => by simp [runM]
  | (b, i) :: es, (x, ext) :: rs, σ => by
    simp only [runM]
    split
    · rw [runM_n es rs, stp_n]
    · rw [runM_n es rs]
theorem runM_step {all : Array Oper} : ∀ (es : List (Bool × Nat)) (rs : List (AV × List Ob)) (σ : St) {p : Nat} {b : Bool} {i : Nat} {o : Oper} {x : AV} {ob : List Ob}, es[p]? = some (b, i) → rs[p]? = some (x, ob) → all[i]? = some o →
    runM all σ (es.take (p + 1)) (rs.take (p + 1)) = stp (runM all σ (es.take p) (rs.take p)) o.dst x ob
  | [], _, _, _, _, _, _, _, _, h, _, _ => by simp at h
  | _ :: _, [], _, _, _, _, _, _, _, _, h, _ => by simp at h
  | (c, j) :: es, (y, ob') :: rs, σ, 0, b, i, o, x, ob, h1, h2, ho => by
    simp only [List.getElem?_cons_zero, Option.some.injEq, Prod.mk.injEq] at h1 h2
    obtain ⟨rfl, rfl⟩ := h1
    obtain ⟨rfl, rfl⟩ := h2
    simp [runM, ho]
  | (c, j) :: es, (y, ob') :: rs, σ, p + 1, b, i, o, x, ob, h1, h2, ho => by
    simp only [List.getElem?_cons_succ] at h1 h2
    simp only [List.take_succ_cons, runM]
    split
    · exact runM_step es rs _ h1 h2 ho
    · exact runM_step es rs σ h1 h2 ho
theorem runM_miss {all : Array Oper} {t : Nat} : ∀ (es : List (Bool × Nat)) (rs : List (AV × List Ob)) (σ : St), (∀ (p : Nat) (b : Bool) (i : Nat) (o : Oper), es[p]? = some (b, i) → all[i]? = some o → o.dst ≠ some t) → getL (runM all σ es rs).tm t = getL σ.tm t
  | [], _, _, _ => by simp [runM]
  | _ :: _, [], _, _ => by simp [runM]
  | (b, i) :: es, (x, ext) :: rs, σ, h => by
    simp only [runM]
    have hrest : ∀ (p : Nat) (b : Bool) (i : Nat) (o : Oper), es[p]? = some (b, i) → all[i]? = some o → o.dst ≠ some t := fun p b i o hp => h (p + 1) b i o (by simpa using hp)
    split
    · rename_i o ho
      rw [runM_miss es rs _ hrest, stp_get, if_neg (h 0 b i o rfl ho)]
    · exact runM_miss es rs _ hrest
theorem runM_hit {all : Array Oper} {t : Nat} : ∀ (es : List (Bool × Nat)) (rs : List (AV × List Ob)) (σ : St) {p : Nat} {b : Bool} {i : Nat} {o : Oper} {x : AV} {ext : List Ob}, es[p]? = some (b, i) → rs[p]? = some (x, ext) → all[i]? = some o → o.dst = some t →
    (∀ (q : Nat) (c : Bool) (j : Nat) (r : Oper), es[q]? = some (c, j) → all[j]? = some r → q ≠ p → r.dst ≠ some t) → getL (runM all σ es rs).tm t = x
  | [], _, _, _, _, _, _, _, _, h, _, _, _, _ => by simp at h
  | _ :: _, [], _, _, _, _, _, _, _, _, h, _, _, _ => by simp at h
  | (c, j) :: es, (y, ext') :: rs, σ, 0, b, i, o, x, ext, h1, h2, ho, hd, hn => by
    simp only [List.getElem?_cons_zero, Option.some.injEq, Prod.mk.injEq] at h1 h2
    obtain ⟨rfl, rfl⟩ := h1
    obtain ⟨rfl, rfl⟩ := h2
    simp only [runM, ho]
    rw [runM_miss es rs _ (fun q c j r hq hr => hn (q + 1) c j r (by simpa using hq) hr (by omega)), stp_get, if_pos hd]
  | (c, j) :: es, (y, ext') :: rs, σ, p + 1, b, i, o, x, ext, h1, h2, ho, hd, hn => by
    simp only [List.getElem?_cons_succ] at h1 h2
    have hrest : ∀ (q : Nat) (c : Bool) (j : Nat) (r : Oper), es[q]? = some (c, j) → all[j]? = some r → q ≠ p → r.dst ≠ some t := fun q c j r hq hr hne => hn (q + 1) c j r (by simpa using hq) hr (by omega)
    simp only [runM]
    split
    · exact runM_hit es rs _ h1 h2 ho hd hrest
    · exact runM_hit es rs _ h1 h2 ho hd hrest

theorem Obs.less {ob more : List Ob} (h : Obs (ob ++ more) hv S F w) (hu : ∀ (id : Nat) (o : Ob), ob[id]? = some o → o.under ob.length = true) : Obs ob hv S F w := by
  have hl : ∀ {id : Nat} {o : Ob}, ob[id]? = some o → (ob ++ more)[id]? = some o := fun hid => by rw [List.getElem?_append_left (List.getElem?_eq_some_iff.1 hid).1]; exact hid
  exact ⟨fun id o hid => h.ob id o (hl hid), hu, fun id o hid => h.own id o (hl hid), h.SB, h.one⟩
theorem RootsIn.less {ob more : List Ob} (h : RootsIn (ob ++ more) hv w) : RootsIn ob hv w := fun id o hid => h id o (by rw [List.getElem?_append_left (List.getElem?_eq_some_iff.1 hid).1]; exact hid)
/-- what only looks does the same where more objects are -/
theorem Fact.doesMore {ob more : List Ob} {x : AV} {o : Oper} {e : Operand → AV} (hf : Fact P ob e o x) (hr : Rel w0 σ hv S F a w) (hob : σ.ob = ob ++ more) (hu : ∀ (id : Nat) (o : Ob), ob[id]? = some o → o.under ob.length = true) (he : ∀ y ∈ o.op.operands, Arg hv S w ob.length (e y) (a.eval y))
    {next : Value → World → Prop} (hn : ∀ v w' (hv' : Hv) S', Rel w0 σ hv' S' F a w' → (∃ L, footA hv' w' x v L ∧ ∀ b ∈ L, S' b) → x.under σ.ob.length = true → next v w') : Does P Q o a w next := by
  have hle : ob.length ≤ σ.ob.length := by rw [hob, List.length_append]; omega
  have ho : Obs ob hv S F w := (hob ▸ hr.obs).less hu
  rcases hf with hf | ⟨r, rfl, hf⟩
  · obtain ⟨v, h1, h2, h3⟩ := hf ho he
    exact does_value h1 (hn v w hv S hr h2 (AV.under_mono hle _ h3))
  · obtain ⟨f, args, h1, h2⟩ := hf ho hr.Blt (RootsIn.less (hob ▸ hr.rootsIn)) he
    unfold Does Oper.wp
    rw [h1, Oper.upon_enter]
    refine h2.mono fun en w' hh => ?_
    obtain ⟨v, L', rfl, q1, q2, q3⟩ := hh
    exact ⟨v, rfl, hn v w' _ _ (hr.grow q3) ⟨L', by simpa only [footA] using q1, q2⟩ rfl⟩

theorem St.opd_under {σ : St} (h : ∀ t, (getL σ.tm t).under σ.ob.length = true) (x : Operand) : (σ.opd x).under σ.ob.length = true := by
  cases x with
  | tmp t => exact h t
  | const v => exact ofV_under _ v
  | func f => simp [St.opd, AV.under, unders]
  | global g => rfl

/-- a part of the first operations is done -/
structure PartM (ops : Array Oper) (es : List (Bool × Nat)) (rs : List (AV × List Ob)) (σ0 : St) (listed : Array Bool) (σ : St) : Prop where
  n : σ.n = σ0.n
  ob : ∃ m, m ≤ es.length ∧ σ.ob = (runM ops σ0 (es.take m) (rs.take m)).ob ∧ ∀ (q : Nat) (j : Nat), es[q]? = some (true, j) → (listed.getD j false = true ↔ q < m)
  hit : ∀ (p : Nat) (b : Bool) (j : Nat) (o : Oper) (t : Nat) (x : AV) (ext : List Ob), es[p]? = some (b, j) → rs[p]? = some (x, ext) → ops[j]? = some o → o.dst = some t → listed.getD j false = true → getL σ.tm t = x
  miss : ∀ (t : Nat), (∀ (p : Nat) (b : Bool) (j : Nat) (o : Oper), es[p]? = some (b, j) → ops[j]? = some o → listed.getD j false = true → o.dst ≠ some t) → getL σ.tm t = getL σ0.tm t

theorem count_false : ∀ (l : List Bool) (m : Nat), (∀ j, m ≤ j → ∀ b, l[j]? = some b → b = false) → l.length - m ≤ l.count false := by
  intro l
  induction l with
  | nil => intro m _; simp
  | cons b l ihl =>
    intro m hm
    cases m with
    | zero =>
      have hb := hm 0 (Nat.le_refl _) b rfl
      subst hb
      have := ihl 0 (fun j _ b hb => hm (j + 1) (by omega) b (by simpa using hb))
      simp only [List.length_cons, List.count_cons_self]; omega
    | succ m =>
      have := ihl m (fun j hj b hb => hm (j + 1) (by omega) b (by simpa using hb))
      simp only [List.length_cons, List.count_cons]; omega

theorem early_soundM {ops : Array Oper} {k : Nat} {es : List (Bool × Nat)} (hs : StaticM ops k es) {K : St → Prop} (hQ : ∀ σ' (hv' : Hv) S' F' a' w', K σ' → Rel w0 σ' hv' S' F' a' w' → Q .normal a' w') {rs : List (AV × List Ob)} {σ0 : St}
    (hf : FactsM P ops σ0.ob.length σ0 es rs) {σe : St} (hE : Eqv (runM ops σ0 es rs) σe) (hK : vcOps P ops (ops.toList.drop k) σe K) :
    ∀ (fuel : Nat) {listed : Array Bool} {σ : St} {hv : Hv} {S : Nat → Prop} {F : Nat → List Nat} {a : Act} {w : World}, listed.size = ops.size → Down ops listed → (∀ j, k ≤ j → listed.getD j false = false) → listed.toList.count false ≤ fuel →
      PartM ops es rs σ0 listed σ → Rel w0 σ hv S F a w → wpAny P .any ops Q fuel listed a w := by
  intro fuel
  have hrl : rs.length = k := by rw [hf.len, hs.len]
  have hop : ∀ {p : Nat} {b : Bool} {i : Nat}, es[p]? = some (b, i) → ∃ o, ops[i]? = some o := fun {p b i} h => by obtain ⟨o, _, _, h, _⟩ := hf.get h; exact ⟨o, h⟩
  have hrs : ∀ {p : Nat} {b : Bool} {i : Nat}, es[p]? = some (b, i) → ∃ x ext, rs[p]? = some (x, ext) := fun {p b i} h => by
    obtain ⟨o, x, ext, _, h2, h3⟩ := hf.get h
    exact ⟨x, ext, h2⟩
  -- the objects after the first p
  have one : ∀ {p : Nat} {b : Bool} {i : Nat}, es[p]? = some (b, i) → ∃ o, ops[i]? = some o ∧ (b = false → (runM ops σ0 (es.take (p + 1)) (rs.take (p + 1))).ob = (runM ops σ0 (es.take p) (rs.take p)).ob) ∧ (isSt o.op = false → ∃ more, (runM ops σ0 (es.take (p + 1)) (rs.take (p + 1))).ob = (runM ops σ0 (es.take p) (rs.take p)).ob.take σ0.ob.length ++ more) ∧ (isSt o.op = false → isBs o.op = false → ∃ more, (runM ops σ0 (es.take (p + 1)) (rs.take (p + 1))).ob = (runM ops σ0 (es.take p) (rs.take p)).ob ++ more) := by
    intro p b i h
    obtain ⟨o, x, ob', ho, hx, _, hg⟩ := hf.get h
    refine ⟨o, ho, ?_⟩
    rw [runM_step es rs σ0 h hx ho, stp_ob]
    cases b with
    | true => exact ⟨fun hh => by simp at hh, hg.2.1⟩
    | false => exact ⟨fun _ => hg.1, fun _ => ⟨(runM ops σ0 (es.take p) (rs.take p)).ob.drop σ0.ob.length, by rw [List.take_append_drop]; exact hg.1⟩, fun _ _ => ⟨[], by rw [List.append_nil]; exact hg.1⟩⟩
  -- no maker between: the objects are the same
  have same : ∀ {p m : Nat}, p ≤ m → m ≤ es.length → (∀ (q j : Nat), p ≤ q → q < m → es[q]? ≠ some (true, j)) → (runM ops σ0 (es.take m) (rs.take m)).ob = (runM ops σ0 (es.take p) (rs.take p)).ob := by
    intro p m
    induction m with
    | zero => intro h _ _; have : p = 0 := by omega
              rw [this]
    | succ m ihm =>
      intro hpm hm hno
      rcases Nat.lt_or_ge m p with hp | hp
      · have : p = m + 1 := by omega
        rw [this]
      · rw [← ihm hp (by omega) (fun q j h1 h2 => hno q j h1 (by omega))]
        obtain ⟨⟨b, i⟩, he⟩ : ∃ e, es[m]? = some e := ⟨_, List.getElem?_eq_getElem (by omega)⟩
        obtain ⟨o, ho, h1, _⟩ := one he
        cases b with
        | true => exact absurd he (hno m i hp (by omega))
        | false => exact h1 rfl
  have app : ∀ {p m : Nat}, p ≤ m → m ≤ es.length → (∀ (q j : Nat) (r : Oper), p ≤ q → q < m → es[q]? = some (true, j) → ops[j]? = some r → isSt r.op = false ∧ isBs r.op = false) → ∃ more, (runM ops σ0 (es.take m) (rs.take m)).ob = (runM ops σ0 (es.take p) (rs.take p)).ob ++ more := by
    intro p m
    induction m with
    | zero => intro h _ _; have : p = 0 := by omega
              exact ⟨[], by rw [this, List.append_nil]⟩
    | succ m ihm =>
      intro hpm hm hno
      rcases Nat.lt_or_ge m p with hp | hp
      · have : p = m + 1 := by omega
        exact ⟨[], by rw [this, List.append_nil]⟩
      · obtain ⟨more, h⟩ := ihm hp (by omega) (fun q j r h1 h2 => hno q j r h1 (by omega))
        obtain ⟨⟨b, i⟩, he⟩ : ∃ e, es[m]? = some e := ⟨_, List.getElem?_eq_getElem (by omega)⟩
        obtain ⟨o, ho, h1, _, h2⟩ := one he
        cases b with
        | true =>
          obtain ⟨more', h'⟩ := h2 (hno m i o hp (by omega) he ho).1 (hno m i o hp (by omega) he ho).2
          exact ⟨more ++ more', by rw [h', h, List.append_assoc]⟩
        | false => exact ⟨more, by rw [h1 rfl, h]⟩
  -- the objects of the region's beginning stay in front
  have base : ∀ {m : Nat}, m ≤ es.length → (∀ (q j : Nat) (r : Oper), q < m → es[q]? = some (true, j) → ops[j]? = some r → isSt r.op = false) → ∃ more, (runM ops σ0 (es.take m) (rs.take m)).ob = σ0.ob ++ more := by
    intro m
    induction m with
    | zero => intro _ _; exact ⟨[], by simp [runM]⟩
    | succ m ihm =>
      intro hm hno
      obtain ⟨more, h⟩ := ihm (by omega) (fun q j r h1 => hno q j r (by omega))
      obtain ⟨⟨b, i⟩, he⟩ : ∃ e, es[m]? = some e := ⟨_, List.getElem?_eq_getElem (by omega)⟩
      obtain ⟨o, ho, h1, h2, _⟩ := one he
      cases b with
      | true =>
        obtain ⟨more', h'⟩ := h2 (hno m i o (by omega) he ho)
        exact ⟨more', by rw [h', h, List.take_left]⟩
      | false => exact ⟨more, by rw [h1 rfl, h]⟩
  have full : ∀ {listed : Array Bool} {σ : St} {hv : Hv} {S : Nat → Prop} {F : Nat → List Nat} {a : Act} {w : World}, (∀ j, j < k → listed.getD j false = true) → PartM ops es rs σ0 listed σ → Rel w0 σ hv S F a w →
      Rel w0 σe hv S F a w := by
    intro listed σ hv S F a w hall hp hr
    have q1 := runM_n (all := ops) es rs σ0
    obtain ⟨m, hmk, hm1, hm2⟩ := hp.ob
    refine Rel.tm_ext (hr.tm_ext (σ' := runM ops σ0 es rs) ⟨by rw [q1, hp.n], ?_, fun t => ?_⟩) hE
    · rw [hm1]
      have h1 : runM ops σ0 (es.take es.length) (rs.take es.length) = runM ops σ0 es rs := by rw [List.take_length, List.take_of_length_le (by rw [hrl, hs.len]; omega)]
      rw [← h1]
      refine same hmk (Nat.le_refl _) fun q j h2 h3 hq => ?_
      have := (hm2 q j hq).1 (hall j (hs.lt _ _ _ hq))
      omega
    by_cases ht : ∃ (p : Nat) (b : Bool) (j : Nat) (o : Oper), es[p]? = some (b, j) ∧ ops[j]? = some o ∧ o.dst = some t
    · obtain ⟨p, b, j, o, hpj, ho, hd⟩ := ht
      obtain ⟨x, ext, hx⟩ := hrs hpj
      rw [hp.hit p b j o t x ext hpj hx ho hd (hall j (hs.lt _ _ _ hpj))]
      refine runM_hit _ _ _ hpj hx ho hd fun q c i r hq hr hne => ?_
      exact (hs.apart q p c b i j r o t hq hpj hr ho hd).1.resolve_left hne
    · have hno : ∀ (p : Nat) (b : Bool) (j : Nat) (o : Oper), es[p]? = some (b, j) → ops[j]? = some o → o.dst ≠ some t := fun p b j o h1 h2 h3 => ht ⟨p, b, j, o, h1, h2, h3⟩
      rw [hp.miss t (fun p b j o h1 h2 _ => hno p b j o h1 h2)]
      exact runM_miss _ _ _ hno
  have fin : ∀ {listed : Array Bool} {σ : St} {hv : Hv} {S : Nat → Prop} {F : Nat → List Nat} {a : Act} {w : World}, listed.size = ops.size → (∀ j, k ≤ j → listed.getD j false = false) → Region.ready .any ops listed = [] →
      PartM ops es rs σ0 listed σ → Rel w0 σ hv S F a w → Q .normal a w := by
    intro listed σ hv S F a w hsz hno hre hp hr
    have hall := all_of_ready_nil hs.toStatic0 hsz hre
    have hk : k = ops.size := by
      rcases Nat.lt_or_ge k ops.size with h | h
      · have h1 := hall k h
        rw [hno k (Nat.le_refl _)] at h1
        cases h1
      · have := hs.le; omega
    have hr' := full (fun j hj => hall j (by omega)) hp hr
    rw [List.drop_of_length_le (by simp [hk])] at hK
    exact hQ _ _ _ _ _ _ hK hr'
  induction fuel with
  | zero =>
    intro listed σ hv S F a w hsz hd hno hc hp hr
    have hre : Region.ready .any ops listed = [] := by
      cases hre : Region.ready .any ops listed with
      | nil => rfl
      | cons i is =>
        have : i ∈ Region.ready .any ops listed := by rw [hre]; exact List.mem_cons_self ..
        obtain ⟨h0, _⟩ := mem_ready.1 this
        obtain ⟨h1, h2⟩ := getD_false_true h0
        have : false ∈ listed.toList := by
          have : listed[i] = false := by simpa [h2] using h1
          rw [← this]; simp
        have := List.count_pos_iff.2 this
        omega
    exact ⟨hre, fin hsz hno hre hp hr⟩
  | succ fuel ih =>
    intro listed σ hv S F a w hsz hd hno hc hp hr
    refine ⟨fun hre => fin hsz hno hre hp hr, fun i hi => ?_⟩
    obtain ⟨h0, o, ho, hall⟩ := mem_ready.1 hi
    obtain ⟨h1, h2⟩ := getD_false_true h0
    have hcount : (listed.setIfInBounds i true).toList.count false ≤ fuel := by
      rw [Array.toList_setIfInBounds, List.count_set (by simpa using h2)]
      have : listed[i] = false := by simpa [h2] using h1
      have hpos : 0 < listed.toList.count false := List.count_pos_iff.2 (by rw [← this]; simp)
      simp [this]
      rw [← Array.count_toList]
      omega
    rcases Nat.lt_or_ge i k with hik | hik
    · obtain ⟨p, b, hpi⟩ := hs.onto i hik
      have hpk : p < k := by have := (List.getElem?_eq_some_iff.1 hpi).1; rw [hs.len] at this; exact this
      obtain ⟨o', x, ext, ho', hx, ⟨hd1, hu1, hu2⟩, hg⟩ := hf.get hpi
      rw [ho] at ho'
      cases ho'
      have hwait : ∀ j, waits ops i j = true → listed.getD j false = true := by
        intro j hw
        obtain ⟨o', ho', e, he, hb, rfl⟩ := waits_spec.1 hw
        rw [ho] at ho'
        cases ho'
        exact hall e he hb
      have hget : ∀ (q : Nat) (c : Bool) (j : Nat), (es.take p)[q]? = some (c, j) → es[q]? = some (c, j) ∧ q < p := by
        intro q c j hq
        have hqp : q < p := by have := (List.getElem?_eq_some_iff.1 hq).1; simp only [List.length_take] at this; omega
        rw [List.getElem?_take_of_lt hqp] at hq
        exact ⟨hq, hqp⟩
      have hlook : ∀ t ∈ o.looksAt ops, getL σ.tm t = getL (runM ops σ0 (es.take p) (rs.take p)).tm t := by
        intro t ht
        by_cases hex : ∃ (q : Nat) (c : Bool) (j : Nat) (r : Oper), es[q]? = some (c, j) ∧ ops[j]? = some r ∧ r.dst = some t
        · obtain ⟨q, c, j, r, hq, hr', hrd⟩ := hex
          obtain ⟨hqp, hw⟩ := (hs.apart p q b c i j o r t hpi hq ho hr' hrd).2 ht
          obtain ⟨y, exy, hy⟩ := hrs hq
          rw [hp.hit q c j r t y exy hq hy hr' hrd (hwait j hw)]
          refine (runM_hit _ _ _ (by rw [List.getElem?_take_of_lt hqp]; exact hq) (by rw [List.getElem?_take_of_lt hqp]; exact hy) hr' hrd fun m d l z hm hz hne => ?_).symm
          exact (hs.apart m q d c l j z r t (hget m d l hm).1 hq hz hr' hrd).1.resolve_left hne
        · have hnone : ∀ (q : Nat) (c : Bool) (j : Nat) (r : Oper), es[q]? = some (c, j) → ops[j]? = some r → r.dst ≠ some t := fun q c j r h1 h2 h3 => hex ⟨q, c, j, r, h1, h2, h3⟩
          rw [hp.miss t fun q c j r h1 h2 _ => hnone q c j r h1 h2]
          exact (runM_miss _ _ _ fun q c j r h1 h2 => hnone q c j r (hget q c j h1).1 h2).symm
      have n1 := runM_n (all := ops) (es.take p) (rs.take p) σ0
      have hdk : ∀ t, o.dst = some t → t < σ.n := fun t ht => by
        rw [ht, n1] at hd1
        rw [hp.n]; exact hd1
      obtain ⟨m, hmk, hm1, hm2⟩ := hp.ob
      have hnl : listed.getD i false = false := by
        cases hh : listed.getD i false with
        | false => rfl
        | true =>
          have : listed[i] = false := by simpa [h2] using h1
          simp [h2, this] at hh
      -- the makers in front are done
      have hfront : ∀ (q : Nat) (j : Nat), es[q]? = some (true, j) → q < p → q < m := fun q j hq hqp => (hm2 q j hq).1 (waitsT_ready hd hwait 3 j (hs.level p q b i j hpi hq hqp))
      have hpart : ∀ (x' : AV) (ob' : List Ob), x' = x → (∃ m, m ≤ es.length ∧ ob' = (runM ops σ0 (es.take m) (rs.take m)).ob ∧ ∀ (q : Nat) (j : Nat), es[q]? = some (true, j) → ((listed.setIfInBounds i true).getD j false = true ↔ q < m)) → PartM ops es rs σ0 (listed.setIfInBounds i true) (({ σ with ob := ob' } : St).set o.dst x') := by
        rintro x' ob' rfl hob
        refine ⟨by rw [← hp.n]; cases o.dst <;> rfl, ?_, fun q c j r t y exy hq hy hr' hrd hl => ?_, fun t ht => ?_⟩
        · have : (({ σ with ob := ob' } : St).set o.dst x').ob = ob' := by cases o.dst <;> rfl
          rw [this]; exact hob
        · rw [getL_set]
          by_cases hji : j = i
          · subst hji
            have := hs.inj q p c b j hq hpi
            subst this
            rw [ho] at hr'
            cases hr'
            rw [hx] at hy
            cases hy
            rw [if_pos hrd]
          · rw [getD_set h2] at hl
            have hl' : listed.getD j false = true := by simpa [Ne.symm hji] using hl
            have hne : o.dst ≠ some t := (hs.apart p q b c i j o r t hpi hq ho hr' hrd).1.resolve_left (fun e => by subst e; rw [hq] at hpi; cases hpi; exact hji rfl)
            rw [if_neg hne]
            exact hp.hit q c j r t y exy hq hy hr' hrd hl'
        · rw [getL_set, if_neg (ht p b i o hpi ho (by rw [getD_set h2]; simp))]
          exact hp.miss t fun q c j r hq hr' hl => ht q c j r hq hr' (by rw [getD_set h2]; simp only [hl, Bool.or_true])
      have hdown' : Down ops (listed.setIfInBounds i true) := by
        intro u v hu hw
        rw [getD_set h2] at hu ⊢
        by_cases hiu : i = u
        · subst hiu; simp only [hwait v hw, Bool.or_true]
        · have : listed.getD u false = true := by simpa [hiu] using hu
          simp only [hd u v this hw, Bool.or_true]
      have hno' : ∀ j, k ≤ j → (listed.setIfInBounds i true).getD j false = false := fun j hj => by
        rw [getD_set h2, hno j hj]
        simp only [Bool.or_false, decide_eq_false_iff_not]; omega
      have hguard := guard_congr (ops := ops) (o := o) hlook
      have hopd := opd_congr (ops := ops) (o := o) hlook
      unfold wpOp
      rw [ho]
      simp only
      cases b with
      | true =>
        rw [if_pos rfl] at hg
        obtain ⟨hgd, _, hmk'⟩ := hg
        have hgo : guardOf ops σ o = some true := by unfold guardOf; rw [hgd]
        -- just those in front are done
        have hback : ∀ (q : Nat) (j : Nat), es[q]? = some (true, j) → p ≤ q → m ≤ q := by
          intro q j hq hpq
          rcases Nat.lt_or_ge q m with h | h
          · exfalso
            have hlj := (hm2 q j hq).2 h
            rcases Nat.lt_or_ge p q with h' | h'
            · have := waitsT_down hd 3 j i (hs.level q p true j i hq hpi h') hlj
              rw [hnl] at this; cases this
            · have : q = p := by omega
              subst this
              rw [hpi] at hq
              cases hq
              rw [hnl] at hlj; cases hlj
          · exact h
        have hobp : σ.ob = (runM ops σ0 (es.take p) (rs.take p)).ob := by
          rw [hm1]
          rcases Nat.le_total p m with hpm | hpm
          · refine same hpm hmk fun q j h2 h3 hq => ?_
            have := hback q j hq h2
            omega
          · refine (same hpm (by rw [hs.len]; omega) fun q j h2 h3 hq => ?_).symm
            have := hfront q j hq h3
            omega
        rw [if_pos (wanted_of hr hgo)]
        refine .inl ?_
        have := hmk'.does (Q := Q) hr hobp hopd (next := fun v w' => wpAny P .any ops Q fuel (listed.setIfInBounds i true) (a.put o.dst v) w') (fun v w' x' ob' hv' S' F' L hk q1 q2 q3 q4 => by
          obtain ⟨rfl, rfl⟩ := hk
          refine ih (by simpa using hsz) hdown' hno' hcount (hpart x' _ rfl ⟨p + 1, by rw [hs.len]; omega, ?_, ?_⟩) (q1.put (d := o.dst) q2 q3 q4 hdk)
          · rw [runM_step es rs σ0 hpi hx ho, stp_ob]
          · intro q j hq
            rw [getD_set h2]
            by_cases hij : i = j
            · subst hij
              have := hs.inj q p true true i hq hpi
              subst this
              simp
            · simp only [hij, decide_false, Bool.false_or]
              rw [hm2 q j hq]
              have hqp : q ≠ p := fun e => by subst e; rw [hpi] at hq; cases hq; exact hij rfl
              refine ⟨fun h => ?_, fun h => hfront q j hq (by omega)⟩
              rcases Nat.lt_or_ge q p with h' | h'
              · omega
              · have := hback q j hq h'
                omega)
        unfold Does at this
        exact Oper.wp_mono (fun a' w' ⟨v, ha, hv⟩ => ha ▸ hv) this
      | false =>
        rw [if_neg (by simp)] at hg
        obtain ⟨_, hg⟩ := hg
        have hm2' : ∃ m, m ≤ es.length ∧ σ.ob = (runM ops σ0 (es.take m) (rs.take m)).ob ∧ ∀ (q : Nat) (j : Nat), es[q]? = some (true, j) → ((listed.setIfInBounds i true).getD j false = true ↔ q < m) := by
          refine ⟨m, hmk, hm1, fun q j hq => ?_⟩
          rw [getD_set h2]
          have hij : i ≠ j := fun e => by
            subst e
            have := hs.inj q p true false i hq hpi
            subst this
            rw [hpi] at hq; cases hq
          simp only [hij, decide_false, Bool.false_or]
          exact hm2 q j hq
        have hpart' := hpart x σ.ob rfl hm2'
        rcases hg with ⟨hg, hfact, hpure⟩ | ⟨hg, rfl⟩
        · rw [if_pos (wanted_of hr (hguard.trans hg))]
          refine .inl ?_
          have hgo : Does P Q o a w fun v w' => wpAny P .any ops Q fuel (listed.setIfInBounds i true) (a.put o.dst v) w' := by
            cases hpo : isPure o.op with
            | true =>
              have hfact' := hpure hpo hr hopd
              exact hfact'.does (Q := Q) hr (fun y hy => by rw [← hopd y hy]; exact hr.arg y) (fun v w' hv' S' hr' ⟨L, f1, f2⟩ hu =>
                ih (by simpa using hsz) hdown' hno' hcount hpart' (hr'.put (d := o.dst) f1 f2 hu hdk))
            | false =>
              obtain ⟨more, hmore⟩ : ∃ more, σ.ob = (runM ops σ0 (es.take p) (rs.take p)).ob ++ more := by
                rw [hm1]
                rcases Nat.le_total p m with hpm | hpm
                · have hcase : ∀ (q j : Nat) (r : Oper), p ≤ q → q < m → es[q]? = some (true, j) → ops[j]? = some r → isSt r.op = false ∧ (isBs r.op = false ∨ ∀ e ∈ es.take p, e.1 = false) := by
                    intro q j r h2' h3 hq hr'
                    have hlj := (hm2 q j hq).2 h3
                    have hqp : p < q := by
                      rcases Nat.lt_or_ge p q with h | h
                      · exact h
                      · have : q = p := by omega
                        subst this
                        rw [hpi] at hq; cases hq
                    rcases hs.pure p q i j o r hpi hq ho hr' hqp with h | h | h
                    · rw [hpo] at h; cases h
                    · have := waitsT_down hd 3 j i h hlj
                      rw [hnl] at this; cases this
                    · exact h
                  by_cases hzero : ∀ e ∈ es.take p, e.1 = false
                  · have hnone : ∀ (q j : Nat), q < p → es[q]? ≠ some (true, j) := by
                      intro q j hq hqj
                      have : (true, j) ∈ es.take p := List.mem_of_getElem? (i := q) (by rw [List.getElem?_take_of_lt hq]; exact hqj)
                      have := hzero _ this
                      cases this
                    have h0 : (runM ops σ0 (es.take p) (rs.take p)).ob = σ0.ob := by
                      have := same (p := 0) (m := p) (Nat.zero_le _) (by rw [hs.len]; omega) (fun q j _ h3 => hnone q j h3)
                      rw [this]; simp [runM]
                    rw [h0]
                    refine base hmk fun q j r h3 hq hr' => ?_
                    rcases Nat.lt_or_ge q p with h | h
                    · exact absurd hq (hnone q j h)
                    · exact (hcase q j r h h3 hq hr').1
                  · refine app hpm hmk fun q j r h2' h3 hq hr' => ?_
                    obtain ⟨c1, c2⟩ := hcase q j r h2' h3 hq hr'
                    exact ⟨c1, c2.resolve_right hzero⟩
                · refine ⟨[], ?_⟩
                  rw [List.append_nil]
                  refine (same hpm (by rw [hs.len]; omega) fun q j h2 h3 hq => ?_).symm
                  have := hfront q j hq h3
                  omega
              have hargs : ∀ y ∈ o.op.operands, Arg hv S w (runM ops σ0 (es.take p) (rs.take p)).ob.length ((runM ops σ0 (es.take p) (rs.take p)).opd y) (a.eval y) := by
                intro y hy
                refine ⟨by rw [← hopd y hy]; exact (hr.arg y).1, ?_⟩
                exact St.opd_under hu1 y
              exact hfact.doesMore (Q := Q) hr hmore hu2 hargs (fun v w' hv' S' hr' ⟨L, f1, f2⟩ hu =>
                ih (by simpa using hsz) hdown' hno' hcount hpart' (hr'.put (d := o.dst) f1 f2 hu hdk))
          unfold Does at hgo
          exact Oper.wp_mono (fun a' w' ⟨v, ha, hv⟩ => ha ▸ hv) hgo
        · rw [if_neg (by rw [wanted_of hr (hguard.trans hg)]; simp)]
          exact ih (by simpa using hsz) hdown' hno' hcount hpart' (hr.put (d := o.dst) (x := .ud) (v := undef) (L := []) (by simp [footA]) (by simp) rfl hdk)
    · -- the first of the others
      have hbefore := ready_chain hs.toStatic0 hd hi hik
      have hik' : i = k := by
        rcases Nat.lt_or_ge k i with h | h
        · have := hbefore (i - k) k rfl h
          rw [hno k (Nat.le_refl _)] at this
          cases this
        · omega
      subst hik'
      have hr' := full (fun j hj => hbefore (i - j) j rfl hj) hp hr
      have hlt : i < ops.size := by omega
      have hdrop : ops.toList.drop i = o :: ops.toList.drop (i + 1) := by
        rw [List.drop_eq_getElem_cons (by simpa using hlt)]
        congr 1
        have := Array.getElem?_eq_getElem hlt
        rw [ho] at this
        simpa using (Option.some.inj this).symm
      rw [hdrop] at hK
      refine op_step ho hr' hK fun σ' hv' S' F' a' w' hK' hr'' => ?_
      have hl : ∀ j, (listed.setIfInBounds i true).getD j false = decide (j < i + 1) := fun j => by
        rw [getD_set h2]
        rcases Nat.lt_trichotomy j i with h | h | h
        · rw [hbefore (i - j) j rfl h]; simp; omega
        · subst h; simp
        · rw [hno j (by omega)]
          simp only [Bool.or_false, decide_eq_decide]; omega
      refine late_sound hs.toStatic0 hQ fuel (by simpa using hsz) hlt (by omega) hl ?_ hr'' hK'
      have hc2 := count_false (listed.setIfInBounds i true).toList (i + 1) (fun j hj b hb => by
        have := hl j
        rw [Array.getElem?_toList] at hb
        simp only [Array.getD_eq_getD_getElem?, hb, Option.getD_some] at this
        rw [this]; simp; omega)
      simp only [Array.length_toList, Array.size_setIfInBounds] at hc2
      omega

/-- A REGION WHOSE ORDER IS OPEN, in which objects are made -/
theorem vcDm_run {id : Nat} {ops : Array Oper} {k : Nat} {es : List (Bool × Nat)} {K : St → Prop} (hm : P.follows .mixedOrders = true) (hr : Rel w0 σ hv S F a w) (hk : okDrawM ops k es = true) (h : vcDm P ops σ.ob.length es (ops.toList.drop k) σ K)
    (hQ : ∀ σ' (hv' : Hv) S' F' a' w', K σ' → Rel w0 σ' hv' S' F' a' w' → Q .normal a' w') : (Code.region id ops true).wp P Q a w := by
  have hs := okDrawM_spec hk
  have hr' := hr.grow (Grew.drew w)
  obtain ⟨rs, σe, k0, k1, k2⟩ := vcDm_sound _ hr (Eqv.refl σ) h
  refine wp_region_any hm ?_
  have hrep : ∀ j, (Array.replicate ops.size false).getD j false = false := fun j => by
    rcases Nat.lt_or_ge j ops.size with h | h <;> simp [h]
  refine early_soundM hs hQ k2 k0 k1 ops.size (by simp) (fun i j hi _ => absurd hi (by rw [hrep]; simp)) (fun j _ => hrep j) (by simp) ⟨rfl, ⟨0, by omega, by simp [runM], fun q j _ => by rw [hrep]; simp⟩, fun p b j o t x ext _ _ _ _ hl => absurd hl (by rw [hrep]; simp), fun _ _ => rfl⟩ hr'
end
end Go.Proofs.Ythhgcklidfilfaa.BX
