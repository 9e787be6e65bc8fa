/-
  A frame for proofs over whole functions, second make, seventeenth part: a region whose order is open.
-/
import Derived.Test.YthhgcklidfilfaaBxP
namespace Go.Proofs.Ythhgcklidfilfaa.BX
set_option linter.unusedSectionVars false
set_option linter.unusedSimpArgs false
set_option linter.unusedVariables false
open Go Go.RowKit
variable [Bd]

def putAll : St → List Oper → List AV → St
  | σ, o :: os, x :: xs => putAll (σ.set o.dst x) os xs
  | σ, _, _ => σ

/-- operations that only look, in the text's order -/
def vcPre (P : Program) (all : Array Oper) : List Oper → St → (St → Prop) → Prop
  | [], σ, K => K σ
  | o :: rest, σ, K => dstOk σ.n o.dst ∧ vcGuard all σ o (fun σ => vcLook P σ.ob σ.opd o.op fun x => vcPre P all rest (σ.set o.dst x) K) (fun σ => vcPre P all rest (σ.set o.dst .ud) K)

def FactG (P : Program) (all : Array Oper) (σ : St) (o : Oper) (x : AV) : Prop :=
  dstOk σ.n o.dst ∧ ((guardOf all σ o = some true ∧ Fact P σ.ob σ.opd o x) ∨ (guardOf all σ o = some false ∧ x = .ud))

def Facts (P : Program) (all : Array Oper) : St → List Oper → List AV → Prop
  | _, [], [] => True
  | σ, o :: os, x :: xs => FactG P all σ o x ∧ Facts P all (σ.set o.dst x) os xs
  | _, _, _ => False

def waits (ops : Array Oper) (i j : Nat) : Bool :=
  match ops[i]? with
  | some o => o.after.any fun e => Region.binds .any e && e.on == j
  | none => false

/-- the first k operations of a region may stand in any order that the edges leave open, the others stand as in the text -/
def okDraw (ops : Array Oper) (k : Nat) : Bool :=
  (decide (k ≤ ops.size)) &&
  ((List.range ops.size).all fun i => match ops[i]? with
    | some o => (o.after.all fun e => !Region.binds .any e || decide (e.on < i)) && (decide (i < k) || (List.range i).all fun j => (List.range ops.size).any fun m => decide (j < m) && decide (m ≤ i) && waits ops m j)
    | none => false) &&
  ((List.range k).all fun i => match ops[i]? with
    | some o => (List.range k).all fun j => match ops[j]? with
      | some p => match p.dst with
        | some t => (i == j || o.dst != some t) && (!(o.looksAt ops).contains t || (decide (j < i) && waits ops i j))
        | none => true
      | none => false
    | none => false)

def vcDraw (P : Program) (ops : Array Oper) (k : Nat) (σ : St) (K : St → Prop) : Prop :=
  okDraw ops k = true ∧ vcPre P ops (ops.toList.take k) σ fun σ' => vcOps P ops (ops.toList.drop k) σ' K

section
variable {P : Program} {Q : Exit → Act → World → Prop} {w0 : Base} {σ : St} {hv : Hv} {S : Nat → Prop} {F : Nat → List Nat} {a : Act} {w : World}

theorem Calls.some {f : FuncId} {args : Array Value} {R : Ending → World → Prop} (h : Calls P f args w R) : ∃ e w', R e w' := by
  obtain ⟨e, w', _, hR, _⟩ := h []
  exact ⟨e, w', hR⟩

theorem Eqv.opd {σ σ' : St} (h : Eqv σ σ') (y : Operand) : σ'.opd y = σ.opd y := by
  cases y with
  | tmp t => exact h.tm t
  | _ => rfl

theorem vcPre_sound {all : Array Oper} : ∀ (pre : List Oper) {σ σ' : St} {hv : Hv} {S : Nat → Prop} {F : Nat → List Nat} {a : Act} {w : World} {K : St → Prop}, Rel w0 σ hv S F a w → Eqv σ σ' → vcPre P all pre σ' K →
    ∃ (xs : List AV) (σ'' : St), Eqv (putAll σ pre xs) σ'' ∧ K σ'' ∧ Facts P all σ pre xs
  | [], σ, σ', hv, S, F, a, w, K, hr, he, h => ⟨[], σ', he, h, trivial⟩
  | o :: rest, σ, σ', hv, S, F, a, w, K, hr, he, h => by
    obtain ⟨hd, h⟩ := h
    rw [he.n] at hd
    have hdk : ∀ k, o.dst = some k → k < σ.n := fun k hk => by rw [hk] at hd; exact hd
    rcases vcGuard_sound he h with ⟨hg, σ1, he1, h⟩ | ⟨hg, σ1, he1, h⟩
    · have hr1 := hr.tm_ext he1
      obtain ⟨x, hx, hf⟩ := vcLook_sound hr1.obs (fun y _ => hr1.arg y) h
      rw [he1.ob, show σ1.opd = σ.opd from funext he1.opd] at hf
      obtain ⟨hv', S', F', a', w', hr'⟩ : ∃ hv' S' F' a' w', Rel w0 (σ.set o.dst x) hv' S' F' a' w' := by
        rcases hf with hf | ⟨r, rfl, hf⟩
        · obtain ⟨v, h1, ⟨L, h2, h2'⟩, h3⟩ := hf hr.obs (fun y _ => hr.arg y)
          exact ⟨hv, S, F, _, w, hr.put h2 h2' h3 hdk⟩
        · obtain ⟨f, args, h1, h2⟩ := hf hr.obs hr.Blt hr.rootsIn (fun y _ => hr.arg y)
          obtain ⟨en, w', v, L', rfl, q1, q2, q3⟩ := Calls.some h2
          exact ⟨_, _, F, _, w', (hr.grow q3).put (x := .t r) (by simpa only [footA] using q1) q2 rfl hdk⟩
      obtain ⟨xs, σ'', k0, k1, k2⟩ := vcPre_sound rest hr' (he1.set o.dst x) hx
      exact ⟨x :: xs, σ'', k0, k1, ⟨hd, .inl ⟨hg, hf⟩⟩, k2⟩
    · obtain ⟨xs, σ'', k0, k1, k2⟩ := vcPre_sound rest (hr.put (d := o.dst) (x := .ud) (v := undef) (L := []) (by simp [footA]) (by simp) rfl hdk) (he1.set o.dst .ud) h
      exact ⟨.ud :: xs, σ'', k0, k1, ⟨hd, .inr ⟨hg, rfl⟩⟩, k2⟩

theorem Facts.len {all : Array Oper} : ∀ {os : List Oper} {xs : List AV} {σ : St}, Facts P all σ os xs → xs.length = os.length
  | [], [], _, _ => rfl
  | [], _ :: _, _, h => h.elim
  | _ :: _, [], _, h => h.elim
  | _ :: os, _ :: xs, σ, h => by simp [Facts.len h.2]

theorem Facts.get {all : Array Oper} : ∀ {os : List Oper} {xs : List AV} {σ : St}, Facts P all σ os xs → ∀ {i : Nat} {o : Oper}, os[i]? = some o → ∃ x, xs[i]? = some x ∧ FactG P all (putAll σ (os.take i) (xs.take i)) o x
  | [], _, _, _, i, o, hi => by simp at hi
  | _ :: _, [], _, h, _, _, _ => h.elim
  | o :: os, x :: xs, σ, h, 0, o', hi => by
    simp only [List.getElem?_cons_zero, Option.some.injEq] at hi
    subst hi
    exact ⟨x, rfl, h.1⟩
  | o :: os, x :: xs, σ, h, i + 1, o', hi => by
    obtain ⟨y, h1, h2⟩ := Facts.get h.2 (i := i) (by simpa using hi)
    exact ⟨y, by simpa using h1, h2⟩

theorem putAll_n : ∀ (os : List Oper) (xs : List AV) (σ : St), (putAll σ os xs).n = σ.n ∧ (putAll σ os xs).ob = σ.ob
  | [], _, _ => ⟨rfl, rfl⟩
  | _ :: _, [], _ => ⟨rfl, rfl⟩
  | o :: os, x :: xs, σ => by
    obtain ⟨h1, h2⟩ := putAll_n os xs (σ.set o.dst x)
    simp only [putAll]
    rw [h1, h2]
    cases o.dst <;> exact ⟨rfl, rfl⟩

theorem putAll_miss {t : Nat} : ∀ (os : List Oper) (xs : List AV) (σ : St), (∀ (j : Nat) (o : Oper), os[j]? = some o → o.dst ≠ some t) → getL (putAll σ os xs).tm t = getL σ.tm t
  | [], _, _, _ => rfl
  | _ :: _, [], _, _ => rfl
  | o :: os, x :: xs, σ, h => by
    simp only [putAll]
    rw [putAll_miss os xs _ (fun j o' hj => h (j + 1) o' (by simpa using hj)), getL_set, if_neg (h 0 o rfl)]

theorem putAll_hit {t : Nat} : ∀ (os : List Oper) (xs : List AV) (σ : St) {j : Nat} {o : Oper} {x : AV}, os[j]? = some o → xs[j]? = some x → o.dst = some t → (∀ (i : Nat) (o' : Oper), os[i]? = some o' → i ≠ j → o'.dst ≠ some t) → getL (putAll σ os xs).tm t = x
  | [], _, _, _, _, _, h, _, _, _ => by simp at h
  | _ :: _, [], _, _, _, _, _, h, _, _ => by simp at h
  | o :: os, x :: xs, σ, 0, o', x', h1, h2, h3, h4 => by
    simp only [List.getElem?_cons_zero, Option.some.injEq] at h1 h2
    subst h1 h2
    simp only [putAll]
    rw [putAll_miss os xs _ (fun j o' hj => h4 (j + 1) o' (by simpa using hj) (by omega)), getL_set, if_pos h3]
  | o :: os, x :: xs, σ, j + 1, o', x', h1, h2, h3, h4 => by
    simp only [putAll]
    exact putAll_hit os xs _ (by simpa using h1) (by simpa using h2) h3 (fun i o' hi hne => h4 (i + 1) o' (by simpa using hi) (by omega))

theorem opd_congr {σ σ' : St} {ops : Array Oper} {o : Oper} (h : ∀ t ∈ o.looksAt ops, getL σ'.tm t = getL σ.tm t) : ∀ y ∈ o.op.operands, σ'.opd y = σ.opd y := by
  intro y hy
  cases y with
  | tmp t => exact h t (List.mem_append_left _ (List.mem_filterMap.2 ⟨.tmp t, by simpa using hy, rfl⟩))
  | _ => rfl

theorem guard_congr {σ σ' : St} {ops : Array Oper} {o : Oper} (h : ∀ t ∈ o.looksAt ops, getL σ'.tm t = getL σ.tm t) : guardOf ops σ' o = guardOf ops σ o := by
  unfold guardOf
  cases hg : o.guard with
  | none => rfl
  | some p =>
    obtain ⟨j, b⟩ := p
    simp only
    cases hd : (ops[j]?).bind (·.dst) with
    | none => rfl
    | some d =>
      have : getL σ'.tm d = getL σ.tm d := h d (List.mem_append_right _ (by simp [hg, hd]))
      simp only [this]

theorem Fact.congr {ob : List Ob} {e e' : Operand → AV} {o : Oper} {x : AV} (h : ∀ y ∈ o.op.operands, e' y = e y) (hf : Fact P ob e o x) : Fact P ob e' o x := by
  rcases hf with hf | ⟨r, rfl, hf⟩
  · exact .inl fun {hv S F w ρ} hob harg => hf hob fun y hy => by rw [← h y hy]; exact harg y hy
  · exact .inr ⟨r, rfl, fun {hv S F w ρ} hob hS hR harg => hf hob hS hR fun y hy => by rw [← h y hy]; exact harg y hy⟩


structure Static0 (ops : Array Oper) (k : Nat) : Prop where
  le : k ≤ ops.size
  back : ∀ i o, ops[i]? = some o → ∀ e ∈ o.after, Region.binds .any e = true → e.on < i
  chain : ∀ i o, ops[i]? = some o → k ≤ i → ∀ j, j < i → ∃ m, j < m ∧ m ≤ i ∧ waits ops m j = true
structure Static (ops : Array Oper) (k : Nat) : Prop extends Static0 ops k where
  apart : ∀ i j o p t, i < k → j < k → ops[i]? = some o → ops[j]? = some p → p.dst = some t → (i = j ∨ o.dst ≠ some t) ∧ (t ∈ o.looksAt ops → j < i ∧ waits ops i j = true)

theorem okDraw_spec {ops : Array Oper} {k : Nat} (h : okDraw ops k = true) : Static ops k := by
  simp only [okDraw, Bool.and_eq_true, decide_eq_true_eq, List.all_eq_true, List.mem_range] at h
  obtain ⟨⟨h1, h2⟩, h3⟩ := h
  refine ⟨⟨h1, fun i o ho e he hb => ?_, fun i o ho hk j hj => ?_⟩, fun i j o p t hi hj ho hp ht => ?_⟩
  · have := h2 i (Array.getElem?_eq_some_iff.1 ho).1
    simp only [ho, Bool.and_eq_true, Array.all_eq_true_iff_forall_mem, Bool.or_eq_true, Bool.not_eq_true', decide_eq_true_eq] at this
    rcases this.1 e he with h | h
    · rw [hb] at h; cases h
    · exact h
  · have := h2 i (Array.getElem?_eq_some_iff.1 ho).1
    simp only [ho, Bool.and_eq_true, Bool.or_eq_true, decide_eq_true_eq, List.all_eq_true, List.any_eq_true, List.mem_range] at this
    rcases this.2 with h | h
    · omega
    · obtain ⟨m, _, ⟨q1, q2⟩, q3⟩ := h j hj
      exact ⟨m, q1, q2, q3⟩
  · have := h3 i hi
    simp only [ho, List.all_eq_true, List.mem_range] at this
    have := this j hj
    simp only [hp, ht, Bool.and_eq_true, Bool.or_eq_true, beq_iff_eq, bne_iff_ne, ne_eq, Bool.not_eq_true', decide_eq_true_eq] at this
    refine ⟨this.1, fun hm => ?_⟩
    rcases this.2 with h | h
    · simp [hm] at h
    · exact h

theorem waits_spec {ops : Array Oper} {i j : Nat} : waits ops i j = true ↔ ∃ o, ops[i]? = some o ∧ ∃ e ∈ o.after, Region.binds .any e = true ∧ e.on = j := by
  unfold waits
  cases ops[i]? with
  | none => simp
  | some o =>
    simp only [Array.any_eq_true, Bool.and_eq_true, beq_iff_eq, Option.some.injEq, exists_eq_left']
    constructor
    · rintro ⟨n, hn, h1, h2⟩; exact ⟨_, Array.getElem_mem hn, h1, h2⟩
    · rintro ⟨e, he, h1, h2⟩
      obtain ⟨n, hn, rfl⟩ := Array.mem_iff_getElem.1 he
      exact ⟨n, hn, h1, h2⟩

theorem getD_false_true {listed : Array Bool} {i : Nat} (h : listed.getD i true = false) : listed.getD i false = false ∧ i < listed.size := by
  rcases Nat.lt_or_ge i listed.size with hi | hi
  · simp [hi] at h ⊢; exact h
  · simp [Array.getElem?_eq_none hi] at h

theorem getD_true_false {listed : Array Bool} {i : Nat} (h : listed.getD i false = false) (hi : i < listed.size) : listed.getD i true = false := by
  simp [hi] at h ⊢; exact h

/-- what is listed has what it waits for -/
def Down (ops : Array Oper) (listed : Array Bool) : Prop := ∀ i j, listed.getD i false = true → waits ops i j = true → listed.getD j false = true

theorem ready_chain {ops : Array Oper} {k : Nat} (hs : Static0 ops k) {listed : Array Bool} (hd : Down ops listed) {i : Nat} (hi : i ∈ Region.ready .any ops listed) (hk : k ≤ i) : ∀ d j, i - j = d → j < i → listed.getD j false = true := by
  obtain ⟨h0, o, ho, hall⟩ := mem_ready.1 hi
  intro d
  induction d using Nat.strongRecOn with
  | _ d ih =>
    intro j hd' hj
    obtain ⟨m, m1, m2, m3⟩ := hs.chain i o ho hk j hj
    rcases Nat.lt_or_ge m i with hm | hm
    · exact hd m j (ih (i - m) (by omega) m rfl hm) m3
    · have : m = i := by omega
      subst this
      obtain ⟨o', ho', e, he, hb, rfl⟩ := waits_spec.1 m3
      rw [ho] at ho'
      cases ho'
      exact hall e he hb

theorem all_of_ready_nil {ops : Array Oper} {k : Nat} (hs : Static0 ops k) {listed : Array Bool} (hsz : listed.size = ops.size) (h : Region.ready .any ops listed = []) : ∀ i, i < ops.size → listed.getD i false = true := by
  intro i
  induction i using Nat.strongRecOn with
  | _ i ih =>
    intro hi
    cases hl : listed.getD i false with
    | true => rfl
    | false =>
      exfalso
      have : i ∈ Region.ready .any ops listed := by
        rw [mem_ready]
        refine ⟨getD_true_false hl (by omega), ops[i], Array.getElem?_eq_getElem hi, fun e he hb => ?_⟩
        have := hs.back i _ (Array.getElem?_eq_getElem hi) e he hb
        exact ih e.on this (by omega)
      rw [h] at this
      cases this

theorem getD_set {listed : Array Bool} {i j : Nat} (hi : i < listed.size) : (listed.setIfInBounds i true).getD j false = (decide (i = j) || listed.getD j false) := by
  by_cases h : i = j
  · subst h; simp [hi]
  · rw [getD_set_ne false h]; simp [h]

theorem op_step {ops : Array Oper} {rest : List Oper} {o : Oper} {i : Nat} {K : St → Prop} (ho : ops[i]? = some o) (hr : Rel w0 σ hv S F a w) (h : vcOps P ops (o :: rest) σ K) {next : Act → World → Prop}
    (hn : ∀ σ' (hv' : Hv) S' F' a' w', vcOps P ops rest σ' K → Rel w0 σ' hv' S' F' a' w' → next a' w') : wpOp P ops Q i next a w := by
  obtain ⟨hd, h⟩ := h
  have hdk : ∀ σ', Eqv σ σ' → ∀ k, o.dst = some k → k < σ'.n := fun σ' he k hk => by rw [hk] at hd; rw [he.n]; exact hd
  unfold wpOp
  rw [ho]
  simp only
  rcases vcGuard_sound (Eqv.refl σ) h with ⟨hg, σ', he, h⟩ | ⟨hg, σ', he, h⟩
  · have hr1 := hr.tm_ext he
    rw [if_pos (wanted_of hr hg)]
    refine .inl ?_
    have := vcOp_sound (Q := Q) (next := fun v w' => next (a.put o.dst v) w') hr1 h (fun v w' x ob' hv' S' F' L hK hr' f1 f2 hu => hn _ _ _ _ _ _ hK (hr'.put (d := o.dst) f1 f2 hu (hdk σ' he)))
    unfold Does at this
    exact Oper.wp_mono (fun a' w' ⟨v, ha, hv⟩ => ha ▸ hv) this
  · have hr1 := hr.tm_ext he
    rw [if_neg (by rw [wanted_of hr hg]; simp)]
    exact hn _ _ _ _ _ _ h (hr1.put (d := o.dst) (x := .ud) (v := undef) (L := []) (by simp [footA]) (by simp) rfl (hdk σ' he))

theorem late_sound {ops : Array Oper} {k : Nat} (hs : Static0 ops k) {K : St → Prop} (hQ : ∀ σ' (hv' : Hv) S' F' a' w', K σ' → Rel w0 σ' hv' S' F' a' w' → Q .normal a' w') :
    ∀ (fuel : Nat) {listed : Array Bool} {m : Nat} {σ : St} {hv : Hv} {S : Nat → Prop} {F : Nat → List Nat} {a : Act} {w : World}, listed.size = ops.size → m ≤ ops.size → k ≤ m → (∀ j, listed.getD j false = decide (j < m)) → ops.size - m ≤ fuel →
      Rel w0 σ hv S F a w → vcOps P ops (ops.toList.drop m) σ K → wpAny P .any ops Q fuel listed a w := by
  intro fuel
  have fin : ∀ {listed : Array Bool} {m : Nat} {σ : St} {hv : Hv} {S : Nat → Prop} {F : Nat → List Nat} {a : Act} {w : World}, listed.size = ops.size → m ≤ ops.size → (∀ j, listed.getD j false = decide (j < m)) → Region.ready .any ops listed = [] →
      Rel w0 σ hv S F a w → vcOps P ops (ops.toList.drop m) σ K → Q .normal a w := by
    intro listed m σ hv S F a w hsz hm hl hre hr h
    have : m = ops.size := by
      rcases Nat.lt_or_ge m ops.size with hlt | hge
      · have := all_of_ready_nil hs hsz hre m hlt
        rw [hl] at this
        simp at this
      · omega
    subst this
    rw [List.drop_of_length_le (by simp)] at h
    exact hQ _ _ _ _ _ _ h hr
  induction fuel with
  | zero =>
    intro listed m σ hv S F a w hsz hm hk hl hf hr h
    have hre : Region.ready .any ops listed = [] := by
      cases hre : Region.ready .any ops listed with
      | nil => rfl
      | cons i is =>
        have : i ∈ Region.ready .any ops listed := by rw [hre]; exact List.mem_cons_self ..
        obtain ⟨h0, _⟩ := mem_ready.1 this
        obtain ⟨h1, h2⟩ := getD_false_true h0
        rw [hl] at h1
        simp at h1
        omega
    exact ⟨hre, fin hsz hm hl hre hr h⟩
  | succ fuel ih =>
    intro listed m σ hv S F a w hsz hm hk hl hf hr h
    refine ⟨fun hre => fin hsz hm hl hre hr h, fun i hi => ?_⟩
    obtain ⟨h0, o, ho, hall⟩ := mem_ready.1 hi
    obtain ⟨h1, h2⟩ := getD_false_true h0
    have hmi : m ≤ i := by rw [hl] at h1; simpa using h1
    have hdown : Down ops listed := by
      intro x y hx hw
      rw [hl] at hx ⊢
      obtain ⟨o', ho', e, he, hb, rfl⟩ := waits_spec.1 hw
      have := hs.back x o' ho' e he hb
      simp at hx ⊢
      omega
    have him : i = m := by
      rcases Nat.lt_or_ge m i with hlt | hge
      · have := ready_chain hs hdown hi (by omega) (i - m) m rfl hlt
        rw [hl] at this
        simp at this
      · omega
    subst him
    have hlt : i < ops.size := by omega
    have hdrop : ops.toList.drop i = o :: ops.toList.drop (i + 1) := by
      rw [List.drop_eq_getElem_cons (by simpa using hlt)]
      congr 1
      have := Array.getElem?_eq_getElem hlt
      rw [ho] at this
      simpa using (Option.some.inj this).symm
    rw [hdrop] at h
    refine op_step ho hr h fun σ' hv' S' F' a' w' hK hr' => ?_
    refine ih (listed := listed.setIfInBounds i true) (m := i + 1) (by simpa using hsz) hlt (by omega) (fun j => ?_) (by omega) hr' hK
    rw [getD_set (by omega), hl]
    by_cases e1 : i = j
    · subst e1; simp
    · simp only [e1, decide_false, Bool.false_or, decide_eq_decide]; omega

/-- a part of the first operations is done -/
structure Part (ops : Array Oper) (k : Nat) (xs : List AV) (σ0 : St) (listed : Array Bool) (σ : St) : Prop where
  n : σ.n = σ0.n
  ob : σ.ob = σ0.ob
  hit : ∀ j o t x, j < k → ops[j]? = some o → o.dst = some t → xs[j]? = some x → listed.getD j false = true → getL σ.tm t = x
  miss : ∀ t, (∀ j o, j < k → ops[j]? = some o → listed.getD j false = true → o.dst ≠ some t) → getL σ.tm t = getL σ0.tm t

theorem take_get {ops : Array Oper} {k i : Nat} (h : i < k) : (ops.toList.take k)[i]? = ops[i]? := by
  rw [List.getElem?_take_of_lt h, Array.getElem?_toList]

theorem early_sound {ops : Array Oper} {k : Nat} (hs : Static ops k) {K : St → Prop} (hQ : ∀ σ' (hv' : Hv) S' F' a' w', K σ' → Rel w0 σ' hv' S' F' a' w' → Q .normal a' w') {xs : List AV} {σ0 : St}
    (hf : Facts P ops σ0 (ops.toList.take k) xs) {σe : St} (hE : Eqv (putAll σ0 (ops.toList.take k) xs) σe) (hK : vcOps P ops (ops.toList.drop k) σe K) :
    ∀ (fuel : Nat) {listed : Array Bool} {σ : St} {hv : Hv} {S : Nat → Prop} {F : Nat → List Nat} {a : Act} {w : World}, listed.size = ops.size → Down ops listed → (∀ j, k ≤ j → listed.getD j false = false) → listed.toList.count false ≤ fuel →
      Part ops k xs σ0 listed σ → Rel w0 σ hv S F a w → wpAny P .any ops Q fuel listed a w := by
  intro fuel
  have hxl : xs.length = k := by rw [hf.len, List.length_take, Array.length_toList, Nat.min_eq_left hs.le]
  -- all of the first ones are done
  have full : ∀ {listed : Array Bool} {σ : St} {hv : Hv} {S : Nat → Prop} {F : Nat → List Nat} {a : Act} {w : World}, (∀ j, j < k → listed.getD j false = true) → Part ops k xs σ0 listed σ → Rel w0 σ hv S F a w →
      Rel w0 σe hv S F a w := by
    intro listed σ hv S F a w hall hp hr
    obtain ⟨q1, q2⟩ := putAll_n (ops.toList.take k) xs σ0
    refine Rel.tm_ext (hr.tm_ext (σ' := putAll σ0 (ops.toList.take k) xs) ⟨by rw [q1, hp.n], by rw [q2, hp.ob], fun t => ?_⟩) hE
    by_cases ht : ∃ j o, j < k ∧ ops[j]? = some o ∧ o.dst = some t
    · obtain ⟨j, o, hj, ho, hd⟩ := ht
      obtain ⟨x, hx⟩ : ∃ x, xs[j]? = some x := ⟨xs[j]'(by omega), List.getElem?_eq_getElem (by omega)⟩
      rw [hp.hit j o t x hj ho hd hx (hall j hj)]
      refine putAll_hit _ _ _ (by rw [take_get hj]; exact ho) hx hd fun i o' hi hne => ?_
      have hik : i < k := by
        have := (List.getElem?_eq_some_iff.1 hi).1
        simp only [List.length_take] at this; omega
      rw [take_get hik] at hi
      exact (hs.apart i j o' o t hik hj hi ho hd).1.resolve_left hne
    · have hno : ∀ j o, j < k → ops[j]? = some o → o.dst ≠ some t := fun j o hj ho hd => ht ⟨j, o, hj, ho, hd⟩
      rw [hp.miss t (fun j o hj ho _ => hno j o hj ho)]
      refine putAll_miss _ _ _ fun j o hj => ?_
      have hjk : j < k := by
        have := (List.getElem?_eq_some_iff.1 hj).1
        simp only [List.length_take] at this; omega
      rw [take_get hjk] at hj
      exact hno j o hjk hj
  have fin : ∀ {listed : Array Bool} {σ : St} {hv : Hv} {S : Nat → Prop} {F : Nat → List Nat} {a : Act} {w : World}, listed.size = ops.size → (∀ j, k ≤ j → listed.getD j false = false) → Region.ready .any ops listed = [] →
      Part ops k xs σ0 listed σ → Rel w0 σ hv S F a w → Q .normal a w := by
    intro listed σ hv S F a w hsz hno hre hp hr
    have hall := all_of_ready_nil hs.toStatic0 hsz hre
    have hk : k = ops.size := by
      rcases Nat.lt_or_ge k ops.size with h | h
      · have h1 := hall k h
        rw [hno k (Nat.le_refl _)] at h1
        cases h1
      · have := hs.le; omega
    have hr' := full (fun j hj => hall j (by omega)) hp hr
    rw [List.drop_of_length_le (by simp [hk])] at hK
    exact hQ _ _ _ _ _ _ hK hr'
  induction fuel with
  | zero =>
    intro listed σ hv S F a w hsz hd hno hc hp hr
    have hre : Region.ready .any ops listed = [] := by
      cases hre : Region.ready .any ops listed with
      | nil => rfl
      | cons i is =>
        have : i ∈ Region.ready .any ops listed := by rw [hre]; exact List.mem_cons_self ..
        obtain ⟨h0, _⟩ := mem_ready.1 this
        obtain ⟨h1, h2⟩ := getD_false_true h0
        have : false ∈ listed.toList := by
          have : listed[i] = false := by simpa [h2] using h1
          rw [← this]; simp
        have := List.count_pos_iff.2 this
        omega
    exact ⟨hre, fin hsz hno hre hp hr⟩
  | succ fuel ih =>
    intro listed σ hv S F a w hsz hd hno hc hp hr
    refine ⟨fun hre => fin hsz hno hre hp hr, fun i hi => ?_⟩
    obtain ⟨h0, o, ho, hall⟩ := mem_ready.1 hi
    obtain ⟨h1, h2⟩ := getD_false_true h0
    have hcount : (listed.setIfInBounds i true).toList.count false ≤ fuel := by
      rw [Array.toList_setIfInBounds, List.count_set (by simpa using h2)]
      have : listed[i] = false := by simpa [h2] using h1
      have hpos : 0 < listed.toList.count false := List.count_pos_iff.2 (by rw [← this]; simp)
      simp [this]
      rw [← Array.count_toList]
      omega
    rcases Nat.lt_or_ge i k with hik | hik
    · -- one of the first
      obtain ⟨x, hx, hd1, hg⟩ := hf.get (i := i) (o := o) (by rw [take_get hik]; exact ho)
      have hwait : ∀ j, waits ops i j = true → listed.getD j false = true := by
        intro j hw
        obtain ⟨o', ho', e, he, hb, rfl⟩ := waits_spec.1 hw
        rw [ho] at ho'
        cases ho'
        exact hall e he hb
      have hlook : ∀ t ∈ o.looksAt ops, getL σ.tm t = getL (putAll σ0 ((ops.toList.take k).take i) (xs.take i)).tm t := by
        intro t ht
        have hget : ∀ j, j < i → ((ops.toList.take k).take i)[j]? = ops[j]? := fun j hj => by rw [List.getElem?_take_of_lt hj, take_get (by omega)]
        by_cases hex : ∃ j p, j < k ∧ ops[j]? = some p ∧ p.dst = some t
        · obtain ⟨j, p, hj, hp', hpd⟩ := hex
          obtain ⟨hji, hw⟩ := (hs.apart i j o p t hik hj ho hp' hpd).2 ht
          obtain ⟨y, hy⟩ : ∃ y, xs[j]? = some y := ⟨xs[j]'(by omega), List.getElem?_eq_getElem (by omega)⟩
          rw [hp.hit j p t y hj hp' hpd hy (hwait j hw)]
          refine (putAll_hit _ _ _ (by rw [hget j hji]; exact hp') (by rw [List.getElem?_take_of_lt hji]; exact hy) hpd fun m q hm hne => ?_).symm
          have hmi : m < i := by
            have := (List.getElem?_eq_some_iff.1 hm).1
            simp only [List.length_take] at this; omega
          rw [hget m hmi] at hm
          exact (hs.apart m j q p t (by omega) hj hm hp' hpd).1.resolve_left hne
        · have hnone : ∀ j p, j < k → ops[j]? = some p → p.dst ≠ some t := fun j p hj hp' hpd => hex ⟨j, p, hj, hp', hpd⟩
          rw [hp.miss t fun j p hj hp' _ => hnone j p hj hp']
          refine (putAll_miss _ _ _ fun m q hm => ?_).symm
          have hmi : m < i := by
            have := (List.getElem?_eq_some_iff.1 hm).1
            simp only [List.length_take] at this; omega
          rw [hget m hmi] at hm
          exact hnone m q (by omega) hm
      obtain ⟨n1, n2⟩ := putAll_n ((ops.toList.take k).take i) (xs.take i) σ0
      have hdk : ∀ t, o.dst = some t → t < σ.n := fun t ht => by
        rw [ht, n1] at hd1
        rw [hp.n]; exact hd1
      have hpart : Part ops k xs σ0 (listed.setIfInBounds i true) (σ.set o.dst x) := by
        refine ⟨by rw [← hp.n]; cases o.dst <;> rfl, by rw [← hp.ob]; cases o.dst <;> rfl, fun j p t y hj hp' hpd hy hl => ?_, fun t ht => ?_⟩
        · rw [getL_set]
          by_cases hji : j = i
          · subst hji
            rw [ho] at hp'
            cases hp'
            rw [hx] at hy
            cases hy
            rw [if_pos hpd]
          · rw [getD_set h2] at hl
            have hl' : listed.getD j false = true := by simpa [Ne.symm hji] using hl
            have hne : o.dst ≠ some t := (hs.apart i j o p t hik hj ho hp' hpd).1.resolve_left (Ne.symm hji)
            rw [if_neg hne]
            exact hp.hit j p t y hj hp' hpd hy hl'
        · rw [getL_set, if_neg (ht i o hik ho (by rw [getD_set h2]; simp))]
          exact hp.miss t fun j p hj hp' hl => ht j p hj hp' (by rw [getD_set h2]; simp only [hl, Bool.or_true])
      have hdown' : Down ops (listed.setIfInBounds i true) := by
        intro u v hu hw
        rw [getD_set h2] at hu ⊢
        by_cases hiu : i = u
        · subst hiu; simp only [hwait v hw, Bool.or_true]
        · have : listed.getD u false = true := by simpa [hiu] using hu
          simp only [hd u v this hw, Bool.or_true]
      have hno' : ∀ j, k ≤ j → (listed.setIfInBounds i true).getD j false = false := fun j hj => by
        rw [getD_set h2, hno j hj]
        simp only [Bool.or_false, decide_eq_false_iff_not]; omega
      have hguard := guard_congr (ops := ops) (o := o) hlook
      have hopd := opd_congr (ops := ops) (o := o) hlook
      unfold wpOp
      rw [ho]
      simp only
      rcases hg with ⟨hg, hfact⟩ | ⟨hg, rfl⟩
      · rw [if_pos (wanted_of hr (hguard.trans hg))]
        refine .inl ?_
        rw [n2, ← hp.ob] at hfact
        have := (hfact.congr hopd).does (Q := Q) (next := fun v w' => wpAny P .any ops Q fuel (listed.setIfInBounds i true) (a.put o.dst v) w') hr (fun y _ => hr.arg y) (fun v w' hv' S' hr' ⟨L, f1, f2⟩ hu =>
          ih (by simpa using hsz) hdown' hno' hcount hpart (hr'.put (d := o.dst) f1 f2 hu hdk))
        unfold Does at this
        exact Oper.wp_mono (fun a' w' ⟨v, ha, hv⟩ => ha ▸ hv) this
      · rw [if_neg (by rw [wanted_of hr (hguard.trans hg)]; simp)]
        exact ih (by simpa using hsz) hdown' hno' hcount hpart (hr.put (d := o.dst) (x := .ud) (v := undef) (L := []) (by simp [footA]) (by simp) rfl hdk)
    · -- the first of the others
      have hbefore := ready_chain hs.toStatic0 hd hi hik
      have hik' : i = k := by
        rcases Nat.lt_or_ge k i with h | h
        · have := hbefore (i - k) k rfl h
          rw [hno k (Nat.le_refl _)] at this
          cases this
        · omega
      subst hik'
      have hr' := full (fun j hj => hbefore (i - j) j rfl hj) hp hr
      have hlt : i < ops.size := by omega
      have hdrop : ops.toList.drop i = o :: ops.toList.drop (i + 1) := by
        rw [List.drop_eq_getElem_cons (by simpa using hlt)]
        congr 1
        have := Array.getElem?_eq_getElem hlt
        rw [ho] at this
        simpa using (Option.some.inj this).symm
      rw [hdrop] at hK
      refine op_step ho hr' hK fun σ' hv' S' F' a' w' hK' hr'' => ?_
      have hl : ∀ j, (listed.setIfInBounds i true).getD j false = decide (j < i + 1) := fun j => by
        rw [getD_set h2]
        rcases Nat.lt_trichotomy j i with h | h | h
        · rw [hbefore (i - j) j rfl h]; simp; omega
        · subst h; simp
        · rw [hno j (by omega)]
          simp only [Bool.or_false, decide_eq_decide]; omega
      refine late_sound hs.toStatic0 hQ fuel (by simpa using hsz) hlt (by omega) hl ?_ hr'' hK'
      have hcnt : ∀ (l : List Bool) (m : Nat), (∀ j, m ≤ j → ∀ b, l[j]? = some b → b = false) → l.length - m ≤ l.count false := by
        intro l
        induction l with
        | nil => intro m _; simp
        | cons b l ihl =>
          intro m hm
          cases m with
          | zero =>
            have hb := hm 0 (Nat.le_refl _) b rfl
            subst hb
            have := ihl 0 (fun j _ b hb => hm (j + 1) (by omega) b (by simpa using hb))
            simp only [List.length_cons, List.count_cons_self]; omega
          | succ m =>
            have := ihl m (fun j hj b hb => hm (j + 1) (by omega) b (by simpa using hb))
            simp only [List.length_cons, List.count_cons]; omega
      have hc2 := hcnt (listed.setIfInBounds i true).toList (i + 1) (fun j hj b hb => by
        have := hl j
        rw [Array.getElem?_toList] at hb
        simp only [Array.getD_eq_getD_getElem?, hb, Option.getD_some] at this
        rw [this]; simp; omega)
      simp only [Array.length_toList, Array.size_setIfInBounds] at hc2
      omega

/-- A REGION WHOSE ORDER IS OPEN -/
theorem vcDraw_sound {id : Nat} {ops : Array Oper} {k : Nat} {K : St → Prop} (hm : P.follows .mixedOrders = true) (hr : Rel w0 σ hv S F a w) (h : vcDraw P ops k σ K)
    (hQ : ∀ σ' (hv' : Hv) S' F' a' w', K σ' → Rel w0 σ' hv' S' F' a' w' → Q .normal a' w') : (Code.region id ops true).wp P Q a w := by
  obtain ⟨h1, h2⟩ := h
  have hs := okDraw_spec h1
  have hr' := hr.grow (Grew.drew w)
  obtain ⟨xs, σe, k0, k1, k2⟩ := vcPre_sound _ hr (Eqv.refl σ) h2
  refine wp_region_any hm ?_
  have hrep : ∀ j, (Array.replicate ops.size false).getD j false = false := fun j => by
    rcases Nat.lt_or_ge j ops.size with h | h <;> simp [h]
  refine early_sound hs hQ k2 k0 k1 ops.size (by simp) (fun i j hi _ => absurd hi (by rw [hrep]; simp)) (fun j _ => hrep j) (by simp) ⟨rfl, rfl, fun j o t x _ _ _ _ hl => absurd hl (by rw [hrep]; simp), fun _ _ => rfl⟩ hr'

end

end Go.Proofs.Ythhgcklidfilfaa.BX
