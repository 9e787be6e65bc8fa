/-
  A frame for proofs over whole functions, second make, a part between the fifteenth and the sixteenth: what turns a map of plain values.
-/
import Derived.Test.YthhgcklidfilfaaBxO
namespace Go.Proofs.Ythhgcklidfilfaa.BX
set_option linter.unusedSectionVars false
set_option linter.unusedSimpArgs false
set_option linter.unusedVariables false
open Go Go.RowKit
variable [Bd]

open Classical in
noncomputable def updK (ks : List T) (kx : T) : List T := match placeT kx ks 0 with
  | some _ => ks
  | none => ks ++ [kx]
noncomputable def updV (ks vs : List T) (kx z : T) : List T := match placeT kx ks 0 with
  | some i => vs.set i z
  | none => vs ++ [z]
noncomputable def delK (ks : List T) (kx : T) : List T := match placeT kx ks 0 with
  | some i => ks.eraseIdx i
  | none => ks
noncomputable def delV (ks vs : List T) (kx : T) : List T := match placeT kx ks 0 with
  | some i => vs.eraseIdx i
  | none => vs

/-- the entry of a key is another now, or is new -/
noncomputable def vcMapUpd (P : Program) (t : TypeId) (m k v : AV) (ob : List Ob) (K : AV → List Ob → Prop) : Prop :=
  match lay P t, k.shut, m, v.shut with
  | .map kt _, some kx, .mr id, some z => match keyLay P kt with
    | some s => isKey s kx ∧ z.flat = true ∧ z.one = true ∧ match ob[id]? with
      | some (.map a b (.own .leaf) ks vs _) => (∀ y ∈ ks, isKey s y) ∧ (kx ∉ ks → ks.length + 1 < Bd.B) ∧ K .ud (ob.set id (.map a b (.own .leaf) (updK ks kx) (updV ks vs kx z) none))
      | _ => False
    | none => False
  | _, _, _, _ => False

noncomputable def vcDelete (P : Program) (t : TypeId) (m k : AV) (ob : List Ob) (K : AV → List Ob → Prop) : Prop :=
  match lay P t, k.shut, m with
  | .map kt _, some kx, .mr id => match keyLay P kt with
    | some s => isKey s kx ∧ match ob[id]? with
      | some (.map a b (.own .leaf) ks vs _) => (∀ y ∈ ks, isKey s y) ∧ K (.tp []) (ob.set id (.map a b (.own .leaf) (delK ks kx) (delV ks vs kx) none))
      | _ => False
    | none => False
  | _, _, _ => False

def vcMakeMap (P : Program) (t : TypeId) (r : Option AV) (ob : List Ob) (K : AV → List Ob → Prop) : Prop :=
  match lay P t, r with
  | .map kt et, none => K (.mr ob.length) (ob ++ [.map kt et (.own .leaf) [] [] none])
  | .map kt et, some (.t (.i _ _)) => K (.mr ob.length) (ob ++ [.map kt et (.own .leaf) [] [] none])
  | _, _ => False

section
variable {P : Program} {Q : Exit → Act → World → Prop} {w0 : Base} {σ : St} {hv : Hv} {S : Nat → Prop} {F : Nat → List Nat} {a : Act} {w : World}
  {K : AV → List Ob → Prop} {next : Value → World → Prop}

theorem leaf_els {Fi : List Nat} {vs : List T} {us : List Value} (h : elsR hv S w Fi (.own .leaf) vs us) : flats vs = true ∧ footTs w vs us [] := by
  obtain ⟨L, h1, _, _⟩ := h
  have hL := plainEs_own (s := .leaf) rfl h1
  subst hL
  have : ∀ {vs : List T} {us : List Value}, ownEs w .leaf vs us [] → flats vs = true ∧ footTs w vs us [] := by
    intro vs
    induction vs with
    | nil => intro us h; simp only [ownEs] at h; simp [footTs, flats, h.1]
    | cons x xs ih =>
      intro us h
      simp only [ownEs, ownT] at h
      obtain ⟨v, vs', L1, L2, rfl, hL, ⟨q1, q2, rfl⟩, q4⟩ := h
      have hL2 : L2 = [] := by simpa using hL.symm
      subst hL2
      obtain ⟨i1, i2⟩ := ih q4
      refine ⟨by simp only [flats, q1, i1, Bool.and_self], ?_⟩
      simp only [footTs]
      exact ⟨v, vs', [], [], rfl, rfl, q2, i2⟩
  exact this h1

theorem els_leaf {Fi : List Nat} {vs : List T} {us : List Value} (h1 : flats vs = true) (h2 : footTs w vs us []) : elsR hv S w Fi (.own .leaf) vs us := by
  refine ⟨[], ?_, by simp, by simp⟩
  have : ∀ {vs : List T} {us : List Value}, flats vs = true → footTs w vs us [] → ownEs w .leaf vs us [] := by
    intro vs
    induction vs with
    | nil => intro us _ h; simp only [footTs] at h; simp [ownEs, h.1]
    | cons x xs ih =>
      intro us hf h
      simp only [flats, Bool.and_eq_true] at hf
      simp only [footTs] at h
      obtain ⟨v, vs', L1, L2, rfl, hL, q1, q2⟩ := h
      obtain ⟨rfl, rfl⟩ := List.append_eq_nil_iff.1 hL.symm
      simp only [ownEs, ownT]
      exact ⟨v, vs', [], [], rfl, rfl, ⟨hf.1, q1, rfl⟩, ih hf.2 q2⟩
  exact this h1 h2

theorem flats_append : ∀ {xs ys : List T}, flats (xs ++ ys) = (flats xs && flats ys)
  | [], ys => by simp [flats]
  | x :: xs, ys => by simp only [List.cons_append, flats, flats_append, Bool.and_assoc]

theorem placeT_mem {x : T} {ks : List T} (hn : ks.Nodup) {i : Nat} (h : ks[i]? = some x) : placeT x ks 0 = some i := by
  rw [placeT_some hn h, Nat.zero_add]

/-- a map's block holds another map -/
theorem heap_setMap {r : Nat} {o o' : Obj} (h : w.heap[r]? = some o) : (w.heap.setIfInBounds r o')[r]? = some o' ∧ ∀ i, i ≠ r → (w.heap.setIfInBounds r o')[i]? = w.heap[i]? := by
  have hlt : r < w.heap.size := heap_lt h
  refine ⟨by simp [hlt], fun i hi => ?_⟩
  rw [Array.getElem?_setIfInBounds_ne (Ne.symm hi)]

theorem set_perm {α : Type} {l l' : List α} (h : List.Perm l l') {i j : Nat} {x y : α} (hi : l[i]? = some x) (hj : l'[j]? = some x) : List.Perm (l.set i y) (l'.set j y) := by
  have e : ∀ (l : List α) (i : Nat) (x : α), l[i]? = some x → List.Perm l (x :: l.eraseIdx i) ∧ List.Perm (l.set i y) (y :: l.eraseIdx i) := by
    intro l
    induction l with
    | nil => intro i x h; simp at h
    | cons z zs ih =>
      intro i x h
      cases i with
      | zero => simp at h; subst h; simp
      | succ i =>
        simp only [List.getElem?_cons_succ] at h
        obtain ⟨h1, h2⟩ := ih i x h
        simp only [List.eraseIdx_cons_succ, List.set_cons_succ]
        exact ⟨(h1.cons z).trans (List.Perm.swap ..), (h2.cons z).trans (List.Perm.swap ..)⟩
  obtain ⟨a1, a2⟩ := e l i x hi
  obtain ⟨b1, b2⟩ := e l' j x hj
  have := (a1.symm.trans (h.trans b1)).cons_inv
  exact a2.trans ((this.cons y).trans b2.symm)

theorem erase_perm {α : Type} {l l' : List α} (h : List.Perm l l') {i j : Nat} {x : α} (hi : l[i]? = some x) (hj : l'[j]? = some x) : List.Perm (l.eraseIdx i) (l'.eraseIdx j) := by
  have e : ∀ (l : List α) (i : Nat) (x : α), l[i]? = some x → List.Perm l (x :: l.eraseIdx i) := by
    intro l
    induction l with
    | nil => intro i x h; simp at h
    | cons z zs ih =>
      intro i x h
      cases i with
      | zero => simp at h; subst h; simp
      | succ i =>
        simp only [List.getElem?_cons_succ] at h
        simp only [List.eraseIdx_cons_succ]
        exact ((ih i x h).cons z).trans (List.Perm.swap ..)
  exact ((e l i x hi).symm.trans (h.trans (e l' j x hj))).cons_inv

theorem map_key_set {l : List MapEntry} {i : Nat} {en en' : MapEntry} {α : Type} {f : MapEntry → α} (h : l[i]? = some en) (hf : f en' = f en) : (l.set i en').map f = l.map f := by
  rw [List.map_set, hf]
  refine List.ext_getElem? fun j => ?_
  rw [List.getElem?_set]
  split
  · rename_i hij
    subst hij
    rw [List.getElem?_map, h]
    have := get_lt h
    simp [this]
  · rfl

theorem erase_map {α β : Type} {f : α → β} : ∀ (l : List α) (i : Nat), (l.map f).eraseIdx i = (l.eraseIdx i).map f
  | [], i => by simp
  | x :: xs, 0 => by simp
  | x :: xs, i + 1 => by simp [erase_map xs i]

theorem footTs_erase : ∀ {xs : List T} {vs : List Value} (_ : footTs w xs vs []) (i : Nat), footTs w (xs.eraseIdx i) (vs.eraseIdx i) []
  | [], vs, h, i => by simp only [footTs] at h; simp [footTs, h.1]
  | x :: xs, vs, h, i => by
    simp only [footTs] at h
    obtain ⟨v, vs', L1, L2, rfl, hL, h1, h2⟩ := h
    obtain ⟨rfl, rfl⟩ := List.append_eq_nil_iff.1 hL.symm
    cases i with
    | zero => simpa using h2
    | succ i =>
      simp only [List.eraseIdx_cons_succ, footTs]
      exact ⟨v, vs'.eraseIdx i, [], [], rfl, rfl, h1, footTs_erase h2 i⟩
theorem flats_erase : ∀ {xs : List T} (_ : flats xs = true) (i : Nat), flats (xs.eraseIdx i) = true
  | [], _, i => by simp [flats]
  | x :: xs, h, i => by
    simp only [flats, Bool.and_eq_true] at h
    cases i with
    | zero => simpa using h.2
    | succ i => simp only [List.eraseIdx_cons_succ, flats, h.1, flats_erase h.2 i, Bool.and_self]

theorem Ents.move {w' : World} {h : Value} {ks : List T} {r : Nat} {es : Array MapEntry} {clock : Nat} {l : List MapEntry} {ks' : List T} {es' : Array MapEntry} {clock' : Nat} {l' : List MapEntry} (he : Ents w h ks r es clock l)
    (h1 : w'.heap[r]? = some (.map es' clock')) (h2 : List.Perm l' es'.toList) (h3 : (l'.map (·.born)).Nodup) (h4 : ∀ e ∈ l', e.born < clock') (h5 : footTs w ks' (l'.map (·.key)) []) (h6 : flats ks' = true) (h7 : ks'.Nodup) (h8 : ks'.length < Bd.B) (h9 : ∀ e ∈ l', e.val.oneCell' = true) : Ents w' h ks' r es' clock' l' :=
  ⟨he.val, h1, h2, h3, h4, (flats_foot ks' h6 h5).2 w', h6, h7, h8, h9⟩

/-- MAP UPDATE -/
theorem mapUpd_sound {o : Oper} {t : TypeId} {m k x : Operand} (ho : o.op = .mapUpdate t m k x) (hr : Rel w0 σ hv S F a w) (h : vcMapUpd P t (σ.opd m) (σ.opd k) (σ.opd x) σ.ob K) (hn : Ans w0 σ a K next) : Does P Q o a w next := by
  unfold vcMapUpd at h
  split at h
  case h_2 => cases h
  rename_i kt et kx id z hl hk hm hx
  split at h
  case h_2 => cases h
  rename_i s hs
  obtain ⟨hkx, hzf, hz1, h⟩ := h
  split at h
  case h_2 => cases h
  rename_i a' b' ks vs p hid
  obtain ⟨hks, hlen, hK⟩ := h
  have hu := lay_map hl
  obtain ⟨r, es, clock, l, hE, hels, hlv, _⟩ := hr.ob id _ hid
  obtain ⟨⟨Lm, fm, _⟩, _⟩ := hr.arg m
  rw [hm] at fm
  simp only [footA] at fm
  have hmr : a.eval m = .map (some r) := fm.1.trans hE.val
  have ak := hr.arg k
  obtain ⟨Lk, fk, _⟩ := ak.shut_inv hk
  have fk := (flat_foot kx (isKey_flat hkx) fk).2 w
  have ax := hr.arg x
  obtain ⟨Lx, fx, _⟩ := ax.shut_inv hx
  have fx := (flat_foot z hzf fx).2 w
  obtain ⟨hvf, hvs⟩ := leaf_els hels
  have hlk : ks.length = l.length := by have := footTs_length hE.keys; rw [List.length_map] at this; exact this.symm
  have hroot : blkOf (hv id) = some r := by rw [hE.val]; rfl
  have fin : ∀ (es' : Array MapEntry) (clock' : Nat) (ks' vs' : List T) (l' : List MapEntry), (execOp a.eval o).run P w = .ok .skip { w with heap := w.heap.setIfInBounds r (.map es' clock') } → K .ud (σ.ob.set id (.map a' b' (.own .leaf) ks' vs' none)) →
      List.Perm l' es'.toList → (l'.map (·.born)).Nodup → (∀ e ∈ l', e.born < clock') → footTs w ks' (l'.map (·.key)) [] → flats ks' = true → ks'.Nodup → ks'.length < Bd.B → (∀ e ∈ l', e.val.oneCell' = true) → flats vs' = true → footTs w vs' (l'.map (·.val)) [] → ks'.length = vs'.length → Does P Q o a w next := by
    intro es' clock' ks' vs' l' hrun hK' g1 g2 g3 g4 g5 g6 g7 g8 g9 g10 g11
    obtain ⟨q1, q2⟩ := heap_setMap (o' := .map es' clock') hE.heap
    refine does_skip hrun ?_
    have hr3 := hr.write hid (by simp) (w' := { w with heap := w.heap.setIfInBounds r (.map es' clock') }) (o' := .map a' b' (.own .leaf) ks' vs' none) (fun k hk => q2 k (fun e => hk (by rw [hroot, e]))) (by simp) rfl rfl rfl (Nat.le_refl _) rfl
      ⟨r, es', clock', l', hE.move q1 g1 g2 g3 g4 g5 g6 g7 g8, els_leaf g9 ((flats_foot vs' g9 g10).2 _), g11, by simp⟩ (fun _ => rfl)
    exact hn _ _ _ _ hv S F [] hK' hr3 (by simp [footA]) (by simp) rfl
  have hgo := getObj_run (P := P) hE.heap
  have hck := checkKey_run (w := w) hs hkx fk
  have hx1 := T.one_value hz1 fx
  rcases hE.find hs hks hkx fk w with ⟨i, j, en, g1, g2, g3, g4, g5⟩ | ⟨g1, g5⟩
  · have hkey : en.key = a.eval k := flat_val kx (isKey_flat hkx) g4 fk
    have hpl := placeT_mem hE.nodup g1
    have hj : es[j]? = some en := by simpa using g3
    have hrun : (execOp a.eval o).run P w = .ok .skip { w with heap := w.heap.setIfInBounds r (.map (es.modify j fun e => { e with key := a.eval k, val := a.eval x }) clock) } := by
      have hst := keyStays (P := P) hkx fk w
      simp only [execOp, ho, Instr.mapUpdate, Sem.run_bind, run_underlying hu, Result.andThen_ok, hmr, hgo, hck, g5, hj, Option.map_some, Option.getD_some, hkey, hst]
      simp [setObj, Sem.run, hE.heap]
    have hmod : (es.modify j fun e => { e with key := a.eval k, val := a.eval x }).toList = es.toList.set j { en with key := a.eval k, val := a.eval x } := by
      refine List.ext_getElem? fun i => ?_
      rw [Array.getElem?_toList, Array.getElem?_modify, List.getElem?_set]
      have hjl : j < es.toList.length := get_lt g3
      by_cases hij : j = i
      · subst hij
        simp only [if_true, hj, Option.map_some]
        rw [if_pos hjl]
      · simp [hij]
    have hen' : (⟨a.eval k, a.eval x, en.born⟩ : MapEntry) = { en with key := a.eval k, val := a.eval x } := rfl
    unfold updK updV at hK
    rw [hpl] at hK
    have hil : i < l.length := get_lt g2
    refine fin _ clock ks (vs.set i z) (l.set i { en with key := a.eval k, val := a.eval x }) hrun hK (by rw [hmod]; exact set_perm hE.perm g2 g3) (by rw [map_key_set (en' := { en with key := a.eval k, val := a.eval x }) (f := fun x => x.born) g2 rfl]; exact hE.born) (fun e he => ?_) (by rw [map_key_set (en' := { en with key := a.eval k, val := a.eval x }) (f := fun x => x.key) g2 hkey.symm]; exact hE.keys) hE.flat hE.nodup hE.small (fun e he => ?_) (flats_set hvf hzf) ?_ (by simpa using hlv)
    · rcases List.mem_or_eq_of_mem_set he with he | rfl
      · exact hE.lt e he
      · exact hE.lt en (List.mem_of_getElem? g2)
    · rcases List.mem_or_eq_of_mem_set he with he | rfl
      · exact hE.ones e he
      · exact hx1
    · rw [List.map_set]
      obtain ⟨L', q1, q2⟩ := footTs_setflat hvs fx (by omega : i < vs.length)
      have : L' = [] := List.eq_nil_iff_forall_not_mem.2 fun b hb => by cases q2 b hb
      rwa [this] at q1
  · have hpl := placeT_none (i := 0) g1
    have hrun : (execOp a.eval o).run P w = .ok .skip { w with heap := w.heap.setIfInBounds r (.map (es.push { key := a.eval k, val := a.eval x, born := clock }) (clock + 1)) } := by
      simp only [execOp, ho, Instr.mapUpdate, Sem.run_bind, run_underlying hu, Result.andThen_ok, hmr, hgo, hck, g5]
      simp [setObj, Sem.run, hE.heap]
    unfold updK updV at hK
    rw [hpl] at hK
    refine fin _ (clock + 1) (ks ++ [kx]) (vs ++ [z]) (l ++ [{ key := a.eval k, val := a.eval x, born := clock }]) hrun hK (by rw [Array.toList_push]; exact hE.perm.append_right _) ?_ (fun e he => ?_) ?_ (by rw [flats_append, hE.flat]; simp [flats, isKey_flat hkx]) ?_ (by simpa using hlen g1) (fun e he => ?_) (by rw [flats_append, hvf]; simp [flats, hzf]) ?_ (by simp [hlv])
    · rw [List.map_append, List.nodup_append]
      refine ⟨hE.born, by simp, fun b hb c hc => ?_⟩
      simp only [List.map_cons, List.map_nil, List.mem_singleton] at hc
      subst hc
      obtain ⟨e, he, rfl⟩ := List.mem_map.1 hb
      exact Nat.ne_of_lt (hE.lt e he)
    · rcases List.mem_append.1 he with he | he
      · exact Nat.lt_succ_of_lt (hE.lt e he)
      · simp only [List.mem_singleton] at he; subst he; exact Nat.lt_succ_self _
    · rw [List.map_append]
      have := footTs_append hE.keys (ys := [kx]) (us := [a.eval k]) (M := []) (by simp only [footTs]; exact ⟨_, [], [], [], rfl, rfl, fk, rfl, rfl⟩)
      simpa using this
    · rw [List.nodup_append]
      exact ⟨hE.nodup, by simp, fun b hb c hc => by simp only [List.mem_singleton] at hc; subst hc; rintro rfl; exact g1 hb⟩
    · rcases List.mem_append.1 he with he | he
      · exact hE.ones e he
      · simp only [List.mem_singleton] at he; subst he; exact hx1
    · rw [List.map_append]
      have := footTs_append hvs (ys := [z]) (us := [a.eval x]) (M := []) (by simp only [footTs]; exact ⟨_, [], [], [], rfl, rfl, fx, rfl, rfl⟩)
      simpa using this

/-- DELETE -/
theorem delete_sound {o : Oper} {c : Call} {t : TypeId} {ts : List TypeId} {m k : Operand} (ho : o.op = .call c) (hc : c.callee = .builtin .delete) (ha : c.args.toList = [m, k]) (ht : c.argTypes.toList = t :: ts) (hr : Rel w0 σ hv S F a w) (h : vcDelete P t (σ.opd m) (σ.opd k) σ.ob K) (hn : Ans w0 σ a K next) : Does P Q o a w next := by
  unfold vcDelete at h
  split at h
  case h_2 => cases h
  rename_i kt et kx id hl hk hm
  split at h
  case h_2 => cases h
  rename_i s hs
  obtain ⟨hkx, h⟩ := h
  split at h
  case h_2 => cases h
  rename_i a' b' ks vs p hid
  obtain ⟨hks, hK⟩ := h
  have hu := lay_map hl
  obtain ⟨r, es, clock, l, hE, hels, hlv, _⟩ := hr.ob id _ hid
  obtain ⟨⟨Lm, fm, _⟩, _⟩ := hr.arg m
  rw [hm] at fm
  simp only [footA] at fm
  have hmr : a.eval m = .map (some r) := fm.1.trans hE.val
  have ak := hr.arg k
  obtain ⟨Lk, fk, _⟩ := ak.shut_inv hk
  have fk := (flat_foot kx (isKey_flat hkx) fk).2 w
  obtain ⟨hvf, hvs⟩ := leaf_els hels
  have hlk : ks.length = l.length := by have := footTs_length hE.keys; rw [List.length_map] at this; exact this.symm
  have hroot : blkOf (hv id) = some r := by rw [hE.val]; rfl
  have hargs : c.args.map a.eval = #[a.eval m, a.eval k] := by
    rw [← Array.toList_inj, Array.toList_map, ha]; rfl
  have hts : c.argTypes[0]? = some t := by rw [← Array.getElem?_toList, ht]; rfl
  have ha' : c.args = #[m, k] := by rw [← Array.toList_inj, ha]
  have fin : ∀ (es' : Array MapEntry) (ks' vs' : List T) (l' : List MapEntry), (Builtin.delete_ c.argTypes o.type #[a.eval m, a.eval k]).run P w = .ok (.tuple #[]) { w with heap := w.heap.setIfInBounds r (.map es' clock) } → K (.tp []) (σ.ob.set id (.map a' b' (.own .leaf) ks' vs' none)) →
      List.Perm l' es'.toList → (l'.map (·.born)).Nodup → (∀ e ∈ l', e.born < clock) → footTs w ks' (l'.map (·.key)) [] → flats ks' = true → ks'.Nodup → ks'.length < Bd.B → (∀ e ∈ l', e.val.oneCell' = true) → flats vs' = true → footTs w vs' (l'.map (·.val)) [] → ks'.length = vs'.length → Does P Q o a w next := by
    intro es' ks' vs' l' hrun hK' g1 g2 g3 g4 g5 g6 g7 g8 g9 g10 g11
    obtain ⟨q1, q2⟩ := heap_setMap (o' := .map es' clock) hE.heap
    refine does_value (v := .tuple #[]) (w' := { w with heap := w.heap.setIfInBounds r (.map es' clock) }) (by simp [execOp, ho, resolve, hc, ha', invoke, builtin, hrun]) ?_
    have hr3 := hr.write hid (by simp) (w' := { w with heap := w.heap.setIfInBounds r (.map es' clock) }) (o' := .map a' b' (.own .leaf) ks' vs' none) (fun k hk => q2 k (fun e => hk (by rw [hroot, e]))) (by simp) rfl rfl rfl (Nat.le_refl _) rfl
      ⟨r, es', clock, l', hE.move q1 g1 g2 g3 g4 g5 g6 g7 g8, els_leaf g9 ((flats_foot vs' g9 g10).2 _), g11, by simp⟩ (fun _ => rfl)
    exact hn _ _ _ _ hv S F [] hK' hr3 (by simp [footA, footAs]) (by simp) rfl
  have hgo := getObj_run (P := P) hE.heap
  have hck := fun e => checkKey_run (w := w) hs hkx fk e w
  rcases hE.find hs hks hkx fk w with ⟨i, j, en, g1, g2, g3, g4, g5⟩ | ⟨g1, g5⟩
  · have hpl := placeT_mem hE.nodup g1
    have hj : es[j]? = some en := by simpa using g3
    have hrun : (Builtin.delete_ c.argTypes o.type #[a.eval m, a.eval k]).run P w = .ok (.tuple #[]) { w with heap := w.heap.setIfInBounds r (.map (es.eraseIdxIfInBounds j) clock) } := by
      simp only [Builtin.delete_, hts, Sem.run_bind, run_underlying hu, Result.andThen_ok, hmr, hgo, hck, g5, List.getElem?_toArray, List.getElem?_cons_zero, List.getElem?_cons_succ]
      simp [setObj, Sem.run, hE.heap]
    unfold delK delV at hK
    rw [hpl] at hK
    have hil : i < l.length := get_lt g2
    have herase : (es.eraseIdxIfInBounds j).toList = es.toList.eraseIdx j := by simp
    refine fin _ (ks.eraseIdx i) (vs.eraseIdx i) (l.eraseIdx i) hrun hK (by rw [herase]; exact erase_perm hE.perm g2 g3) ?_ (fun e he => hE.lt e ((List.eraseIdx_sublist l i).subset he)) ?_ (flats_erase hE.flat i) (hE.nodup.sublist (List.eraseIdx_sublist ks i)) ?_ (fun e he => hE.ones e ((List.eraseIdx_sublist l i).subset he)) (flats_erase hvf i) ?_ ?_
    · exact hE.born.sublist ((List.eraseIdx_sublist l i).map _)
    · have := footTs_erase hE.keys i; rwa [erase_map] at this
    · have := (List.eraseIdx_sublist ks i).length_le; have := hE.small; omega
    · have := footTs_erase hvs i; rwa [erase_map] at this
    · rw [List.length_eraseIdx, List.length_eraseIdx, hlv]
  · have hpl := placeT_none (i := 0) g1
    have hrun : (Builtin.delete_ c.argTypes o.type #[a.eval m, a.eval k]).run P w = .ok (.tuple #[]) { w with heap := w.heap.setIfInBounds r (.map es clock) } := by
      simp only [Builtin.delete_, hts, Sem.run_bind, run_underlying hu, Result.andThen_ok, hmr, hgo, hck, g5, List.getElem?_toArray, List.getElem?_cons_zero, List.getElem?_cons_succ]
      simp [setObj, Sem.run, hE.heap]
    unfold delK delV at hK
    rw [hpl] at hK
    exact fin es ks vs l hrun hK hE.perm hE.born hE.lt hE.keys hE.flat hE.nodup hE.small hE.ones hvf hvs hlv

/-- MAKE MAP -/
theorem makeMap_sound {o : Oper} {t : TypeId} {r : Option Operand} (ho : o.op = .makeMap t r) (hr : Rel w0 σ hv S F a w) (h : vcMakeMap P t (r.map σ.opd) σ.ob K) (hn : Ans w0 σ a K next) : Does P Q o a w next := by
  have g := Grew.alloc w (.map #[] 0)
  have main : ∀ kt et, (execOp a.eval o).run P w = .ok (.value (.map (some w.heap.size))) (w.alloc (.map #[] 0)) → K (.mr σ.ob.length) (σ.ob ++ [.map kt et (.own .leaf) [] [] none]) → Does P Q o a w next := by
    intro kt et hrun hK
    refine does_value hrun ?_
    obtain ⟨hv', _, h1, h2, h3⟩ := hr.new g (o := .map kt et (.own .leaf) [] [] none) (v := .map (some w.heap.size)) (Fi := [])
      (by intro b hb; simp [blkOf] at hb; subst hb; exact ⟨Nat.le_refl _, by simp⟩) rfl rfl (by simp) (by simp) (by
        intro hv' hB he hn'
        refine ⟨w.heap.size, #[], 0, [], ⟨rfl, heap_alloc_new w _, List.Perm.refl _, by simp, by simp, by simp [footTs], rfl, by simp, by have := Bd.lo; simp; omega, by simp⟩, els_leaf rfl (by simp [footTs]), rfl, by simp⟩)
    exact hn _ _ _ _ hv' _ _ [] hK h3 (by simp only [footA]; exact ⟨h2.symm, trivial⟩) (by simp) (by simp [AV.under])
  unfold vcMakeMap at h
  split at h
  · rename_i kt et hl hrn
    have hr0 : r = none := by cases r <;> first | rfl | (simp at hrn)
    subst hr0
    exact main _ _ (by simp [execOp, ho, Instr.makeMap, newObj]; rfl) h
  · rename_i kt et k n hl hrn
    cases r with
    | none => simp at hrn
    | some x =>
      simp only [Option.map_some, Option.some.injEq] at hrn
      have ax := hr.arg x
      rw [hrn] at ax
      have hx := ax.i_inv
      exact main _ _ (by simp [execOp, ho, Instr.makeMap, newObj, hx, run_underlying (lay_map hl), asInt, asIntOf]; rfl) h
  · cases h

end

end Go.Proofs.Ythhgcklidfilfaa.BX
