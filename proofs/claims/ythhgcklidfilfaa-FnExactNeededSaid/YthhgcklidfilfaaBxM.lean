/-
  A frame for proofs over whole functions, second make, thirteenth part: calls.
-/
import Derived.Test.YthhgcklidfilfaaBxL
namespace Go.Proofs.Ythhgcklidfilfaa.BX
set_option linter.unusedSectionVars false
set_option linter.unusedSimpArgs false
set_option linter.unusedVariables false
open Go Go.RowKit
variable [Bd]

mutual
/-- new, or plain -/
def freshAV : AV → Bool
  | .t y => y.flat
  | .sr _ | .mr _ | .rf _ _ | .ns | .ud => true
  | .ag cs => freshAVs cs
  | .tp cs => freshAVs cs
  | .fn _ cs => freshAVs cs
  | _ => false
def freshAVs : List AV → Bool
  | [] => true
  | x :: xs => freshAV x && freshAVs xs
end
def Ob.fresh : Ob → Bool
  | .dead => true
  | .box x => freshAV x
  | .arr _ _ (.own _) _ => true
  | .map _ _ (.own _) _ _ _ => true
  | _ => false
def freshOb : List Ob → Bool
  | [] => true
  | o :: os => o.fresh && freshOb os
def obsNoBw : List Ob → Bool
  | [] => true
  | o :: os => o.noBw && obsNoBw os

theorem obsNoBw_get : ∀ {os : List Ob}, obsNoBw os = true → ∀ {i : Nat} {o : Ob}, os[i]? = some o → o.noBw = true
  | [], _, i, o, h => by simp at h
  | o' :: os, hf, i, o, h => by
    simp only [obsNoBw, Bool.and_eq_true] at hf
    cases i with
    | zero => simp only [List.getElem?_cons_zero, Option.some.injEq] at h; subst h; exact hf.1
    | succ i => exact obsNoBw_get hf.2 (by simpa using h)
theorem freshOb_get : ∀ {os : List Ob}, freshOb os = true → ∀ {i : Nat} {o : Ob}, os[i]? = some o → o.fresh = true
  | [], _, i, o, h => by simp at h
  | o' :: os, hf, i, o, h => by
    simp only [freshOb, Bool.and_eq_true] at hf
    cases i with
    | zero => simp only [List.getElem?_cons_zero, Option.some.injEq] at h; subst h; exact hf.1
    | succ i => exact freshOb_get hf.2 (by simpa using h)

/-- a call that only looks; 'sh': the arguments have nothing of the caller's own in them -/
def CallV (P : Program) (g : FuncId) (ts : List T) (sh : Bool) (K : T → Prop) : Prop := ∃ x obs r ids, Con P g ts x obs ∧ x.take obs 5 = some (r, ids) ∧ nodupB ids = true ∧ (sh = true ∨ r.flat = true) ∧ K r

theorem CallV.of {P : Program} {g : FuncId} {ts : List T} {x : AV} {obs : List Ob} {sh : Bool} {K : T → Prop} {r : T} {ids : List Nat} (h : Con P g ts x obs) (h1 : x.take obs 5 = some (r, ids)) (h2 : nodupB ids = true) (h3 : sh = true ∨ r.flat = true) (k : K r) : CallV P g ts sh K := ⟨x, obs, r, ids, h, h1, h2, h3, k⟩

theorem CallV.t {P : Program} {g : FuncId} {ts : List T} {sh : Bool} {K : T → Prop} {r : T} (h : Con P g ts (.t r) []) (h3 : sh = true ∨ r.flat = true) (k : K r) : CallV P g ts sh K := ⟨.t r, [], r, [], h, by simp [AV.take], rfl, h3, k⟩

@[congr] theorem CallV_congr {P : Program} {g : FuncId} {ts ts' : List T} {sh sh' : Bool} {K : T → Prop} (h1 : tick ts = ts') (h2 : sh = sh') : CallV P g ts sh K = CallV P g ts' sh' K := by unfold tick at h1; rw [h1, h2]

/-- a call: 'ys' the arguments, 'ts' what they are read as, 'sh': they are closed for good, 'nb': no temporary is looked at for a while -/
inductive Callx (P : Program) (g : FuncId) (ys : List AV) (ts : Option (List T)) (sh nb : Bool) (ob : List Ob) (K : AV → List Ob → Prop) : Prop
  | closed {ts' : List T} {x : AV} {obs : List Ob} (h : Con P g ts' x obs) (hts : ts = some ts') (hb : (x.noBw && obsNoBw obs) = true) (hs : sh = true ∨ (freshAV x = true ∧ freshOb obs = true)) (k : K (x.ren (ob.length + ·)) (ob ++ obs.map (Ob.ren (ob.length + ·))))
  | hand (ids : List Nat) {xs : List AV} {obs : List Ob} {x : AV} {obs' : List Ob} (h : ConM P g xs obs x obs') (hn : nodupB ids = true) (hxs : vias (fun k => ids[k]?) xs ys) (hx : (noBws xs && obsNoBw obs) = true) (hu : unders obs.length xs = true)
      (hob : obVia (ids.map some) obs.length ob (ids.map some) obs) (hb : (x.noBw && obsNoBw obs') = true)
      (hnb : (∀ i ∈ ids, ∀ o, ob[i]? = some o → o.owns = false) ∨ (nb = true ∧ obNoBw ids 0 ob = true)) (k : K (x.ren (rn ids ob.length)) (behind ids obs' ob))

@[congr] theorem Callx_congr {P : Program} {g : FuncId} {ys ys' : List AV} {ts ts' : Option (List T)} {sh sh' nb nb' : Bool} {ob ob' : List Ob} {K : AV → List Ob → Prop} (h1 : tick ys = ys') (h2 : ts = ts') (h3 : sh = sh') (h4 : nb = nb') (h5 : ob = ob') : Callx P g ys ts sh nb ob K = Callx P g ys' ts' sh' nb' ob' K := by unfold tick at h1; rw [h1, h2, h3, h4, h5]

def vcCall (P : Program) (f : AV) (xs : List AV) (ob : List Ob) (K : AV → Prop) : Prop :=
  match calleeOf f with
  | some (g, caps) => match seesW (AV.see ob 5) (xs ++ caps) with
    | some ts => CallV P g ts (shuts (xs ++ caps)).isSome fun r => K (.t r)
    | none => False
  | none => False

def vcCallO (P : Program) (f : AV) (xs : List AV) (tm : List (Nat × AV)) (ob : List Ob) (K : AV → List Ob → Prop) : Prop :=
  match calleeOf f with
  | some (g, caps) => Callx P g (xs ++ caps) (seesW (AV.see ob 5) (xs ++ caps)) (shuts (xs ++ caps)).isSome (tmNoBw tm) ob K
  | none => False

section
variable {P : Program} {Q : Exit → Act → World → Prop} {w0 : Base} {σ : St} {hv : Hv} {S : Nat → Prop} {F : Nat → List Nat} {a : Act} {w : World}
  {K : AV → List Ob → Prop} {next : Value → World → Prop} {ob : List Ob}

/-- the roots of what is alive lie in the world -/
def RootsIn (ob : List Ob) (hv : Hv) (w : World) : Prop := ∀ (id : Nat) (o : Ob), ob[id]? = some o → o ≠ .dead → ∀ b, blkOf (hv id) = some b → b < w.heap.size

theorem Rel.rootsIn (hr : Rel w0 σ hv S F a w) : RootsIn σ.ob hv w := fun id o h hd b hb => (hr.root id o h hd b hb).2.1

theorem seesW_sound {f : AV → Option T} (hf : ∀ (x : AV) (y : T) (v : Value) (L : List Nat), f x = some y → footA hv w x v L → (∀ b ∈ L, S b) → ∃ L', footT w y v L' ∧ ∀ b ∈ L', b < w.heap.size) :
    ∀ (xs : List AV) (ys : List T) (vs : List Value) (L : List Nat), seesW f xs = some ys → footAs hv w xs vs L → (∀ b ∈ L, S b) → ∃ L', footTs w ys vs L' ∧ ∀ b ∈ L', b < w.heap.size
  | [], ys, vs, L, h, hx, hL => by
    simp only [seesW, Option.some.injEq] at h
    subst h
    simp only [footAs] at hx
    exact ⟨[], by simp [footTs, hx.1], by simp⟩
  | x :: xs, ys, vs, L, h, hx, hL => by
    simp only [seesW] at h
    split at h
    · rename_i y hy
      simp only [Option.map_eq_some_iff] at h
      obtain ⟨zs, h1, rfl⟩ := h
      simp only [footAs] at hx
      obtain ⟨v, vs', L1, L2, rfl, rfl, f1, f2⟩ := hx
      obtain ⟨M1, g1, g2⟩ := hf x y v L1 hy f1 (fun b hb => hL b (List.mem_append_left _ hb))
      obtain ⟨M2, g3, g4⟩ := seesW_sound hf xs zs vs' L2 h1 f2 (fun b hb => hL b (List.mem_append_right _ hb))
      exact ⟨M1 ++ M2, by simp only [footTs]; exact ⟨v, vs', M1, M2, rfl, rfl, g1, g3⟩, fun b hb => (List.mem_append.1 hb).elim (g2 b) (g4 b)⟩
    · cases h

theorem part_foot {e : TypeId} {m a l c c' b : Nat} {v : Value} {es : List T} {vs : List Value} {L : List Nat} (k1 : w.ownsRow 0 e m v es.length (cellsL vs)) (q1 : v = .slice (some ⟨b, 0, none⟩) es.length c) (g1 : footTs w es vs L) (k3 : ∀ v ∈ vs, v.cells.size = m) (k4 : es.length < Bd.B ∧ ones (cellsL vs)) (q3 : a + l ≤ es.length) (q4 : l ≤ c') :
    ∃ L', footT w (.sl ((es.drop a).take l)) (.slice (some ⟨b, a * m, none⟩) l c') L' ∧ ∀ x ∈ L', x ∈ b :: L := by
  obtain ⟨L2, g3, g4⟩ := footTs_drop g1 a
  obtain ⟨L1, g5, g6⟩ := footTs_take g3 l
  have hlen : ((es.drop a).take l).length = l := by rw [List.length_take, List.length_drop]; omega
  refine ⟨b :: L1, ?_, fun x hx => ?_⟩
  · simp only [footT, hlen]
    refine ⟨_, _, rfl, q4, by omega, .inr ⟨b, a * m, _, L1, m, rfl, g5, fun v hv => k3 v (List.mem_of_mem_drop (List.mem_of_mem_take hv)), rfl, ?_, ?_⟩⟩
    · intro j v hj
      rw [cellsL_take _ (fun v hv => k3 v (List.mem_of_mem_drop hv)), cellsL_drop _ k3, List.getElem?_take] at hj
      split at hj
      · rw [List.getElem?_drop] at hj
        have := ownsRow_laid k1 q1 _ v hj
        rwa [Nat.zero_add] at this
      · cases hj
    · rw [cellsL_take _ (fun v hv => k3 v (List.mem_of_mem_drop hv)), cellsL_drop _ k3]
      exact fun u hu => k4.2 u (List.mem_of_mem_drop (List.mem_of_mem_take hu))
  · rcases List.mem_cons.1 hx with rfl | hx
    · exact List.mem_cons_self ..
    · exact List.mem_cons_of_mem _ (g4 _ (g6 _ hx))
theorem see_sound (hob : Obs ob hv S F w) (hB : ∀ b, hv.B b → b < w.heap.size) (hR : RootsIn ob hv w) : ∀ (n : Nat) (x : AV) (y : T) (v : Value) (L : List Nat), x.see ob n = some y → footA hv w x v L → (∀ b ∈ L, S b) →
    ∃ L', footT w y v L' ∧ ∀ b ∈ L', b < w.heap.size
  | 0, _, _, _, _, h, _, _ => by simp [AV.see] at h
  | n + 1, x, y, v, L, h, hx, hL => by
    have ih := seesW_sound (S := S) (f := AV.see ob n) (fun x y v L => see_sound hob hB hR n x y v L)
    have inB : ∀ {k : Kind} {b : Nat}, k.reads hv S b → b < w.heap.size := fun {k} {b} h => by cases k <;> first | exact hB b h | exact hB b (hob.SB b h)
    simp only [AV.see] at h
    split at h
    · simp only [Option.some.injEq] at h; subst h; simp only [footA] at hx; exact ⟨L, hx, fun b hb => hB b (hob.SB b (hL b hb))⟩
    · simp only [Option.some.injEq] at h; subst h; simp only [footA] at hx
      obtain ⟨⟨L', h1, h2⟩, _⟩ := hx
      exact ⟨L', h1, fun b hb => hB b (h2 b hb)⟩
    · simp only [Option.some.injEq] at h; subst h
      exact ⟨[], ns_foot hx, by simp⟩
    · rename_i id
      split at h
      · rename_i e m k es hid
        simp only [Option.some.injEq] at h; subst h
        simp only [footA] at hx
        obtain ⟨rfl, _⟩ := hx
        obtain ⟨vs, k1, k2, k3, k4⟩ := hob.ob id _ hid
        obtain ⟨L1, g1, g2⟩ := elsR_foot k2 (fun hk b hb => hob.own id _ hid (by cases k <;> first | rfl | cases hk) b hb)
        obtain ⟨L', f1, f2⟩ := row_foot k1 g1 k3 k4
        refine ⟨L', f1, fun b hb => ?_⟩
        rcases f2 with rfl | ⟨g, hg, rfl⟩
        · cases hb
        · rcases List.mem_cons.1 hb with rfl | hb
          · exact hR id _ hid (by simp) _ hg
          · exact inB (g2 b hb)
      · cases h
    · rename_i id a m l
      split at h
      · rename_i e m' k es hid
        split at h
        · rename_i hm
          subst hm
          simp only [Option.some.injEq] at h; subst h
          simp only [footA] at hx
          obtain ⟨vs, k1, k2, k3, k4⟩ := hob.ob id _ hid
          obtain ⟨L1, g1, g2⟩ := elsR_foot k2 (fun hk b hb => hob.own id _ hid (by cases k <;> first | rfl | cases hk) b hb)
          rcases hx.1 with ⟨rfl, A, c, rfl⟩ | ⟨b, n, c, c', q1, rfl, q3, q4⟩
          · exact ⟨[], by simp only [footT, List.take_zero, List.length_nil]; exact ⟨A, c, rfl, Nat.zero_le _, by have := Bd.lo; omega, .inl ⟨trivial, trivial⟩⟩, by simp⟩
          · have hn : n = es.length := by
              rcases k1.2 with ⟨q, _⟩ | ⟨_, _, _, q, _⟩ <;> rw [q1] at q <;> cases q
              rfl
            subst hn
            obtain ⟨L', f1, f2⟩ := part_foot k1 q1 g1 k3 k4 q3 q4
            refine ⟨L', f1, fun b' hb' => ?_⟩
            rcases List.mem_cons.1 (f2 b' hb') with rfl | hb'
            · exact hR id _ hid (by simp) _ (by rw [q1]; rfl)
            · exact inB (g2 _ hb')
        · cases h
      · cases h
    · rename_i id
      split at h
      · rename_i kt vt k ks vs p hid
        simp only [Option.some.injEq] at h; subst h
        simp only [footA] at hx
        obtain ⟨rfl, _⟩ := hx
        obtain ⟨r, es, clock, l, k1, k2, k3, k4⟩ := hob.ob id _ hid
        obtain ⟨L1, g1, g2⟩ := elsR_foot k2 (fun hk b hb => hob.own id _ hid (by cases k <;> first | rfl | cases hk) b hb)
        refine ⟨r :: ([] ++ L1), ?_, fun b hb => ?_⟩
        · simp only [footT]
          exact ⟨r, es, clock, l, [], L1, k1.val, k1.heap, ⟨k1.perm, k1.born, k1.lt, k1.nodup, k1.small⟩, k1.keys, g1, rfl⟩
        · rcases List.mem_cons.1 hb with rfl | hb
          · exact hR id _ hid (by simp) _ (by rw [k1.val]; rfl)
          · exact inB (g2 b (by simpa using hb))
      · cases h
    · rename_i id off
      split at h
      · rename_i z hid
        split at h
        · simp only [Option.map_eq_some_iff] at h
          obtain ⟨zt, hz, rfl⟩ := h
          simp only [footA] at hx
          obtain ⟨b, e1, rfl, _⟩ := hx
          obtain ⟨b', te, u, L1, k1, k2, k3, k4⟩ := hob.ob id _ hid
          rw [e1] at k1
          cases k1
          obtain ⟨L', f1, f2⟩ := see_sound hob hB hR n z zt u L1 hz k3 k4
          refine ⟨b :: L', by simp only [footT]; exact ⟨b, 0, u, L', by rw [Nat.zero_add], f1, rfl, laid_of_heap k2⟩, fun b' hb' => ?_⟩
          rcases List.mem_cons.1 hb' with rfl | hb'
          · exact hR id _ hid (by simp) _ (by rw [e1]; rfl)
          · exact f2 b' hb'
        · cases h
      · cases h
    · simp only [Option.map_eq_some_iff] at h
      obtain ⟨zs, hz, rfl⟩ := h
      simp only [footA] at hx
      obtain ⟨vs, rfl, hx⟩ := hx
      obtain ⟨L', f1, f2⟩ := ih _ zs vs L hz hx hL
      exact ⟨L', by simp only [footT]; exact ⟨vs, rfl, f1⟩, f2⟩
    · simp only [Option.map_eq_some_iff] at h
      obtain ⟨zs, hz, rfl⟩ := h
      simp only [footA] at hx
      obtain ⟨vs, rfl, hx⟩ := hx
      obtain ⟨L', f1, f2⟩ := ih _ zs vs L hz hx hL
      exact ⟨L', by simp only [footT]; exact ⟨vs, rfl, f1⟩, f2⟩
    · simp only [Option.map_eq_some_iff] at h
      obtain ⟨zs, hz, rfl⟩ := h
      simp only [footA] at hx
      obtain ⟨vs, rfl, hx⟩ := hx
      obtain ⟨L', f1, f2⟩ := ih _ zs vs L hz hx hL
      exact ⟨L', by simp only [footT]; exact ⟨vs, rfl, f1⟩, f2⟩
    · cases h

/-- a call that yields a closed value, wherever the objects are so -/
def CallsTo (P : Program) (ob : List Ob) (e : Operand → AV) (o : Oper) (r : T) : Prop :=
  ∀ {hv : Hv} {S : Nat → Prop} {F : Nat → List Nat} {w : World} {ρ : Operand → Value}, Obs ob hv S F w → (∀ b, hv.B b → b < w.heap.size) → RootsIn ob hv w → (∀ y ∈ o.op.operands, Arg hv S w ob.length (e y) (ρ y)) →
    ∃ f args, (execOp ρ o).run P w = .ok (.enter f args) w ∧ Calls P f args w fun en w' => ∃ v L', en = .returned v ∧ footT w' r v L' ∧ (∀ b ∈ L', S b ∨ (w.heap.size ≤ b ∧ b < w'.heap.size)) ∧ Grew w w'

theorem args_foots {n : Nat} {e : Operand → AV} {ρ : Operand → Value} : ∀ (xs : List Operand), (∀ y ∈ xs, Arg hv S w n (e y) (ρ y)) → ∃ L, footAs hv w (xs.map e) (xs.map ρ) L ∧ ∀ b ∈ L, S b
  | [], _ => ⟨[], by simp [footAs], by simp⟩
  | x :: xs, h => by
    obtain ⟨⟨L1, h1, h2⟩, _⟩ := h x (List.mem_cons_self ..)
    obtain ⟨L2, h3, h4⟩ := args_foots xs (fun y hy => h y (List.mem_cons_of_mem _ hy))
    exact ⟨L1 ++ L2, by simp only [List.map_cons, footAs]; exact ⟨_, _, L1, L2, rfl, rfl, h1, h3⟩, fun b hb => (List.mem_append.1 hb).elim (h2 b) (h4 b)⟩

theorem start_get (vs : List Value) (L : List Nat) {xs : List AV} (hf : footAs hv w xs vs L) (t : Nat) : ∃ L', footA hv w (getL (numA 0 xs) t) (vs.toArray.getD t undef) L' ∧ ∀ b ∈ L', b ∈ L := by
  rw [numA_get, if_pos (Nat.zero_le _), Nat.sub_zero]
  cases hx : xs[t]? with
  | none => exact ⟨[], by simp [footA], by simp⟩
  | some x =>
    obtain ⟨v, L', h1, h2, h3⟩ := footAs_get hf hx
    refine ⟨L', ?_, h3⟩
    have : vs.toArray.getD t undef = v := by simp [Array.getD_eq_getD_getElem?, h1]
    rw [this]; exact h2

/-- a contract over closed arguments, run -/
theorem Con.run {f : FuncId} {ts : List T} {x : AV} {obs : List Ob} (h : Con P f ts x obs) {w : World} {vs : List Value} {La : List Nat} (hf : footTs w ts vs La) (hL : ∀ b ∈ La, b < w.heap.size) (M : Nat → Prop) :
    Calls P f vs.toArray w fun e w' => ∃ (v : Value) (hv : Hv) (S : Nat → Prop) (F : Nat → List Nat) (L' : List Nat), e = .returned v ∧ Rel ⟨w, (· ∈ La), M, 0, fun _ => .bool true⟩ ⟨0, [], obs⟩ hv S F ⟨#[], []⟩ w' ∧ footA hv w' x v L' ∧ (∀ b ∈ L', S b) ∧ x.under obs.length = true := by
  have hlen := footTs_length hf
  have hfa : footAs ⟨fun _ => .bool true, (· ∈ La)⟩ w (ts.map .t) vs La := footAs_t hf
  exact h.2 w (· ∈ La) M vs ⟨fun _ => .bool true, (· ∈ La)⟩ (· ∈ La) (fun _ => [])
    { size := by simp [hlen], defs := rfl, tm := fun t => start_get vs La hfa t, utm := fun t => by
        rw [numA_get, if_pos (Nat.zero_le _)]
        cases hx : (ts.map AV.t)[t - 0]? with
        | none => rfl
        | some x =>
          rw [List.getElem?_map, Option.map_eq_some_iff] at hx
          obtain ⟨y, _, rfl⟩ := hx
          rfl
      ob := by simp, uob := by simp, root := by simp, sep := by simp, SB := fun b hb => hb, Blt := hL, Bin := fun b hb => .inl hb, fown := by simp, fsep := by simp, below := But.refl _ _ _, one := fun _ => rfl, an := Nat.zero_le _, av := fun i hi => by cases hi }

/-- the call is made, and its arguments read so -/
theorem args_ready {ρ : Operand → Value} {e : Operand → AV} {o : Oper} {c : Call} {f : Operand} {g : FuncId} {caps : List AV} (ho : o.op = .call c) (hc : c.callee = .value f) (hg : calleeOf (e f) = some (g, caps)) (hbody : hasBody P g)
    (hob : Obs ob hv S F w) (harg : ∀ y ∈ o.op.operands, Arg hv S w ob.length (e y) (ρ y)) :
    ∃ args, (execOp ρ o).run P w = .ok (.enter g args) w ∧ ∃ L', footAs hv w (c.args.toList.map e ++ caps) args.toList L' ∧ (∀ b ∈ L', S b) ∧ unders ob.length (c.args.toList.map e ++ caps) = true := by
    have hmem : ∀ y ∈ c.args.toList, y ∈ o.op.operands := fun y hy => by rw [ho]; simp only [Op.operands, Call.operands, hc]; exact Array.mem_append.2 (.inr (by simpa using hy))
    have hfm : f ∈ o.op.operands := by rw [ho]; simp only [Op.operands, Call.operands, hc]; exact Array.mem_append.2 (.inl (by simp))
    obtain ⟨L1, f1, f2⟩ := args_foots (n := ob.length) c.args.toList (fun y hy => harg y (hmem y hy))
    obtain ⟨⟨Lf, ff, hLf⟩, huf⟩ := harg f hfm
    obtain ⟨vcaps, L2, e1, f3, f4, f5⟩ : ∃ vcaps L2, ρ f = .func (.func g) #[] vcaps ∧ footAs hv w caps vcaps.toList L2 ∧ (∀ b ∈ L2, S b) ∧ unders ob.length caps = true := by
      unfold calleeOf at hg
      split at hg
      · rename_i f' cs hf'
        simp only [Option.some.injEq, Prod.mk.injEq] at hg
        obtain ⟨rfl, rfl⟩ := hg
        rw [hf'] at ff huf
        simp only [footA] at ff
        simp only [AV.under] at huf
        obtain ⟨vs, e1, f3⟩ := ff
        exact ⟨_, Lf, e1, by simpa using f3, hLf, huf⟩
      · rename_i f' cs hf'
        simp only [Option.some.injEq, Prod.mk.injEq] at hg
        obtain ⟨rfl, rfl⟩ := hg
        rw [hf'] at ff
        simp only [footA, footT] at ff
        obtain ⟨vs, e1, f3⟩ := ff
        exact ⟨_, Lf, e1, by simpa using footAs_t f3, hLf, unders_of (fun x hx => by simp only [List.mem_map] at hx; obtain ⟨y, _, rfl⟩ := hx; rfl)⟩
      · rename_i f' cs hf'
        simp only [Option.some.injEq, Prod.mk.injEq] at hg
        obtain ⟨rfl, rfl⟩ := hg
        rw [hf'] at ff
        simp only [footA, footT] at ff
        obtain ⟨⟨L0, ⟨vs, e1, f3⟩, hB⟩, _⟩ := ff
        have conv : ∀ (xs : List T) (vs : List Value) (L : List Nat), footTs w xs vs L → (∀ b ∈ L, hv.B b) → footAs hv w (xs.map .bw) vs [] := by
          intro xs
          induction xs with
          | nil => intro vs L h _; simp only [footTs] at h; simp only [List.map_nil, footAs]; exact ⟨h.1, trivial⟩
          | cons x xs ih =>
            intro vs L h hL
            simp only [footTs] at h
            obtain ⟨v, vs', M1, M2, rfl, rfl, g1, g2⟩ := h
            simp only [List.map_cons, footAs]
            exact ⟨v, vs', [], [], rfl, rfl, by simp only [footA]; exact ⟨⟨M1, g1, fun b hb => hL b (List.mem_append_left _ hb)⟩, trivial⟩, ih _ _ g2 (fun b hb => hL b (List.mem_append_right _ hb))⟩
        exact ⟨_, [], e1, by simpa using conv _ _ _ f3 hB, by simp, unders_of (fun x hx => by simp only [List.mem_map] at hx; obtain ⟨y, _, rfl⟩ := hx; rfl)⟩
      · cases hg
    have fall := footAs_append f1 f3
    have hLS : ∀ b ∈ L1 ++ L2, S b := fun b hb => (List.mem_append.1 hb).elim (f2 b) (f4 b)
    obtain ⟨fn, hfn1, hfn2, hfn3⟩ := hbody
    refine ⟨(c.args.map ρ) ++ vcaps, ?_, L1 ++ L2, by simpa using fall, hLS, unders_of fun x hx => ?_⟩
    · have hb : fn.body ≠ none := by rintro hh; simp [hh] at hfn2
      have hnm : fn.name ≠ "runtime.NumGoroutine" := by rintro hh; simp [hh] at hfn3
      simp only [execOp, ho, resolve, hc, Deferred.ofValue, e1, Sem.run_bind]
      simp [invoke, callFunc, hfn1, hnm, hb]
    · rcases List.mem_append.1 hx with hx | hx
      · simp only [List.mem_map] at hx
        obtain ⟨y, hy, rfl⟩ := hx
        exact (harg y (hmem y hy)).2
      · exact unders_mem f5 hx

/-- the arguments as closed values; where nothing of the caller's own is in them they lie in what is read for good -/
theorem args_seen {xs : List AV} {vs : List Value} {L : List Nat} {ts : List T} (hob : Obs ob hv S F w) (hB : ∀ b, hv.B b → b < w.heap.size) (hR : RootsIn ob hv w) (hf : footAs hv w xs vs L) (hL : ∀ b ∈ L, S b) (hts : seesW (AV.see ob 5) xs = some ts) :
    ∃ La, footTs w ts vs La ∧ (∀ b ∈ La, b < w.heap.size) ∧ ((shuts xs).isSome = true → ∀ b ∈ La, S b) := by
  cases hsh : shuts xs with
  | none =>
    obtain ⟨L', g1, g2⟩ := seesW_sound (S := S) (fun x y v L => see_sound hob hB hR 5 x y v L) _ _ _ _ hts hf hL
    exact ⟨L', g1, g2, by simp⟩
  | some ts' =>
    have g1 := shuts_sound _ hsh hf
    have same : ∀ (n : Nat) (x : AV) (y z : T), x.shut = some y → x.see ob n = some z → y = z := by
      have lst : ∀ (n : Nat), (∀ (x : AV) (y z : T), x.shut = some y → x.see ob n = some z → y = z) → ∀ (xs : List AV) {ys zs : List T}, shuts xs = some ys → seesW (AV.see ob n) xs = some zs → ys = zs := by
        intro n ih xs
        induction xs with
        | nil => intro ys zs h1 h2; simp only [shuts, seesW, Option.some.injEq] at h1 h2; rw [← h1, ← h2]
        | cons x xs ihx =>
          intro ys zs h1 h2
          simp only [shuts] at h1
          simp only [seesW] at h2
          split at h1
          · rename_i y hy
            split at h2
            · rename_i z hz
              simp only [Option.map_eq_some_iff] at h1 h2
              obtain ⟨y1, p1, rfl⟩ := h1
              obtain ⟨z1, p2, rfl⟩ := h2
              rw [ih x y z hy hz, ihx p1 p2]
            · cases h2
          · cases h1
      intro n
      induction n with
      | zero => intro x y z _ h2; simp [AV.see] at h2
      | succ n ih =>
        intro x y z h1 h2
        have ihs := fun (xs : List AV) {ys zs : List T} => lst n ih xs (ys := ys) (zs := zs)
        cases x <;> simp only [AV.shut, AV.see] at h1 h2 <;> first | (cases h1; done) | skip
        · simp only [Option.some.injEq] at h1 h2; rw [← h1, ← h2]
        · simp only [Option.some.injEq] at h1 h2; rw [← h1, ← h2]
        · simp only [Option.map_eq_some_iff] at h1 h2
          obtain ⟨y1, p1, rfl⟩ := h1
          obtain ⟨z1, p2, rfl⟩ := h2
          rw [ihs _ p1 p2]
        · simp only [Option.map_eq_some_iff] at h1 h2
          obtain ⟨y1, p1, rfl⟩ := h1
          obtain ⟨z1, p2, rfl⟩ := h2
          rw [ihs _ p1 p2]
    have : ts' = ts := by
      clear g1 hf
      induction xs generalizing ts ts' with
      | nil => simp only [shuts, seesW, Option.some.injEq] at hsh hts; rw [← hsh, ← hts]
      | cons x xs ihx =>
        simp only [shuts] at hsh
        simp only [seesW] at hts
        split at hsh
        · rename_i y hy
          split at hts
          · rename_i z hz
            simp only [Option.map_eq_some_iff] at hsh hts
            obtain ⟨y1, p1, rfl⟩ := hsh
            obtain ⟨z1, p2, rfl⟩ := hts
            rw [same 5 x y z hy hz, ihx p2 _ p1]
          · cases hts
        · cases hsh
    subst this
    exact ⟨L, g1, fun b hb => hB b (hob.SB b (hL b hb)), fun _ => hL⟩

theorem call_sound {e : Operand → AV} {K : AV → Prop} {o : Oper} {c : Call} {f : Operand} (ho : o.op = .call c) (hc : c.callee = .value f) (h : vcCall P (e f) (c.args.toList.map e) ob K) : ∃ r, K (.t r) ∧ CallsTo P ob e o r := by
  unfold vcCall at h
  split at h
  case h_2 => cases h
  rename_i g caps hg
  split at h
  case h_2 => cases h
  rename_i ts hts
  obtain ⟨x, obs, r, ids, hcon, htake, hnd, hsh, hK⟩ := h
  refine ⟨r, hK, ?_⟩
  intro hv S F w ρ hob hB hR harg
  obtain ⟨args, hrun, L', g1, g2, _⟩ := args_ready ho hc hg hcon.1 hob harg
  obtain ⟨La, k1, k2, k3⟩ := args_seen hob hB hR g1 g2 hts
  refine ⟨g, args, hrun, ?_⟩
  have := hcon.run (vs := args.toList) k1 k2 (fun _ => False)
  refine this.mono fun en w' hh => ?_
  obtain ⟨v, hv1, S1, F1, L2, rfl, hr1, f1, f2, _⟩ := hh
  have hg : Grew w w' := Grew.of_below (hr1.below.below (fun _ h => h)) hr1.below.drawn
  obtain ⟨L3, t1, t2⟩ := take_sound hr1 5 x htake f1 f2
  rcases hsh with hsh | hfl
  · refine ⟨v, L3, rfl, t1, fun b hb => ?_, hg⟩
    have inB : ∀ b, hv1.B b → S b ∨ (w.heap.size ≤ b ∧ b < w'.heap.size) := fun b hb => by
      rcases hr1.Bin b hb with h | h | h
      · exact .inl (k3 hsh b h)
      · exact h.elim
      · exact .inr ⟨h, hr1.Blt b hb⟩
    rcases t2 b hb with h | ⟨i, hi, oo, q1, q2, q3⟩
    · exact inB b (hr1.SB b h)
    · rcases q3 with q3 | ⟨q3, q4⟩
      · obtain ⟨p1, p2, _⟩ := hr1.root i oo q1 q2 b q3
        exact .inr ⟨p1.elim (fun h => h.elim) (fun h => h), p2⟩
      · exact inB b (hr1.fown i oo q1 q3 b q4).2.1
  · exact ⟨v, [], rfl, (flat_foot r hfl t1).2 w', by simp, hg⟩

/-- the function behind a method's name, for a struct's own method -/
def methOf (P : Program) (t : TypeId) (name : String) : Option FuncId :=
  match P.info? t with
  | some i => match i.methods.find? (·.name == name), P.underlying t with
    | some m, some (.struct _) => if m.path.isEmpty = true then match m.func with
      | some (f, false) => some f
      | _ => none
      else none
    | _, _ => none
  | none => none

theorem method_plain {t : TypeId} {v : Value} {name : String} {f : FuncId} (h : methOf P t name = some f) (n : Nat) : (method (n + 1) t v name).run P w = .ok (f, v) w := by
  unfold methOf at h
  split at h
  · rename_i i hi
    split at h
    · rename_i m fs hm hu
      split at h
      · rename_i hp
        split at h
        · rename_i f' hf
          cases h
          have hp' : m.path.toList = [] := by
            have : m.path = #[] := by simpa [Array.isEmpty_iff] using hp
            rw [this]
          simp [method, typeInfo, hi, hm, hp', follow, hf, receiverAt, run_underlying hu, Place.get]
        · cases h
      · cases h
    · cases h
  · cases h

theorem inv_ready {ρ : Operand → Value} {e : Operand → AV} {o : Oper} {c : Call} {r : Operand} {name : String} {g : FuncId} {t : TypeId} {x : T} (ho : o.op = .call c) (hc : c.callee = .invoke r name) (hx : e r = .t (.ifc t x)) (hm : methOf P t name = some g) (hbody : hasBody P g)
    (harg : ∀ y ∈ o.op.operands, Arg hv S w ob.length (e y) (ρ y)) :
    ∃ args, (execOp ρ o).run P w = .ok (.enter g args) w ∧ ∃ L', footAs hv w (.t x :: c.args.toList.map e) args.toList L' ∧ (∀ b ∈ L', S b) := by
  have hmem : ∀ y ∈ c.args.toList, y ∈ o.op.operands := fun y hy => by rw [ho]; simp only [Op.operands, Call.operands, hc]; exact Array.mem_append.2 (.inr (by simpa using hy))
  have hrm : r ∈ o.op.operands := by rw [ho]; simp only [Op.operands, Call.operands, hc]; exact Array.mem_append.2 (.inl (by simp))
  obtain ⟨L1, f1, f2⟩ := args_foots (n := ob.length) c.args.toList (fun y hy => harg y (hmem y hy))
  obtain ⟨⟨Lf, ff, hLf⟩, _⟩ := harg r hrm
  rw [hx] at ff
  simp only [footA, footT] at ff
  obtain ⟨u, e1, f3⟩ := ff
  obtain ⟨fn, hfn1, hfn2, hfn3⟩ := hbody
  refine ⟨#[u] ++ c.args.map ρ, ?_, Lf ++ L1, ?_, fun b hb => (List.mem_append.1 hb).elim (hLf b) (f2 b)⟩
  · have hb : fn.body ≠ none := by rintro hh; simp [hh] at hfn2
    have hnm : fn.name ≠ "runtime.NumGoroutine" := by rintro hh; simp [hh] at hfn3
    have hmp := method_plain (P := P) (w := w) (v := u) hm (P.types.size + 99)
    have hd : P.types.size + Made.depth = P.types.size + 99 + 1 := rfl
    simp only [execOp, ho, resolve, hc, Sem.run_bind, Sem.run_pure, Result.andThen_ok]
    have hex : (#[ρ r] ++ Array.map ρ c.args).extract 1 (#[ρ r] ++ Array.map ρ c.args).size = Array.map ρ c.args := by
      apply Array.ext'
      simp
      exact List.take_of_length_le (by simp)
    have hget : (#[Value.iface t u] ++ Array.map ρ c.args)[0]? = some (Value.iface t u) := by simp [Array.getElem?_append]
    have hcm : (callMethod (.iface t u) name (Array.map ρ c.args)).run P w = .ok (.enter g (#[u] ++ c.args.map ρ)) w := by
      simp only [callMethod, Sem.run_bind, run_program, Result.andThen_ok, hd, hmp]
      simp [callFunc, hfn1, hnm, hb]
    rw [e1] at hex ⊢
    simp only [invoke]
    rw [hget]
    dsimp only
    rw [hex]
    exact hcm
  · have e2 : (#[u] ++ c.args.map ρ).toList = u :: c.args.toList.map ρ := by simp
    rw [e2]
    simp only [footAs]
    exact ⟨u, _, Lf, L1, rfl, rfl, by simpa only [footA] using f3, f1⟩

/-- a method is called through an interface -/
def vcInv (P : Program) (r : AV) (name : String) (xs : List AV) (ob : List Ob) (K : AV → Prop) : Prop :=
  match r with
  | .t (.ifc t x) => match methOf P t name with
    | some g => match seesW (AV.see ob 5) (.t x :: xs) with
      | some ts => CallV P g ts (shuts (.t x :: xs)).isSome fun r => K (.t r)
      | none => False
    | none => False
  | _ => False

theorem inv_sound {e : Operand → AV} {K : AV → Prop} {o : Oper} {c : Call} {f : Operand} {name : String} (ho : o.op = .call c) (hc : c.callee = .invoke f name) (h : vcInv P (e f) name (c.args.toList.map e) ob K) : ∃ r, K (.t r) ∧ CallsTo P ob e o r := by
  unfold vcInv at h
  split at h
  case h_2 => cases h
  rename_i t x hx
  split at h
  case h_2 => cases h
  rename_i g hg
  split at h
  case h_2 => cases h
  rename_i ts hts
  obtain ⟨x, obs, r, ids, hcon, htake, hnd, hsh, hK⟩ := h
  refine ⟨r, hK, ?_⟩
  intro hv S F w ρ hob hB hR harg
  obtain ⟨args, hrun, L', g1, g2⟩ := inv_ready ho hc hx hg hcon.1 harg
  obtain ⟨La, k1, k2, k3⟩ := args_seen hob hB hR g1 g2 hts
  refine ⟨g, args, hrun, ?_⟩
  have := hcon.run (vs := args.toList) k1 k2 (fun _ => False)
  refine this.mono fun en w' hh => ?_
  obtain ⟨v, hv1, S1, F1, L2, rfl, hr1, f1, f2, _⟩ := hh
  have hg : Grew w w' := Grew.of_below (hr1.below.below (fun _ h => h)) hr1.below.drawn
  obtain ⟨L3, t1, t2⟩ := take_sound hr1 5 x htake f1 f2
  rcases hsh with hsh | hfl
  · refine ⟨v, L3, rfl, t1, fun b hb => ?_, hg⟩
    have inB : ∀ b, hv1.B b → S b ∨ (w.heap.size ≤ b ∧ b < w'.heap.size) := fun b hb => by
      rcases hr1.Bin b hb with h | h | h
      · exact .inl (k3 hsh b h)
      · exact h.elim
      · exact .inr ⟨h, hr1.Blt b hb⟩
    rcases t2 b hb with h | ⟨i, hi, oo, q1, q2, q3⟩
    · exact inB b (hr1.SB b h)
    · rcases q3 with q3 | ⟨q3, q4⟩
      · obtain ⟨p1, p2, _⟩ := hr1.root i oo q1 q2 b q3
        exact .inr ⟨p1.elim (fun h => h.elim) (fun h => h), p2⟩
      · exact inB b (hr1.fown i oo q1 q3 b q4).2.1
  · exact ⟨v, [], rfl, (flat_foot r hfl t1).2 w', by simp, hg⟩

theorem rn_nil {n : Nat} : rn [] n = (n + ·) := by funext k; simp [rn]
theorem behind_nil {obs ob : List Ob} : behind [] obs ob = ob ++ obs.map (Ob.ren (ob.length + ·)) := by simp [behind, placeOb, rn_nil]

mutual
theorem freshAV_foot : ∀ (x : AV), freshAV x = true → ∀ (v : Value) (L : List Nat), footA hv w x v L → footA hv w x v []
  | .t y, h, v, L, hf => by simp only [freshAV] at h; simp only [footA] at hf ⊢; exact (flat_foot _ h hf).2 w
  | .sr _, h, v, L, hf => by simp only [footA] at hf ⊢; exact ⟨hf.1, trivial⟩
  | .mr _, h, v, L, hf => by simp only [footA] at hf ⊢; exact ⟨hf.1, trivial⟩
  | .rf _ _, h, v, L, hf => by simp only [footA] at hf ⊢; obtain ⟨b, h1, h2, _⟩ := hf; exact ⟨b, h1, h2, trivial⟩
  | .ns, h, v, L, hf => by simp only [footA] at hf ⊢; exact ⟨hf.1, trivial⟩
  | .ud, h, v, L, hf => by simp only [footA] at hf ⊢; exact ⟨hf.1, trivial⟩
  | .ag cs, h, v, L, hf => by
    simp only [freshAV] at h
    simp only [footA] at hf ⊢
    obtain ⟨vs, e, hf⟩ := hf
    exact ⟨vs, e, freshAVs_foot cs h vs L hf⟩
  | .tp cs, h, v, L, hf => by
    simp only [freshAV] at h
    simp only [footA] at hf ⊢
    obtain ⟨vs, e, hf⟩ := hf
    exact ⟨vs, e, freshAVs_foot cs h vs L hf⟩
  | .fn f cs, h, v, L, hf => by
    simp only [freshAV] at h
    simp only [footA] at hf ⊢
    obtain ⟨vs, e, hf⟩ := hf
    exact ⟨vs, e, freshAVs_foot cs h vs L hf⟩
  | .un, h, _, _, _ | .bw _, h, _, _, _ | .ra _ _ _ _, h, _, _, _ | .sv _ _ _ _, h, _, _, _ | .it _, h, _, _, _ => by simp [freshAV] at h
theorem freshAVs_foot : ∀ (xs : List AV), freshAVs xs = true → ∀ (vs : List Value) (L : List Nat), footAs hv w xs vs L → footAs hv w xs vs []
  | [], _, vs, L, hf => by simp only [footAs] at hf ⊢; exact ⟨hf.1, trivial⟩
  | x :: xs, h, vs, L, hf => by
    simp only [freshAVs, Bool.and_eq_true] at h
    simp only [footAs] at hf ⊢
    obtain ⟨v, vs', L1, L2, rfl, rfl, h1, h2⟩ := hf
    exact ⟨v, vs', [], [], rfl, rfl, freshAV_foot x h.1 v L1 h1, freshAVs_foot xs h.2 vs' L2 h2⟩
end

theorem fresh_ObR {G : Nat → Prop} {Fi : List Nat} {h : Value} {o : Ob} (hf : o.fresh = true) (ho : ObR hv S w Fi h o) : ObR hv G w Fi h o := by
  cases o with
  | dead => trivial
  | box x =>
    obtain ⟨b, e, u, L, h1, h2, h3, h4⟩ := ho
    exact ⟨b, e, u, [], h1, h2, freshAV_foot x hf _ _ h3, by simp⟩
  | arr e m k es =>
    cases k <;> first | (simp [Ob.fresh] at hf; done) | skip
    exact ho
  | map kt vt k ks vs p =>
    cases k <;> first | (simp [Ob.fresh] at hf; done) | skip
    exact ho
  | _ => simp [Ob.fresh] at hf

/-- the arguments alone, as a state -/
theorem Rel.args (hr : Rel w0 σ hv S F a w) {ys : List AV} {vs : List Value} {L : List Nat} (hf : footAs hv w ys vs L) (hL : ∀ b ∈ L, S b) (hu : unders σ.ob.length ys = true) : Rel w0 ⟨ys.length, numA 0 ys, σ.ob⟩ hv S F ⟨vs.toArray, []⟩ w :=
  { hr with
    size := by simp [footAs_length hf]
    defs := rfl
    tm := fun t => by obtain ⟨L', h1, h2⟩ := start_get vs L hf t; exact ⟨L', h1, fun b hb => hL b (h2 b hb)⟩
    utm := fun t => by
      show (getL (numA 0 ys) t).under σ.ob.length = true
      rw [numA_get, if_pos (Nat.zero_le _)]
      cases hx : ys[t - 0]? with
      | none => rfl
      | some x => exact unders_mem hu (List.mem_of_getElem? hx) }

/-- nobody has been handed anything -/
theorem Rel.noArgs (hr : Rel w0 σ hv S F a w) : Rel { w0 with na := 0 } σ hv S F a w :=
  { hr with an := Nat.zero_le _, av := fun i hi => by cases hi }

theorem tmVia_num {r : List (Option Nat)} {n : Nat} {xs ys : List AV} (h : vias (rnO r) xs ys) (hu : unders n xs = true) : tmVia r n (numA 0 ys) (numA 0 xs) := by
  have key : ∀ (xs ys : List AV) (k : Nat) (tm : List (Nat × AV)), vias (rnO r) xs ys → unders n xs = true → (∀ (i : Nat) x, ys[i]? = some x → getL tm (k + i) = x) → tmVia r n tm (numA k xs) := by
    intro xs
    induction xs with
    | nil => intro ys k tm _ _ _; trivial
    | cons x xs ih =>
      intro ys k tm hv hu hg
      simp only [vias] at hv
      split at hv
      · rename_i y ys'
        simp only [unders, Bool.and_eq_true] at hu
        simp only [numA, tmVia]
        refine ⟨⟨hu.1, ?_⟩, ih ys' (k + 1) tm hv.2 hu.2 (fun i x hx => by rw [show k + 1 + i = k + (i + 1) by omega]; exact hg (i + 1) x (by simpa using hx))⟩
        rw [show getL tm k = y from hg 0 y rfl]
        exact hv.1
      · cases hv
  refine key xs ys 0 _ h hu (fun i x hx => ?_)
  rw [numA_get, if_pos (Nat.zero_le _), Nat.sub_zero, Nat.zero_add, hx]

theorem rnO_map {ids : List Nat} : rnO (ids.map some) = fun k => ids[k]? := by
  funext k
  simp only [rnO, List.getElem?_map]
  cases ids[k]? <;> rfl

theorem distinct_map {ids : List Nat} (h : ids.Nodup) : distinct (ids.map some) = true := by
  induction ids with
  | nil => rfl
  | cons i ids ih =>
    obtain ⟨h1, h2⟩ := List.nodup_cons.1 h
    simp only [List.map_cons, distinct, ih h2, Bool.and_true, Bool.or_eq_true]
    refine .inr ?_
    simp only [Bool.not_eq_true']
    cases hc : (ids.map some).contains (some i) with
    | false => rfl
    | true =>
      have := List.contains_iff_mem.1 hc
      simp only [List.mem_map, Option.some.injEq] at this
      obtain ⟨j, hj, rfl⟩ := this
      exact absurd hj h1

/-- A CALL -/
theorem callO_sound {o : Oper} {c : Call} {f : Operand} (ho : o.op = .call c) (hc : c.callee = .value f) (hr : Rel w0 σ hv S F a w) (h : vcCallO P (σ.opd f) (c.args.toList.map σ.opd) σ.tm σ.ob K) (hn : Ans w0 σ a K next) : Does P Q o a w next := by
  unfold vcCallO at h
  split at h
  case h_2 => cases h
  rename_i g caps hg
  cases h with
  | closed hcon hts hb hsh hK =>
    rename_i ts x obs
    obtain ⟨args, hrun, L', g1, g2, _⟩ := args_ready ho hc hg hcon.1 hr.obs (fun y _ => hr.arg y)
    obtain ⟨La, k1, k2, k3⟩ := args_seen hr.obs hr.Blt hr.rootsIn g1 g2 hts
    simp only [Bool.and_eq_true] at hb
    unfold Does Oper.wp
    rw [hrun, Oper.upon_enter]
    refine (hcon.run (vs := args.toList) k1 k2 (Hand σ.ob hv F [])).mono fun en w' hh => ?_
    obtain ⟨v, hv1, S1, F1, L2, rfl, hc1, f1, f2, hu⟩ := hh
    refine ⟨v, rfl, ?_⟩
    have hM : ∀ b, ¬ Hand σ.ob hv F [] b := fun b hb => by obtain ⟨i, hi, _⟩ := hb; cases hi
    have done : ∀ (G : Nat → Prop), (∀ b, G b → S1 b ∧ (S b ∨ Hand σ.ob hv F [] b ∨ w.heap.size ≤ b)) → (∀ (id : Nat) (o : Ob), obs[id]? = some o → o.noBw = true ∧ ObR hv1 G w' (F1 id) (hv1 id) o) → ∀ (L3 : List Nat), footA hv1 w' x v L3 → (∀ b ∈ L3, G b) → next v w' := by
      intro G hG hob L3 f3 f4
      obtain ⟨hv2, F2, hj, he⟩ := hr.join (ids := []) (by simp) (by simp) (av := fun _ => .bool true) (by simp) hc1 hG hob (.inl fun b hb => (hM b hb).elim)
      have hk : K (x.ren (rn [] σ.ob.length)) (behind [] obs σ.ob) := by rw [rn_nil, behind_nil]; exact hK
      exact hn v w' _ _ hv2 _ F2 L3 hk hj (ren_foot he _ _ _ hb.1 f3) (fun b hb => .inr (f4 b hb)) (by rw [behind_length]; exact ren_under (fun i hi => rn_lt (by simp) hi) x hu)
    rcases hsh with hsh | ⟨hfx, hfo⟩
    · refine done S1 (fun b hb => ⟨hb, ?_⟩) (fun id o hid => ⟨obsNoBw_get hb.2 hid, hc1.ob id o hid⟩) L2 f1 f2
      rcases hc1.Bin b (hc1.SB b hb) with h | h | h
      · exact .inl (k3 hsh b h)
      · exact .inr (.inl h)
      · exact .inr (.inr h)
    · exact done (fun _ => False) (fun b hb => hb.elim) (fun id o hid => ⟨obsNoBw_get hb.2 hid, fresh_ObR (freshOb_get hfo hid) (hc1.ob id o hid)⟩) [] (freshAV_foot x hfx _ _ f1) (by simp)
  | hand ids hcon hnd hxs hx hux hob hb hnb hK =>
    rename_i xs obs x obs'
    have hn' := nodupB_spec hnd
    obtain ⟨args, hrun, L', g1, g2, g3⟩ := args_ready ho hc hg hcon.1 hr.obs (fun y _ => hr.arg y)
    simp only [Bool.and_eq_true] at hb hx
    have hr1 := (hr.args g1 g2 g3).noArgs
    obtain ⟨hlen, hobg⟩ := obVia_get hob
    rw [List.length_map] at hlen
    have hxs' : vias (rnO (ids.map some)) xs (c.args.toList.map σ.opd ++ caps) := by rw [rnO_map]; exact hxs
    obtain ⟨hvC, FC, hrC, hBC, hsame⟩ := hr1.keep (ids := ids.map some) (σ' := ⟨(c.args.toList.map σ.opd ++ caps).length, numA 0 xs, obs⟩) rfl (distinct_map hn') rfl (tmVia_num hxs' hux) hob
    have hsame' : ∀ k i, ids[k]? = some i → hvC k = hv i ∧ FC k = F i := fun k i h => hsame k i (by rw [rnO_map]; exact h)
    have hids : ∀ i ∈ ids, i < σ.ob.length := by
      intro i hi
      obtain ⟨k, hk, hki⟩ := List.getElem_of_mem hi
      have hkl : k < obs.length := by omega
      obtain ⟨j, h1, h2⟩ := hobg k obs[k] (List.getElem?_eq_getElem hkl)
      rw [List.getElem?_map, List.getElem?_eq_getElem hk, Option.map_some, hki, Option.some.injEq] at h1
      subst h1
      simp only [obVia1] at h2
      split at h2
      · exact get_lt (by assumption)
      · cases h2
    -- each object of the callee's is one of the caller's
    have back : ∀ (k : Nat) (o : Ob), obs[k]? = some o → ∃ i o', ids[k]? = some i ∧ i ∈ ids ∧ σ.ob[i]? = some o' ∧ o.via (rnO (ids.map some)) o' := by
      intro k o hk
      obtain ⟨j, h1, h2⟩ := hobg k o hk
      rw [List.getElem?_map, Option.map_eq_some_iff] at h1
      obtain ⟨i, hi, rfl⟩ := h1
      simp only [obVia1] at h2
      split at h2
      · rename_i o' ho'
        exact ⟨i, o', hi, List.mem_of_getElem? hi, ho', h2.2⟩
      · cases h2
    have live : ∀ {o o' : Ob} {r : Nat → Option Nat}, o.via r o' → o ≠ .dead → o' ≠ .dead := by
      rintro o o' r h hd rfl
      cases o <;> simp [Ob.via] at h hd
    -- what the callee may look at
    let BC : Nat → Prop := fun b => S b ∨ ∃ k o, obs[k]? = some o ∧ o.owns = true ∧ b ∈ FC k
    have handed : ∀ (k : Nat) (o : Ob), obs[k]? = some o → o ≠ .dead → ∀ b, (blkOf (hvC k) = some b ∨ (o.owns = true ∧ b ∈ FC k)) → Hand σ.ob hv F ids b := by
      intro k o hk hd b hb
      obtain ⟨i, o', h1, h2, h3, h4⟩ := back k o hk
      obtain ⟨e1, e2⟩ := hsame' k i h1
      rw [e1, e2] at hb
      exact ⟨i, h2, o', h3, live h4 hd, hb.imp (fun h => h) (fun h => ⟨via_owns h4 h.1, h.2⟩)⟩
    have htm : ∀ t, (getL (numA 0 xs) t).noBw = true := by
      intro t
      rw [numA_get, if_pos (Nat.zero_le _)]
      cases hh : xs[t - 0]? with
      | none => rfl
      | some y =>
        have : ∀ (xs : List AV), noBws xs = true → ∀ y ∈ xs, y.noBw = true := by
          intro xs
          induction xs with
          | nil => intro _ y hy; cases hy
          | cons z zs ih =>
            intro h y hy
            simp only [noBws, Bool.and_eq_true] at h
            rcases List.mem_cons.1 hy with rfl | hy
            · exact h.1
            · exact ih h.2 y hy
        exact this xs hx.1 y (List.mem_of_getElem? hh)
    have hrel : Rel ⟨w, S, Hand σ.ob hv F ids, obs.length, hvC.v⟩ ⟨xs.length, numA 0 xs, obs⟩ ⟨hvC.v, BC⟩ S FC ⟨args.toList.toArray, []⟩ w := by
      have hlx : xs.length = (c.args.toList.map σ.opd ++ caps).length := by
        have : ∀ (xs ys : List AV), vias (rnO (ids.map some)) xs ys → xs.length = ys.length := by
          intro xs
          induction xs with
          | nil => intro ys h; simp only [vias] at h; simp [h]
          | cons x xs ih =>
            intro ys h
            simp only [vias] at h
            split at h
            · simp [ih _ h.2]
            · cases h
        exact this _ _ hxs'
      refine { size := by rw [hlx]; exact hrC.size, defs := rfl, tm := fun t => ?_, utm := hrC.utm, ob := fun i o hi => ?_, uob := hrC.uob, root := fun i o hi hd b hb => ?_, sep := hrC.sep, SB := fun b hb => .inl hb, Blt := fun b hb => ?_, Bin := fun b hb => ?_, fown := fun i o hi hown b hb => ?_, fsep := hrC.fsep, below := But.refl _ _ _, one := hrC.one, an := Nat.le_refl _, av := fun i _ => rfl }
      · obtain ⟨L, h1, h2⟩ := hrC.tm t
        exact ⟨L, footA_anyB (hv := hvC) (hv' := ⟨hvC.v, BC⟩) (n := obs.length) (fun _ _ => rfl) _ _ L (htm t) (hrC.utm t) h1, h2⟩
      · have := (hrC.ob i o hi).anyB (hv' := ⟨hvC.v, BC⟩) (r := fun i => i) (obsNoBw_get hx.2 hi) (fun _ => rfl)
        have hid : o.ren (fun i => i) = o := by
          cases o <;> simp only [Ob.ren]
          rename_i x
          congr 1
          exact ren_id x
        rwa [hid] at this
      · obtain ⟨q1, q2, q3⟩ := hrC.root i o hi hd b hb
        refine ⟨.inl (handed i o hi hd b (.inl hb)), q2, fun hh => ?_⟩
        rcases hh with hh | ⟨k, o', h1, h2, h3⟩
        · exact q3 (hrC.SB b hh)
        · exact q3 (hrC.fown k o' h1 h2 b h3).2.1
      · rcases hb with hb | ⟨k, o', h1, h2, h3⟩
        · exact hr.Slt b hb
        · exact hrC.Blt b (hrC.fown k o' h1 h2 b h3).2.1
      · rcases hb with hb | ⟨k, o', h1, h2, h3⟩
        · exact .inl hb
        · exact .inr (.inl (handed k o' h1 (owns_ne_dead h2) b (.inr ⟨h2, h3⟩)))
      · exact ⟨.inl (handed i o hi (owns_ne_dead hown) b (.inr ⟨hown, hb⟩)), .inr ⟨i, o, hi, hown, hb⟩, (hrC.fown i o hi hown b hb).2.2⟩
    unfold Does Oper.wp
    rw [hrun, Oper.upon_enter]
    refine (hcon.2 w S (Hand σ.ob hv F ids) args.toList ⟨hvC.v, BC⟩ S FC hrel).mono fun en w' hh => ?_
    obtain ⟨v, hv1, S1, F1, L2, rfl, hc1, f1, f2, hu⟩ := hh
    refine ⟨v, rfl, ?_⟩
    rw [← hlen] at hc1
    have hG : ∀ b, S1 b → S1 b ∧ (S b ∨ Hand σ.ob hv F ids b ∨ w.heap.size ≤ b) := fun b hb => ⟨hb, by
      rcases hc1.Bin b (hc1.SB b hb) with h | h | h
      · exact .inl h
      · exact .inr (.inl h)
      · exact .inr (.inr h)⟩
    have hbw : (∀ b, Hand σ.ob hv F ids b → ¬ hv.B b) ∨ (tmNoBw σ.tm = true ∧ obNoBw ids 0 σ.ob = true) := by
      rcases hnb with hnb | hnb
      · refine .inl fun b hh hB => ?_
        obtain ⟨i, hi, o', q1, q2, q3⟩ := hh
        rcases q3 with q3 | ⟨q3, _⟩
        · exact (hr.root i o' q1 q2 b q3).2.2 hB
        · rw [hnb i hi o' q1] at q3; cases q3
      · exact .inr hnb
    obtain ⟨hv2, F2, hj, he⟩ := hr.join hn' hids (av := hvC.v) (fun k i h => (hsame' k i h).1) hc1 hG (fun id o hid => ⟨obsNoBw_get hb.2 hid, hc1.ob id o hid⟩) hbw
    exact hn v w' _ _ hv2 _ F2 L2 hK hj (ren_foot he _ _ _ hb.1 f1) (fun b hb => .inr (f2 b hb)) (by rw [behind_length]; exact ren_under (fun i hi => rn_lt hids hi) x hu)

end

end Go.Proofs.Ythhgcklidfilfaa.BX
