/-
  Part 1 of what LFnExactPowerOrder leans on: its texts, merged by a program (prune.py), with what it needs alone.
-/
import Derived.Below
import Derived.Orders
import Derived.OwnWalk
import Derived.Laws.MakeOwn
import Derived.Laws.OwnMore
import Derived.Laws.Slices
import Derived.RowKit3
import Derived.ChangeKeysEq
import Derived.Laws.Tables
import Derived.Laws.Strings
import Derived.WalkLawsBesides
import Derived.IntWalk
namespace Go.Proofs.YtmgdkkhnjkepiaaGreat.BX
open Nat renaming reduceEqDiff → zA, reduceLT → zB, reduceLeDiff → zC, reduceAdd → zD, reduceMul → zE, reduceSub → zF, reduceBEq → zG
set_option linter.unusedSectionVars false
set_option linter.unusedSimpArgs false
set_option linter.unusedVariables false
open Go Go.RowKit
class Bd where
 B : Nat
 lo : 2147483648≤B
 hi : B≤9223372036854775808
 /-- it is asked that the tape is never wound back -/
 D : Prop
def tick {α:Sort _} (a:α) : α:=a
theorem tick_eq {α:Sort _} {a:α} : tick a=a:=id rfl
variable [Bd]
inductive T where
 | b (x:Bool) | i (k:IntKind) (n:Int) | s (x:List UInt8)
 | ag (cs:List T) | tp (cs:List T) | sl (es:List T) | po (y:T) (off:Nat) | np | nm | ni
 | ifc (t:TypeId) (x:T) | mp (ks vs:List T) | fn (f:FuncId) (cs:List T)
inductive Sh where
 | leaf | ag (ss:List Sh) | sl (e:TypeId) (m:Nat) (s:Sh)
structure Hv where
 v : Nat→Value
 B : Nat→Prop
instance : CoeFun Hv fun _=>Nat→Value:=⟨Hv.v⟩
inductive AV where
 | un | ud | ns | t (x:T) | bw (x:T) | ag (cs:List AV) | tp (cs:List AV) | rf (id off:Nat) | ra (id i m off:Nat) | sr (id:Nat) | mr (id:Nat) | it (id:Nat) | fn (f:FuncId) (caps:List AV) | sv (id a m n:Nat)
def cellsL (vs:List Value) : List Value:=vs.flatMap fun v=>v.cells.toList
def ones (cs:List Value) : Prop:=∀ u∈cs,u.oneCell'=true
def laid (w:World) (b off:Nat) (cs:List Value) : Prop:=∀ j v,cs[j]? = some v→w.cell? ⟨b,off + j,none⟩=some v
def fnVal (f:FuncId) (vs:Array Value) : Value:=if f < 1000000 then .func (.func f) #[] vs else .func (.func (f - 1000000)) vs #[]
omit [Bd] in
theorem fnVal_lo {f:FuncId} {vs:Array Value} (h:f < 1000000) : fnVal f vs = .func (.func f) #[] vs:=if_pos h
omit [Bd] in
theorem fnVal_hi {f:FuncId} {vs:Array Value} (h:¬ f < 1000000) : fnVal f vs = .func (.func (f - 1000000)) vs #[]:=if_neg h
omit [Bd] in
theorem fnVal_is (f:FuncId) (vs:Array Value) : ∃ g a b,fnVal f vs = .func (.func g) a b:=by
 unfold fnVal
 split<;>exact ⟨_,_,_,rfl⟩
omit [Bd] in
theorem fnVal_cells (f:FuncId) (vs:Array Value) : (fnVal f vs).cells = #[fnVal f vs]:=by
 unfold fnVal
 split<;>rfl
omit [Bd] in
theorem fnVal_one (f:FuncId) (vs:Array Value) : (fnVal f vs).oneCell'=true:=by
 unfold fnVal
 split<;>rfl
mutual
def footT (w:World) : T→Value→List Nat→Prop
 | .b x, v, L => v = .bool x∧L=[]
 | .i k n, v, L => v = .int k n∧L=[]
 | .s x, v, L => v = .string ⟨x.toArray⟩∧L=[]∧x.length < Bd.B
 | .ag cs, v, L => ∃ vs,v = .agg vs.toArray∧footTs w cs vs L
 | .tp cs, v, L => ∃ vs,v = .tuple vs.toArray∧footTs w cs vs L
 | .sl es, v, L => ∃ A c,v = .slice A es.length c∧es.length≤c∧es.length < Bd.B ∧
  ((es=[]∧L=[]) ∨ ∃ b off vs L' m,A=some ⟨b,off,none⟩∧footTs w es vs L' ∧ (∀ v∈vs,v.cells.size=m)∧L=b :: L' ∧ laid w b off (cellsL vs)∧ones (cellsL vs))
 | .po y off, v, L => ∃ b o u L',v = .pointer (some ⟨b,o + off,none⟩)∧footT w y u L' ∧ L=b :: L' ∧ laid w b o u.cells.toList
 | .np, v, L => v = .pointer none∧L=[]
 | .nm, v, L => v = .map none∧L=[]
 | .ni, v, L => v = .nilIface∧L=[]
 | .ifc t x, v, L => ∃ u,v = .iface t u∧footT w x u L
 | .mp ks xs, v, L => ∃ r es clock l L1 L2,v = .map (some r)∧w.heap[r]? = some (.map es clock)∧(List.Perm l es.toList∧(l.map (·.born)).Nodup∧(∀ e∈l,e.born < clock)∧ks.Nodup∧ks.length < Bd.B) ∧
  footTs w ks (l.map (·.key)) L1∧footTs w xs (l.map (·.val)) L2∧L=r :: (L1 ++ L2)
 | .fn f cs, v, L => ∃ vs,v=fnVal f vs.toArray∧footTs w cs vs L
def footTs (w:World) : List T→List Value→List Nat→Prop
 | [], vs, L => vs=[]∧L=[]
 | x :: xs, vs, L => ∃ v vs' L1 L2,vs=v :: vs' ∧ L=L1 ++ L2∧footT w x v L1∧footTs w xs vs' L2
end
theorem laid_of_block {w w':World} {b off:Nat} {cs:List Value} (h:w'.heap[b]? = w.heap[b]?) (hl:laid w b off cs) : laid w' b off cs :=
 fun j v hj=>(World.cell?_of_block (w:=w) (w':=w') (a:=⟨b,off + j,none⟩) h).trans (hl j v hj)
mutual
theorem footT_mono {w w':World} : ∀ (x:T) (v:Value) (L:List Nat),(∀ b∈L,w'.heap[b]? = w.heap[b]?)→footT w x v L→footT w' x v L
 | .b _, _, _, _, h => by simpa only [footT] using h
 | .i _ _, _, _, _, h => by simpa only [footT] using h
 | .s _, _, _, _, h => by simpa only [footT] using h
 | .np, _, _, _, h => by simpa only [footT] using h
 | .nm, _, _, _, h => by simpa only [footT] using h
 | .ni, _, _, _, h => by simpa only [footT] using h
 | .ag cs, v, L, hb, h => by
   simp only [footT] at h ⊢
   obtain ⟨vs,e,h⟩:=h
   exact ⟨vs,e,footTs_mono cs vs L hb h⟩
 | .tp cs, v, L, hb, h => by
   simp only [footT] at h ⊢
   obtain ⟨vs,e,h⟩:=h
   exact ⟨vs,e,footTs_mono cs vs L hb h⟩
 | .fn f cs, v, L, hb, h => by
   simp only [footT] at h ⊢
   obtain ⟨vs,e,h⟩:=h
   exact ⟨vs,e,footTs_mono cs vs L hb h⟩
 | .ifc t x, v, L, hb, h => by
   simp only [footT] at h ⊢
   obtain ⟨u,e,h⟩:=h
   exact ⟨u,e,footT_mono x u L hb h⟩
 | .sl es, v, L, hb, h => by
   simp only [footT] at h ⊢
   obtain ⟨A,c,e,hc,hbig,h⟩:=h
   refine ⟨A,c,e,hc,hbig,?_⟩
   rcases h with h | ⟨b,off,vs,L',m,hA,hf,hs,hL,hl⟩
   ·exact .inl h
   ·subst hL
    exact .inr ⟨b,off,vs,L',m,hA,footTs_mono es vs L' (fun x hx=>hb x (List.mem_cons_of_mem _ hx)) hf,hs,rfl,laid_of_block (hb b (List.mem_cons_self ..)) hl.1,hl.2⟩
 | .po y off, v, L, hb, h => by
   simp only [footT] at h ⊢
   obtain ⟨b,o,u,L',e,hf,hL,hl⟩:=h
   subst hL
   exact ⟨b,o,u,L',e,footT_mono y u L' (fun x hx=>hb x (List.mem_cons_of_mem _ hx)) hf,rfl,laid_of_block (hb b (List.mem_cons_self ..)) hl⟩
 | .mp ks xs, v, L, hb, h => by
   simp only [footT] at h ⊢
   obtain ⟨r,es,clock,l,L1,L2,e,hr,hp,h1,h2,hL⟩:=h
   subst hL
   exact ⟨r,es,clock,l,L1,L2,e,(hb r (List.mem_cons_self ..)).trans hr,hp,
    footTs_mono ks _ L1 (fun x hx=>hb x (List.mem_cons_of_mem _ (List.mem_append_left _ hx))) h1,
    footTs_mono xs _ L2 (fun x hx=>hb x (List.mem_cons_of_mem _ (List.mem_append_right _ hx))) h2,rfl⟩
theorem footTs_mono {w w':World} : ∀ (xs:List T) (vs:List Value) (L:List Nat),(∀ b∈L,w'.heap[b]? = w.heap[b]?)→footTs w xs vs L→footTs w' xs vs L
 | [], _, _, _, h => by simpa only [footTs] using h
 | x :: xs, vs, L, hb, h => by
   simp only [footTs] at h ⊢
   obtain ⟨v,vs',L1,L2,e,hL,h1,h2⟩:=h
   subst hL
   exact ⟨v,vs',L1,L2,e,rfl,footT_mono x v L1 (fun b hx=>hb b (List.mem_append_left _ hx)) h1,footTs_mono xs vs' L2 (fun b hx=>hb b (List.mem_append_right _ hx)) h2⟩
end
theorem footTs_length {w:World} : ∀ {xs:List T} {vs:List Value} {L:List Nat},footTs w xs vs L→vs.length=xs.length
 | [], _, _, h => by simp only [footTs] at h; simp [h.1]
 | _ :: xs, _, _, h => by
   simp only [footTs] at h
   obtain ⟨v,vs',L1,L2,e,_,_,h2⟩:=h
   subst e
   simp [footTs_length h2]
theorem footTs_get {w:World} : ∀ {xs:List T} {vs:List Value} {L:List Nat} (_:footTs w xs vs L) {i:Nat} {x:T} (_:xs[i]? = some x),
 ∃ v L',vs[i]? = some v∧footT w x v L' ∧ ∀ b∈L',b∈L
 | [], _, _, _, _, _, hx => by simp at hx
 | _ :: xs, _, _, h, i, x, hx => by
   simp only [footTs] at h
   obtain ⟨v,vs',L1,L2,e,hL,h1,h2⟩:=h
   subst e hL
   cases i with
   | zero =>
     simp only [List.getElem?_cons_zero,Option.some.injEq] at hx
     subst hx
     exact ⟨v,L1,rfl,h1,fun b hb=>List.mem_append_left _ hb⟩
   | succ i =>
     simp only [List.getElem?_cons_succ] at hx
     obtain ⟨u,L',hu,hf,hs⟩:=footTs_get h2 hx
     exact ⟨u,L',by simpa using hu,hf,fun b hb=>List.mem_append_right _ (hs b hb)⟩
theorem footTs_append {w:World} : ∀ {xs ys:List T} {vs us:List Value} {L M:List Nat},footTs w xs vs L→footTs w ys us M→footTs w (xs ++ ys) (vs ++ us) (L ++ M)
 | [], _, _, _, _, _, h, k => by simp only [footTs] at h; obtain ⟨rfl,rfl⟩:=h; simpa using k
 | x :: xs, ys, vs, us, L, M, h, k => by
   simp only [footTs] at h
   obtain ⟨v,vs',L1,L2,e,hL,h1,h2⟩:=h
   subst e hL
   simp only [List.cons_append,footTs]
   exact ⟨v,vs' ++ us,L1,L2 ++ M,rfl,by simp [List.append_assoc],h1,footTs_append h2 k⟩
theorem footTs_split {w:World} : ∀ {xs ys:List T} {vs:List Value} {L:List Nat},footTs w (xs ++ ys) vs L →
 ∃ vs1 vs2 L1 L2,vs=vs1 ++ vs2∧L=L1 ++ L2∧footTs w xs vs1 L1∧footTs w ys vs2 L2
 | [], ys, vs, L, h => ⟨[],vs,[],L,rfl,rfl,by simp [footTs],by simpa using h⟩
 | x :: xs, ys, vs, L, h => by
   simp only [List.cons_append,footTs] at h
   obtain ⟨v,vs',L1,L2,e,hL,h1,h2⟩:=h
   obtain ⟨a1,a2,M1,M2,e1,e2,k1,k2⟩:=footTs_split h2
   subst e hL e1 e2
   exact ⟨v :: a1,a2,L1 ++ M1,M2,rfl,by simp [List.append_assoc],by simp only [footTs]; exact ⟨v,a1,L1,M1,rfl,rfl,h1,k1⟩,k2⟩
theorem footTs_take {w:World} {xs:List T} {vs:List Value} {L:List Nat} (h:footTs w xs vs L) (k:Nat) : ∃ L',footTs w (xs.take k) (vs.take k) L' ∧ ∀ b∈L',b∈L:=by
 have h':=h
 rw [← List.take_append_drop k xs] at h'
 obtain ⟨a1,a2,M1,M2,e1,e2,k1,k2⟩:=footTs_split h'
 have hl:=footTs_length k1
 have hl0:=footTs_length h
 subst e1 e2
 refine ⟨M1,?_,fun b hb=>List.mem_append_left _ hb⟩
 have : (a1 ++ a2).take k=a1:=by
  rcases Nat.lt_or_ge k xs.length with hk | hk
  ·rw [List.length_take,Nat.min_eq_left (by omega)] at hl
   rw [← hl,List.take_left]
  ·have h2l:=footTs_length k2
   rw [List.drop_eq_nil_of_le hk] at h2l
   have : a2=[]:=by simpa using h2l
   subst this
   rw [List.append_nil,List.take_of_length_le]
   rw [hl,List.length_take]; omega
 rw [this]; exact k1
theorem footTs_drop {w:World} {xs:List T} {vs:List Value} {L:List Nat} (h:footTs w xs vs L) (k:Nat) : ∃ L',footTs w (xs.drop k) (vs.drop k) L' ∧ ∀ b∈L',b∈L:=by
 have h':=h
 rw [← List.take_append_drop k xs] at h'
 obtain ⟨a1,a2,M1,M2,e1,e2,k1,k2⟩:=footTs_split h'
 have hl:=footTs_length k1
 have hl2:=footTs_length k2
 subst e1 e2
 refine ⟨M2,?_,fun b hb=>List.mem_append_right _ hb⟩
 have : (a1 ++ a2).drop k=a2:=by
  rcases Nat.lt_or_ge k xs.length with hk | hk
  ·rw [List.length_take,Nat.min_eq_left (by omega)] at hl
   rw [← hl,List.drop_left]
  ·rw [List.drop_eq_nil_of_le hk] at hl2
   have : a2=[]:=by simpa using hl2
   subst this
   rw [List.append_nil,List.drop_eq_nil_of_le]
   rw [hl,List.length_take]; omega
 rw [this]; exact k2
mutual
def footA (hv:Hv) (w:World) : AV→Value→List Nat→Prop
 | .un, _, L => L=[]
 | .ud, v, L => v=undef∧L=[]
 | .ns, v, L => v = .slice none 0 0∧L=[]
 | .t x, v, L => footT w x v L
 | .bw x, v, L => (∃ L',footT w x v L' ∧ ∀ b∈L',hv.B b)∧L=[]
 | .ag cs, v, L => ∃ vs,v = .agg vs.toArray∧footAs hv w cs vs L
 | .tp cs, v, L => ∃ vs,v = .tuple vs.toArray∧footAs hv w cs vs L
 | .rf id off, v, L => ∃ b,hv id = .pointer (some ⟨b,0,none⟩)∧v = .pointer (some ⟨b,off,none⟩)∧L=[]
 | .ra id i m off, v, L => ∃ b n c,hv id = .slice (some ⟨b,0,none⟩) n c∧v = .pointer (some ⟨b,i * m + off,none⟩)∧L=[]
 | .sv id a m n, v, L => ((n=0∧∃ A c,v = .slice A 0 c) ∨ ∃ b k c c',hv id = .slice (some ⟨b,0,none⟩) k c∧v = .slice (some ⟨b,a * m,none⟩) n c' ∧ a + n≤k∧n≤c')∧L=[]
 | .sr id, v, L => v=hv id∧L=[]
 | .mr id, v, L => v=hv id∧L=[]
 | .it id, v, L => v=hv id∧L=[]
 | .fn f cs, v, L => ∃ vs,v=fnVal f vs.toArray∧footAs hv w cs vs L
def footAs (hv:Hv) (w:World) : List AV→List Value→List Nat→Prop
 | [], vs, L => vs=[]∧L=[]
 | x :: xs, vs, L => ∃ v vs' L1 L2,vs=v :: vs' ∧ L=L1 ++ L2∧footA hv w x v L1∧footAs hv w xs vs' L2
end
mutual
theorem footA_mono {hv:Hv} {w w':World} (hB:∀ b,hv.B b→w'.heap[b]? = w.heap[b]?) : ∀ (x:AV) (v:Value) (L:List Nat),(∀ b∈L,w'.heap[b]? = w.heap[b]?)→footA hv w x v L→footA hv w' x v L
 | .un, _, _, _, h => by simpa only [footA] using h
 | .it _, _, _, _, h => by simpa only [footA] using h
 | .bw x, v, L, _, h => by
   simp only [footA] at h ⊢
   obtain ⟨⟨L',h1,h2⟩,h3⟩:=h
   exact ⟨⟨L',footT_mono x v L' (fun b hb=>hB b (h2 b hb)) h1,h2⟩,h3⟩
 | .ud, _, _, _, h => by simpa only [footA] using h
 | .rf _ _, _, _, _, h => by simpa only [footA] using h
 | .ns, _, _, _, h => by simpa only [footA] using h
 | .ra _ _ _ _, _, _, _, h => by simpa only [footA] using h
 | .sv _ _ _ _, _, _, _, h => by simpa only [footA] using h
 | .sr _, _, _, _, h => by simpa only [footA] using h
 | .mr _, _, _, _, h => by simpa only [footA] using h
 | .t x, v, L, hb, h => by simp only [footA] at h ⊢; exact footT_mono x v L hb h
 | .ag cs, v, L, hb, h => by
   simp only [footA] at h ⊢
   obtain ⟨vs,e,h⟩:=h
   exact ⟨vs,e,footAs_mono hB cs vs L hb h⟩
 | .tp cs, v, L, hb, h => by
   simp only [footA] at h ⊢
   obtain ⟨vs,e,h⟩:=h
   exact ⟨vs,e,footAs_mono hB cs vs L hb h⟩
 | .fn f cs, v, L, hb, h => by
   simp only [footA] at h ⊢
   obtain ⟨vs,e,h⟩:=h
   exact ⟨vs,e,footAs_mono hB cs vs L hb h⟩
theorem footAs_mono {hv:Hv} {w w':World} (hB:∀ b,hv.B b→w'.heap[b]? = w.heap[b]?) : ∀ (xs:List AV) (vs:List Value) (L:List Nat),(∀ b∈L,w'.heap[b]? = w.heap[b]?)→footAs hv w xs vs L→footAs hv w' xs vs L
 | [], _, _, _, h => by simpa only [footAs] using h
 | x :: xs, vs, L, hb, h => by
   simp only [footAs] at h ⊢
   obtain ⟨v,vs',L1,L2,e,hL,h1,h2⟩:=h
   subst hL
   exact ⟨v,vs',L1,L2,e,rfl,footA_mono hB x v L1 (fun b hx=>hb b (List.mem_append_left _ hx)) h1,footAs_mono hB xs vs' L2 (fun b hx=>hb b (List.mem_append_right _ hx)) h2⟩
end
theorem footAs_length {hv:Hv} {w:World} : ∀ {xs:List AV} {vs:List Value} {L:List Nat},footAs hv w xs vs L→vs.length=xs.length
 | [], _, _, h => by simp only [footAs] at h; simp [h.1]
 | _ :: xs, _, _, h => by
   simp only [footAs] at h
   obtain ⟨v,vs',L1,L2,e,_,_,h2⟩:=h
   subst e
   simp [footAs_length h2]
theorem footAs_get {hv:Hv} {w:World} : ∀ {xs:List AV} {vs:List Value} {L:List Nat} (_:footAs hv w xs vs L) {i:Nat} {x:AV} (_:xs[i]? = some x),
 ∃ v L',vs[i]? = some v∧footA hv w x v L' ∧ ∀ b∈L',b∈L
 | [], _, _, _, _, _, hx => by simp at hx
 | _ :: xs, _, _, h, i, x, hx => by
   simp only [footAs] at h
   obtain ⟨v,vs',L1,L2,e,hL,h1,h2⟩:=h
   subst e hL
   cases i with
   | zero =>
     simp only [List.getElem?_cons_zero,Option.some.injEq] at hx
     subst hx
     exact ⟨v,L1,rfl,h1,fun b hb=>List.mem_append_left _ hb⟩
   | succ i =>
     simp only [List.getElem?_cons_succ] at hx
     obtain ⟨u,L',hu,hf,hs⟩:=footAs_get h2 hx
     exact ⟨u,L',by simpa using hu,hf,fun b hb=>List.mem_append_right _ (hs b hb)⟩
mutual
def AV.under (n:Nat) : AV→Bool
 | .un | .ud | .ns | .t _ | .bw _ => true
 | .it id => decide (id < n)
 | .ag cs => unders n cs
 | .tp cs => unders n cs
 | .fn _ cs => unders n cs
 | .rf id _ => decide (id < n)
 | .sr id => decide (id < n)
 | .ra id _ _ _ => decide (id < n)
 | .sv id _ _ _ => decide (id < n)
 | .mr id => decide (id < n)
def unders (n:Nat) : List AV→Bool
 | [] => true
 | x :: xs => x.under n && unders n xs
end
mutual
theorem footA_hv {hv hv':Hv} {w:World} {n:Nat} (hB:∀ b,hv.B b→hv'.B b) (he:∀ i,i < n→hv' i=hv i) : ∀ (x:AV) (v:Value) (L:List Nat),x.under n=true→footA hv w x v L→footA hv' w x v L
 | .un, _, _, _, h => by simpa only [footA] using h
 | .ud, _, _, _, h => by simpa only [footA] using h
 | .ns, _, _, _, h => by simpa only [footA] using h
 | .t x, v, L, _, h => by simpa only [footA] using h
 | .bw x, v, L, _, h => by
   simp only [footA] at h ⊢
   obtain ⟨⟨L',h1,h2⟩,h3⟩:=h
   exact ⟨⟨L',h1,fun b hb=>hB b (h2 b hb)⟩,h3⟩
 | .it id, v, L, hn, h => by
   simp only [AV.under,decide_eq_true_eq] at hn
   simp only [footA] at h ⊢
   rw [he id hn]; exact h
 | .rf id off, v, L, hn, h => by
   simp only [AV.under,decide_eq_true_eq] at hn
   simp only [footA] at h ⊢
   rw [he id hn]; exact h
 | .ra id i m off, v, L, hn, h => by
   simp only [AV.under,decide_eq_true_eq] at hn
   simp only [footA] at h ⊢
   rw [he id hn]; exact h
 | .sv id i m off, v, L, hn, h => by
   simp only [AV.under,decide_eq_true_eq] at hn
   simp only [footA] at h ⊢
   rw [he id hn]; exact h
 | .sr id, v, L, hn, h => by
   simp only [AV.under,decide_eq_true_eq] at hn
   simp only [footA] at h ⊢
   rw [he id hn]; exact h
 | .mr id, v, L, hn, h => by
   simp only [AV.under,decide_eq_true_eq] at hn
   simp only [footA] at h ⊢
   rw [he id hn]; exact h
 | .ag cs, v, L, hn, h => by
   simp only [AV.under] at hn
   simp only [footA] at h ⊢
   obtain ⟨vs,e,h⟩:=h
   exact ⟨vs,e,footAs_hv hB he cs vs L hn h⟩
 | .tp cs, v, L, hn, h => by
   simp only [AV.under] at hn
   simp only [footA] at h ⊢
   obtain ⟨vs,e,h⟩:=h
   exact ⟨vs,e,footAs_hv hB he cs vs L hn h⟩
 | .fn f cs, v, L, hn, h => by
   simp only [AV.under] at hn
   simp only [footA] at h ⊢
   obtain ⟨vs,e,h⟩:=h
   exact ⟨vs,e,footAs_hv hB he cs vs L hn h⟩
theorem footAs_hv {hv hv':Hv} {w:World} {n:Nat} (hB:∀ b,hv.B b→hv'.B b) (he:∀ i,i < n→hv' i=hv i) : ∀ (xs:List AV) (vs:List Value) (L:List Nat),unders n xs=true→footAs hv w xs vs L→footAs hv' w xs vs L
 | [], _, _, _, h => by simpa only [footAs] using h
 | x :: xs, vs, L, hn, h => by
   simp only [unders,Bool.and_eq_true] at hn
   simp only [footAs] at h ⊢
   obtain ⟨v,vs',L1,L2,e,hL,h1,h2⟩:=h
   exact ⟨v,vs',L1,L2,e,hL,footA_hv hB he x v L1 hn.1 h1,footAs_hv hB he xs vs' L2 hn.2 h2⟩
end
def blkOf : Value→Option Nat
 | .pointer (some a) => some a.block
 | .slice (some a) _ _ => some a.block
 | .map (some r) => some r
 | _ => none
mutual
def T.flat : T→Bool
 | .b _ | .i _ _ | .s _ | .np | .nm | .ni => true
 | .ag cs => flats cs
 | .tp cs => flats cs
 | _ => false
def flats : List T→Bool
 | [] => true
 | x :: xs => x.flat && flats xs
end
mutual
theorem flat_foot {w:World} : ∀ (x:T) {v:Value} {L:List Nat},x.flat=true→footT w x v L→L=[]∧∀ w',footT w' x v []
 | .b _, _, _, _, h | .i _ _, _, _, _, h | .s _, _, _, _, h | .np, _, _, _, h | .nm, _, _, _, h | .ni, _, _, _, h => by
   simp only [footT] at h ⊢; simp [h]
 | .ag cs, v, L, hf, h => by
   simp only [T.flat] at hf
   simp only [footT] at h ⊢
   obtain ⟨vs,rfl,h⟩:=h
   exact ⟨(flats_foot cs hf h).1,fun w'=>⟨vs,rfl,(flats_foot cs hf h).2 w'⟩⟩
 | .tp cs, v, L, hf, h => by
   simp only [T.flat] at hf
   simp only [footT] at h ⊢
   obtain ⟨vs,rfl,h⟩:=h
   exact ⟨(flats_foot cs hf h).1,fun w'=>⟨vs,rfl,(flats_foot cs hf h).2 w'⟩⟩
 | .sl _, _, _, hf, _ | .po _ _, _, _, hf, _ | .ifc _ _, _, _, hf, _ | .mp _ _, _, _, hf, _ | .fn _ _, _, _, hf, _ => by simp [T.flat] at hf
theorem flats_foot {w:World} : ∀ (xs:List T) {vs:List Value} {L:List Nat},flats xs=true→footTs w xs vs L→L=[]∧∀ w',footTs w' xs vs []
 | [], _, _, _, h => by simp only [footTs] at h ⊢; simp [h]
 | x :: xs, vs, L, hf, h => by
   simp only [flats,Bool.and_eq_true] at hf
   simp only [footTs] at h ⊢
   obtain ⟨v,vs',L1,L2,rfl,rfl,h1,h2⟩:=h
   obtain ⟨rfl,k1⟩:=flat_foot x hf.1 h1
   obtain ⟨rfl,k2⟩:=flats_foot xs hf.2 h2
   exact ⟨rfl,fun w'=>⟨v,vs',[],[],rfl,rfl,k1 w',k2 w'⟩⟩
end
mutual
def ownT (w:World) : Sh→T→Value→List Nat→Prop
 | .leaf, x, v, L => x.flat=true∧footT w x v []∧L=[]
 | .ag ss, .ag cs, v, L => ∃ vs,v = .agg vs.toArray∧ownTs w ss cs vs L
 | .sl e m s, .sl es, v, L => ∃ vs L',w.ownsRow 0 e m v es.length (cellsL vs)∧ownEs w s es vs L' ∧ (∀ u∈vs,u.cells.size=m)∧(es.length < Bd.B∧ones (cellsL vs))∧L=(blkOf v).toList ++ L'
 | _, _, _, _ => False
def ownTs (w:World) : List Sh→List T→List Value→List Nat→Prop
 | [], [], vs, L => vs=[]∧L=[]
 | s :: ss, x :: xs, vs, L => ∃ v vs' L1 L2,vs=v :: vs' ∧ L=L1 ++ L2∧ownT w s x v L1∧ownTs w ss xs vs' L2
 | _, _, _, _ => False
def ownEs (w:World) (s:Sh) : List T→List Value→List Nat→Prop
 | [], vs, L => vs=[]∧L=[]
 | x :: xs, vs, L => ∃ v vs' L1 L2,vs=v :: vs' ∧ L=L1 ++ L2∧ownT w s x v L1∧ownEs w s xs vs' L2
end
end Go.Proofs.YtmgdkkhnjkepiaaGreat.BX
namespace Go.Proofs.YtmgdkkhnjkepiaaGreat.BX
open Nat renaming reduceEqDiff → zA, reduceLT → zB, reduceLeDiff → zC, reduceAdd → zD, reduceMul → zE, reduceSub → zF, reduceBEq → zG
set_option linter.unusedSectionVars false
set_option linter.unusedSimpArgs false
set_option linter.unusedVariables false
open Go Go.RowKit
variable [Bd]
inductive Lay where
 | int (k:IntKind) | bool | str | ptr | sli (e:TypeId) (m:Nat) | st (fs:List (Nat × Nat)) (m:Nat) | map (k e:TypeId) | ifc | fnc | oth
def lay (P:Program) (t:TypeId) : Lay :=
 match P.underlying t with
 | some (.int k) => .int k
 | some .bool => .bool
 | some .string => .str
 | some (.pointer _) => .ptr
 | some (.slice e) => match P.info? e with
   | some i => .sli e i.size
   | none => .oth
 | some (.struct fs) => if fs.toList.all (fun f=>(P.info? f.type).isSome)=true then .st (fs.toList.map fun f=>(f.offset,P.cellsOf f.type)) (P.cellsOf t) else .oth
 | some (.map k e) => .map k e
 | some (.interface _) => .ifc
 | some (.func ..) => .fnc
 | _ => .oth
def Lay.sc : Lay→Bool
 | .st .. | .oth => false
 | _ => true
def T.cells : T→List T
 | .ag cs => cs
 | x => [x]
def AV.bwc (x:T) : AV:=if x.flat=true then .t x else .bw x
def AV.cells : AV→List AV
 | .ag cs => cs
 | .t x => x.cells.map .t
 | .bw x => x.cells.map AV.bwc
 | x => [x]
def T.isAg : T→Bool
 | .ag _ => true
 | _ => false
def T.one : T→Bool
 | .ag _ | .tp _ => false
 | _ => true
def AV.one : AV→Bool
 | .un | .ud | .ag _ | .tp _ => false
 | .t x => x.one
 | .bw x => x.one
 | _ => true
inductive Kind where
 | own (s:Sh) | clo | bor
inductive Ob where
 | dead | box (x:AV) | arr (e:TypeId) (m:Nat) (k:Kind) (es:List T) | hole (e:TypeId) (m:Nat) (s:Sh) (es:List T) (i j id:Nat)
 | map (kt vt:TypeId) (k:Kind) (ks vs:List T) (pend:Option (Int × T)) | mhole (kt vt:TypeId) (s:Sh) (ks vs:List T) (i id:Nat) | iter (c:Option (T × T)) (l:List (T × T))
def Ob.owns : Ob→Bool
 | .arr _ _ (.own _) _ | .hole .. | .map _ _ (.own _) _ _ _ | .mhole .. => true
 | _ => false
structure St where
 n : Nat
 tm : List (Nat × AV)
 ob : List Ob
def getL : List (Nat × AV)→Nat→AV
 | [], _ => .un
 | (k, x) :: r, t => if t=k then x else getL r t
def St.set (σ:St) (d:Option Nat) (x:AV) : St :=
 match d with
 | some d => { σ with tm:=(d,x) :: σ.tm }
 | none => σ
def Kind.isOwn : Kind→Bool
 | .own _ => true
 | _ => false
def Sh.cells : Sh→List Sh
 | .ag ss => ss
 | s => [s]
def T.setCell (y:T) (j:Nat) (z:T) : T:=match y with
 | .ag cs => .ag (cs.set j z)
 | _ => z
def setV (v:Value) (j:Nat) (u:Value) : Value:=match v with
 | .agg us => .agg (us.toList.set j u).toArray
 | _ => u
def elsR (hv:Hv) (S:Nat→Prop) (w:World) (Fi:List Nat) : Kind→List T→List Value→Prop
 | .own s, es, vs => ∃ L,ownEs w s es vs L∧L.Nodup∧∀ b∈L,b∈Fi
 | .clo, es, vs => ∃ L,footTs w es vs L∧∀ b∈L,S b
 | .bor, es, vs => ∃ L,footTs w es vs L∧∀ b∈L,hv.B b
structure Ents (w:World) (h:Value) (ks:List T) (r:Nat) (es:Array MapEntry) (clock:Nat) (l:List MapEntry) : Prop where
 val : h = .map (some r)
 heap : w.heap[r]? = some (.map es clock)
 perm : List.Perm l es.toList
 born : (l.map (·.born)).Nodup
 lt : ∀ e∈l,e.born < clock
 keys : footTs w ks (l.map (·.key)) []
 flat : flats ks=true
 nodup : ks.Nodup
 small : ks.length < Bd.B
 ones : ∀ e∈l,e.val.oneCell'=true
def ObR (hv:Hv) (S:Nat→Prop) (w:World) (Fi:List Nat) (h:Value) : Ob→Prop
 | .dead => True
 | .box x => ∃ b e u L,h = .pointer (some ⟨b,0,none⟩)∧w.heap[b]? = some (.cells u.cells e (0,0))∧footA hv w x u L∧∀ b'∈L,S b'
 | .arr e m k es => ∃ vs,w.ownsRow 0 e m h es.length (cellsL vs)∧elsR hv S w Fi k es vs∧(∀ v∈vs,v.cells.size=m)∧(es.length < Bd.B∧ones (cellsL vs))
 | .hole e m s es i j id => ∃ vs v y L0 e1 m1 s1,w.ownsRow 0 e m h es.length (cellsL vs)∧(∀ v∈vs,v.cells.size=m)∧(es.length < Bd.B∧ones (cellsL vs)) ∧
  es[i]? = some y∧vs[i]? = some v∧v.cells[j]? = some (hv id)∧s.cells[j]? = some (.sl e1 m1 s1)∧L0.Nodup∧(∀ b∈L0,b∈Fi) ∧
  ∀ (w':World) (xs:List T) (Lj:List Nat) (u':Value),(∀ b∈L0,w'.heap[b]? = w.heap[b]?)→ownT w' (.sl e1 m1 s1) (.sl xs) u' Lj → ∃ L',ownEs w' s (es.set i (y.setCell j (.sl xs))) (vs.set i (setV v j u')) L' ∧ List.Perm L' (Lj ++ L0)
 | .map _ _ k ks vs pend => ∃ r es clock l,Ents w h ks r es clock l∧elsR hv S w Fi k vs (l.map (·.val))∧ks.length=vs.length∧(∀ n x,pend=some (n,x) → ∃ i : Nat,ks[i]? = some x∧∃ e : MapEntry,l[i]? = some e∧(e.born : Int)=n)
 | .mhole _ _ s ks vs i _ => ∃ r es clock l L,Ents w h ks r es clock l∧i < ks.length∧ownEs w s (vs.eraseIdx i) ((l.map (·.val)).eraseIdx i) L∧L.Nodup∧(∀ b∈L,b∈Fi)∧ks.length=vs.length
 | .iter c xs => ∃ b m es clock seen last lc l L1 L2,h = .pointer (some ⟨b,0,none⟩)∧w.heap[b]? = some (.mapIter (some m) clock seen last)∧S m∧w.heap[m]? = some (.map es clock)∧clock≤last∧(seen = #[] ∨ last=clock)∧(∀ e∈es.toList,e.born < clock)∧(es.toList.map (·.born)).Nodup ∧
  (List.Perm l (es.toList.filter fun e=>!seen.contains e.born)∧lc.length=c.toList.length∧∀ e∈lc,e∈es.toList∧seen.back? = some e.born∧last=clock)∧footTs w ((c.toList ++ xs).map (·.1)) ((lc ++ l).map (·.key)) L1∧footTs w ((c.toList ++ xs).map (·.2)) ((lc ++ l).map (·.val)) L2∧∀ b'∈L1 ++ L2,S b'
def Ob.under (n:Nat) : Ob→Bool
 | .box x => x.under n
 | .hole _ _ _ _ _ _ id => decide (id < n)
 | _ => true
structure Base extends World where
 L : Nat→Prop
 M : Nat→Prop
 na : Nat
 av : Nat→Value
structure But (M:Nat→Prop) (B:Nat) (w w':World) : Prop where
 os : w'.os=w.os
 tape : w'.tape=w.tape
 output : w'.output=w.output
 size : w.heap.size≤w'.heap.size
 block : ∀ k,k < B → ¬ M k→w'.heap[k]? = w.heap[k]?
 drawn : Bd.D→w.drawn≤w'.drawn
theorem But.refl (M:Nat→Prop) (B:Nat) (w:World) : But M B w w:=⟨rfl,rfl,rfl,Nat.le_refl _,fun _ _ _=>rfl,fun _=>Nat.le_refl _⟩
theorem But.trans {M:Nat→Prop} {B:Nat} {a b c:World} (h:But M B a b) (k:But M B b c) : But M B a c :=
 ⟨k.os.trans h.os,k.tape.trans h.tape,k.output.trans h.output,Nat.le_trans h.size k.size,fun i hi hm=>(k.block i hi hm).trans (h.block i hi hm),fun d=>Nat.le_trans (h.drawn d) (k.drawn d)⟩
theorem But.below {M:Nat→Prop} {B:Nat} {w w':World} (h:But M B w w') (hM:∀ b,¬ M b) : Below B w w':=⟨h.os,h.tape,h.output,h.size,fun k hk=>h.block k hk (hM k)⟩
structure Rel (w0:Base) (σ:St) (hv:Hv) (S:Nat→Prop) (F:Nat→List Nat) (a:Act) (w:World) : Prop where
 size : a.tmps.size=σ.n
 defs : a.defers=[]
 tm : ∀ t,∃ L,footA hv w (getL σ.tm t) (a.tmps.getD t undef) L∧∀ b∈L,S b
 utm : ∀ t,(getL σ.tm t).under σ.ob.length=true
 ob : ∀ (id:Nat) (o:Ob),σ.ob[id]? = some o→ObR hv S w (F id) (hv id) o
 uob : ∀ (id:Nat) (o:Ob),σ.ob[id]? = some o→o.under σ.ob.length=true
 root : ∀ (id:Nat) (o:Ob),σ.ob[id]? = some o→o ≠ .dead → ∀ b,blkOf (hv id)=some b→(w0.M b ∨ w0.heap.size≤b)∧b < w.heap.size∧¬ hv.B b
 sep : ∀ (i j:Nat) (oi oj:Ob),i≠j→σ.ob[i]? = some oi→σ.ob[j]? = some oj→oi ≠ .dead→oj ≠ .dead → ∀ b,blkOf (hv i)=some b→blkOf (hv j)≠some b
 SB : ∀ b,S b→hv.B b
 Blt : ∀ b,hv.B b→b < w.heap.size
 Bin : ∀ b,hv.B b→w0.L b ∨ w0.M b ∨ w0.heap.size≤b
 fown : ∀ (id:Nat) o,σ.ob[id]? = some o→o.owns=true → ∀ b∈F id,(w0.M b ∨ w0.heap.size≤b)∧hv.B b∧¬ S b
 fsep : ∀ (i j:Nat) oi oj,i≠j→σ.ob[i]? = some oi→σ.ob[j]? = some oj→oi.owns=true→oj.owns=true → ∀ b∈F i,b ∉ F j
 below : But w0.M w0.heap.size w0.toWorld w
 one : ∀ id,(hv id).oneCell'=true
 an : w0.na≤σ.ob.length
 av : ∀ i,i < w0.na→hv i=w0.av i
section
variable {w0:Base} {σ:St} {hv:Hv} {S:Nat→Prop} {F:Nat→List Nat} {a:Act} {w:World}
theorem Rel.Slt (h:Rel w0 σ hv S F a w) : ∀ b,S b→b < w.heap.size:=fun b hb=>h.Blt b (h.SB b hb)
theorem Rel.rootS (h:Rel w0 σ hv S F a w) {id:Nat} {o:Ob} (hid:σ.ob[id]? = some o) (hd:o ≠ .dead) {b:Nat} (hb:blkOf (hv id)=some b) : ¬ S b:=fun hS=>(h.root id o hid hd b hb).2.2 (h.SB b hS)
end
mutual
theorem AV.under_mono {n m:Nat} (h:n≤m) : ∀ x : AV,x.under n=true→x.under m=true
 | .un, _ | .ud, _ | .ns, _ | .t _, _ | .bw _, _ => rfl
 | .ag cs, hx => by simp only [AV.under] at hx ⊢; exact unders_mono h cs hx
 | .tp cs, hx => by simp only [AV.under] at hx ⊢; exact unders_mono h cs hx
 | .fn _ cs, hx => by simp only [AV.under] at hx ⊢; exact unders_mono h cs hx
 | .rf id _, hx => by simp only [AV.under,decide_eq_true_eq] at hx ⊢; omega
 | .sr id, hx => by simp only [AV.under,decide_eq_true_eq] at hx ⊢; omega
 | .ra id _ _ _, hx => by simp only [AV.under,decide_eq_true_eq] at hx ⊢; omega
 | .sv id _ _ _, hx => by simp only [AV.under,decide_eq_true_eq] at hx ⊢; omega
 | .mr id, hx => by simp only [AV.under,decide_eq_true_eq] at hx ⊢; omega
 | .it id, hx => by simp only [AV.under,decide_eq_true_eq] at hx ⊢; omega
theorem unders_mono {n m:Nat} (h:n≤m) : ∀ xs : List AV,unders n xs=true→unders m xs=true
 | [], _ => rfl
 | x :: xs, hx => by
   simp only [unders,Bool.and_eq_true] at hx ⊢
   exact ⟨AV.under_mono h x hx.1,unders_mono h xs hx.2⟩
end
theorem Ob.under_mono {n m:Nat} (h:n≤m) (o:Ob) (ho:o.under n=true) : o.under m=true:=by
 cases o<;>first | rfl | exact AV.under_mono h _ ho | (simp only [Ob.under,decide_eq_true_eq] at ho ⊢; omega)
theorem unders_mem {n:Nat} {xs:List AV} (h:unders n xs=true) {x:AV} (hx:x∈xs) : x.under n=true:=by
 induction xs with
 | nil => cases hx
 | cons y ys ih =>
   simp only [unders,Bool.and_eq_true] at h
   rcases List.mem_cons.1 hx with rfl | hx
   ·exact h.1
   ·exact ih h.2 hx
theorem unders_of {n:Nat} {xs:List AV} (h:∀ x∈xs,x.under n=true) : unders n xs=true:=by
 induction xs with
 | nil => rfl
 | cons y ys ih =>
   simp only [unders,Bool.and_eq_true]
   exact ⟨h y (List.mem_cons_self ..),ih fun x hx=>h x (List.mem_cons_of_mem _ hx)⟩
theorem AV.bwc_under {n:Nat} (x:T) : (AV.bwc x).under n=true:=by unfold AV.bwc; split<;>rfl
theorem AV.under_cells {n:Nat} {x:AV} (h:x.under n=true) : ∀ y∈x.cells,y.under n=true:=by
 cases x with
 | ag cs => intro y hy; simp only [AV.under] at h; simp only [AV.cells] at hy; exact unders_mem h hy
 | t x => intro y hy; simp only [AV.cells,List.mem_map] at hy; obtain ⟨z,_,rfl⟩:=hy; rfl
 | bw x => intro y hy; simp only [AV.cells,List.mem_map] at hy; obtain ⟨z,_,rfl⟩:=hy; exact AV.bwc_under z
 | _ => intro y hy; simp only [AV.cells,List.mem_singleton] at hy; subst hy; exact h
theorem ownsRow_block {w w':World} {base:Nat} {e:TypeId} {size n:Nat} {v:Value} {xs:List Value} (h:w.ownsRow base e size v n xs)
 (hb:∀ b,blkOf v=some b→w'.heap[b]? = w.heap[b]?) : w'.ownsRow base e size v n xs:=by
 obtain ⟨h1,h2⟩:=h
 refine ⟨h1,?_⟩
 rcases h2 with h2 | ⟨g,cap,cur,hv,hg,hh,r⟩
 ·exact .inl h2
 ·exact .inr ⟨g,cap,cur,hv,hg,(hb g (by rw [hv]; rfl)).trans hh,r⟩
mutual
theorem ownT_mono {w w':World} : ∀ (s:Sh) (x:T) (v:Value) (L:List Nat),(∀ b∈L,w'.heap[b]? = w.heap[b]?)→ownT w s x v L→ownT w' s x v L
 | .leaf, x, v, L, _, h => by
   simp only [ownT] at h ⊢
   exact ⟨h.1,(flat_foot x h.1 h.2.1).2 w',h.2.2⟩
 | .ag ss, x, v, L, hb, h => by
   cases x<;>simp only [ownT] at h ⊢
   obtain ⟨vs,e,h⟩:=h
   exact ⟨vs,e,ownTs_mono ss _ vs L hb h⟩
 | .sl e m s, x, v, L, hb, h => by
   cases x<;>simp only [ownT] at h ⊢
   obtain ⟨vs,L',h1,h2,h3,h4,rfl⟩:=h
   exact ⟨vs,L',ownsRow_block h1 (fun b hb'=>hb b (List.mem_append_left _ (by simp [hb']))),ownEs_mono s _ vs L' (fun b hb'=>hb b (List.mem_append_right _ hb')) h2,h3,h4,rfl⟩
theorem ownTs_mono {w w':World} : ∀ (ss:List Sh) (xs:List T) (vs:List Value) (L:List Nat),(∀ b∈L,w'.heap[b]? = w.heap[b]?)→ownTs w ss xs vs L→ownTs w' ss xs vs L
 | [], [], _, _, _, h => by simpa only [ownTs] using h
 | s :: ss, x :: xs, vs, L, hb, h => by
   simp only [ownTs] at h ⊢
   obtain ⟨v,vs',L1,L2,e,rfl,h1,h2⟩:=h
   exact ⟨v,vs',L1,L2,e,rfl,ownT_mono s x v L1 (fun b hx=>hb b (List.mem_append_left _ hx)) h1,ownTs_mono ss xs vs' L2 (fun b hx=>hb b (List.mem_append_right _ hx)) h2⟩
 | [], _ :: _, _, _, _, h => by simp only [ownTs] at h
 | _ :: _, [], _, _, _, h => by simp only [ownTs] at h
theorem ownEs_mono {w w':World} : ∀ (s:Sh) (xs:List T) (vs:List Value) (L:List Nat),(∀ b∈L,w'.heap[b]? = w.heap[b]?)→ownEs w s xs vs L→ownEs w' s xs vs L
 | _, [], _, _, _, h => by simpa only [ownEs] using h
 | s, x :: xs, vs, L, hb, h => by
   simp only [ownEs] at h ⊢
   obtain ⟨v,vs',L1,L2,e,rfl,h1,h2⟩:=h
   exact ⟨v,vs',L1,L2,e,rfl,ownT_mono s x v L1 (fun b hx=>hb b (List.mem_append_left _ hx)) h1,ownEs_mono s xs vs' L2 (fun b hx=>hb b (List.mem_append_right _ hx)) h2⟩
end
theorem heap_lt {w:World} {b:Nat} {o:Obj} (h:w.heap[b]? = some o) : b < w.heap.size:=by
 rcases Nat.lt_or_ge b w.heap.size with h' | h'
 ·exact h'
 ·rw [Array.getElem?_eq_none h'] at h; cases h
theorem laid_of_heap {w:World} {b:Nat} {cs:Array Value} {e:TypeId} {fr:Nat × Nat} (h:w.heap[b]? = some (.cells cs e fr)) : laid w b 0 cs.toList:=by
 intro j v hj
 simp only [World.cell?,h,Nat.zero_add]
 simpa using hj
theorem ownsRow_laid {w:World} {base:Nat} {e:TypeId} {m n:Nat} {v:Value} {xs:List Value} (h:w.ownsRow base e m v n xs) {b:Nat} {k c:Nat} (hv:v = .slice (some ⟨b,0,none⟩) k c) : laid w b 0 xs:=by
 obtain ⟨h1,h2⟩:=h
 rcases h2 with ⟨h2,_⟩ | ⟨g,cap,cur,hv',hg,hh,hn,hm,hs,ht⟩
 ·rw [hv] at h2; cases h2
 ·rw [hv] at hv'
  cases hv'
  intro j u hj
  have:=laid_of_heap hh j u
  refine this ?_
  rw [← ht,List.getElem?_take] at hj
  split at hj
  ·exact hj
  ·cases hj
theorem row_foot {w:World} {base:Nat} {e:TypeId} {m:Nat} {v:Value} {es:List T} {vs:List Value} {L:List Nat} (k1:w.ownsRow base e m v es.length (cellsL vs)) (k2:footTs w es vs L) (k3:∀ v∈vs,v.cells.size=m) (k5:es.length < Bd.B∧ones (cellsL vs)) :
 ∃ L',footT w (.sl es) v L' ∧ (L'=[] ∨ ∃ b,blkOf v=some b∧L'=b :: L):=by
 rcases k1.2 with ⟨q,q2⟩ | ⟨g,cap,cur,q,hg,hh,hn,_⟩
 ·have : es=[]:=List.eq_nil_of_length_eq_zero q2
  subst this
  refine ⟨[],?_,.inl rfl⟩
  simp only [footT]
  exact ⟨none,0,by simpa using q,by simp,k5.1,.inl ⟨trivial,trivial⟩⟩
 ·refine ⟨g :: L,?_,.inr ⟨g,by rw [q]; rfl,rfl⟩⟩
  simp only [footT]
  exact ⟨_,cap,q,hn,k5.1,.inr ⟨g,0,vs,L,m,rfl,k2,k3,rfl,ownsRow_laid k1 q,k5.2⟩⟩
mutual
theorem ownT_foot {w:World} : ∀ (s:Sh) (x:T) {v:Value} {L:List Nat},ownT w s x v L → ∃ L',footT w x v L' ∧ ∀ b∈L',b∈L
 | .leaf, x, v, L, h => by simp only [ownT] at h; exact ⟨[],h.2.1,by simp⟩
 | .ag ss, x, v, L, h => by
   cases x<;>simp only [ownT] at h
   obtain ⟨vs,rfl,h⟩:=h
   obtain ⟨L',h1,h2⟩:=ownTs_foot ss _ h
   exact ⟨L',by simp only [footT]; exact ⟨vs,rfl,h1⟩,h2⟩
 | .sl e m s, x, v, L, h => by
   cases x<;>simp only [ownT] at h
   obtain ⟨vs,L1,h1,h2,h3,h4,rfl⟩:=h
   obtain ⟨L2,k1,k2⟩:=ownEs_foot s _ h2
   obtain ⟨L',f1,f2⟩:=row_foot h1 k1 h3 h4
   refine ⟨L',f1,fun b hb=>?_⟩
   rcases f2 with rfl | ⟨g,hg,rfl⟩
   ·cases hb
   ·rcases List.mem_cons.1 hb with rfl | hb
    ·exact List.mem_append_left _ (by simp [hg])
    ·exact List.mem_append_right _ (k2 b hb)
theorem ownTs_foot {w:World} : ∀ (ss:List Sh) (xs:List T) {vs:List Value} {L:List Nat},ownTs w ss xs vs L → ∃ L',footTs w xs vs L' ∧ ∀ b∈L',b∈L
 | [], [], vs, L, h => by simp only [ownTs] at h; exact ⟨[],by simp only [footTs]; exact ⟨h.1,trivial⟩,by simp⟩
 | s :: ss, x :: xs, vs, L, h => by
   simp only [ownTs] at h
   obtain ⟨v,vs',L1,L2,rfl,rfl,h1,h2⟩:=h
   obtain ⟨M1,f1,g1⟩:=ownT_foot s x h1
   obtain ⟨M2,f2,g2⟩:=ownTs_foot ss xs h2
   exact ⟨M1 ++ M2,by simp only [footTs]; exact ⟨v,vs',M1,M2,rfl,rfl,f1,f2⟩,fun b hb=>(List.mem_append.1 hb).elim (fun h=>List.mem_append_left _ (g1 b h)) (fun h=>List.mem_append_right _ (g2 b h))⟩
 | [], _ :: _, _, _, h => by simp only [ownTs] at h
 | _ :: _, [], _, _, h => by simp only [ownTs] at h
theorem ownEs_foot {w:World} : ∀ (s:Sh) (xs:List T) {vs:List Value} {L:List Nat},ownEs w s xs vs L → ∃ L',footTs w xs vs L' ∧ ∀ b∈L',b∈L
 | _, [], vs, L, h => by simp only [ownEs] at h; exact ⟨[],by simp only [footTs]; exact ⟨h.1,trivial⟩,by simp⟩
 | s, x :: xs, vs, L, h => by
   simp only [ownEs] at h
   obtain ⟨v,vs',L1,L2,rfl,rfl,h1,h2⟩:=h
   obtain ⟨M1,f1,g1⟩:=ownT_foot s x h1
   obtain ⟨M2,f2,g2⟩:=ownEs_foot s xs h2
   exact ⟨M1 ++ M2,by simp only [footTs]; exact ⟨v,vs',M1,M2,rfl,rfl,f1,f2⟩,fun b hb=>(List.mem_append.1 hb).elim (fun h=>List.mem_append_left _ (g1 b h)) (fun h=>List.mem_append_right _ (g2 b h))⟩
end
theorem ownEs_length {w:World} {s:Sh} {xs:List T} {vs:List Value} {L:List Nat} (h:ownEs w s xs vs L) : vs.length=xs.length:=by
 obtain ⟨L',h1,_⟩:=ownEs_foot s xs h
 exact footTs_length h1
theorem elsR_length {hv:Hv} {S:Nat→Prop} {w:World} {Fi:List Nat} {k:Kind} {es:List T} {vs:List Value} (h:elsR hv S w Fi k es vs) : vs.length=es.length:=by
 cases k<;>obtain ⟨L,h1,_⟩:=h
 ·exact ownEs_length h1
 ·exact footTs_length h1
 ·exact footTs_length h1
theorem ownEs_append {w:World} {s:Sh} : ∀ {xs ys:List T} {vs us:List Value} {L M:List Nat},ownEs w s xs vs L→ownEs w s ys us M→ownEs w s (xs ++ ys) (vs ++ us) (L ++ M)
 | [], _, _, _, _, _, h, k => by simp only [ownEs] at h; obtain ⟨rfl,rfl⟩:=h; simpa using k
 | x :: xs, ys, vs, us, L, M, h, k => by
   simp only [ownEs] at h
   obtain ⟨v,vs',L1,L2,rfl,rfl,h1,h2⟩:=h
   simp only [List.cons_append,ownEs]
   exact ⟨v,vs' ++ us,L1,L2 ++ M,rfl,by simp [List.append_assoc],h1,ownEs_append h2 k⟩
theorem ownEs_split {w:World} {s:Sh} : ∀ {xs ys:List T} {vs:List Value} {L:List Nat},ownEs w s (xs ++ ys) vs L →
 ∃ vs1 vs2 L1 L2,vs=vs1 ++ vs2∧L=L1 ++ L2∧ownEs w s xs vs1 L1∧ownEs w s ys vs2 L2
 | [], ys, vs, L, h => ⟨[],vs,[],L,rfl,rfl,by simp [ownEs],by simpa using h⟩
 | x :: xs, ys, vs, L, h => by
   simp only [List.cons_append,ownEs] at h
   obtain ⟨v,vs',L1,L2,rfl,rfl,h1,h2⟩:=h
   obtain ⟨a1,a2,M1,M2,rfl,rfl,k1,k2⟩:=ownEs_split h2
   exact ⟨v :: a1,a2,L1 ++ M1,M2,rfl,by simp [List.append_assoc],by simp only [ownEs]; exact ⟨v,a1,L1,M1,rfl,rfl,h1,k1⟩,k2⟩
theorem elsR.mono {hv hv':Hv} {S S':Nat→Prop} {w w':World} {Fi:List Nat} {k:Kind} {es:List T} {vs:List Value} (h:elsR hv S w Fi k es vs)
 (hS:∀ b,S b→S' b∧w'.heap[b]? = w.heap[b]?) (hB:∀ b,hv.B b→hv'.B b∧w'.heap[b]? = w.heap[b]?) (hF:k.isOwn=true → ∀ b∈Fi,w'.heap[b]? = w.heap[b]?) : elsR hv' S' w' Fi k es vs:=by
 cases k with
 | own s =>
   obtain ⟨L,h1,h2,h3⟩:=h
   exact ⟨L,ownEs_mono s es vs L (fun b hb=>hF rfl b (h3 b hb)) h1,h2,h3⟩
 | clo =>
   obtain ⟨L,h1,h2⟩:=h
   exact ⟨L,footTs_mono es vs L (fun b hb=>(hS b (h2 b hb)).2) h1,fun b hb=>(hS b (h2 b hb)).1⟩
 | bor =>
   obtain ⟨L,h1,h2⟩:=h
   exact ⟨L,footTs_mono es vs L (fun b hb=>(hB b (h2 b hb)).2) h1,fun b hb=>(hB b (h2 b hb)).1⟩
theorem Ents.mono {w w':World} {h:Value} {ks:List T} {r:Nat} {es:Array MapEntry} {clock:Nat} {l:List MapEntry} (he:Ents w h ks r es clock l) (hb:w'.heap[r]? = w.heap[r]?) : Ents w' h ks r es clock l :=
 ⟨he.val,hb.trans he.heap,he.perm,he.born,he.lt,(flats_foot ks he.flat he.keys).2 w',he.flat,he.nodup,he.small,he.ones⟩
theorem ObR.mono {hv hv':Hv} {S S':Nat→Prop} {w w':World} {Fi:List Nat} {h:Value} {o:Ob} {n:Nat} (hr:ObR hv S w Fi h o)
 (hu:o.under n=true) (he:∀ i,i < n→hv' i=hv i) (hS:∀ b,S b→S' b∧w'.heap[b]? = w.heap[b]?) (hB:∀ b,hv.B b→hv'.B b∧w'.heap[b]? = w.heap[b]?) (hF:o.owns=true → ∀ b∈Fi,w'.heap[b]? = w.heap[b]?)
 (hb:∀ b,blkOf h=some b→w'.heap[b]? = w.heap[b]?) : ObR hv' S' w' Fi h o:=by
 cases o with
 | dead => trivial
 | box x =>
   obtain ⟨b,e,u,L,h1,h2,h3,h4⟩:=hr
   exact ⟨b,e,u,L,h1,(hb b (by rw [h1]; rfl)).trans h2,footA_hv (fun b hb=>(hB b hb).1) he x u L hu (footA_mono (fun b hb=>(hB b hb).2) x u L (fun b' hb'=>(hS b' (h4 b' hb')).2) h3),fun b' hb'=>(hS b' (h4 b' hb')).1⟩
 | arr e m k es =>
   obtain ⟨vs,h1,h2,h3,h4⟩:=hr
   exact ⟨vs,ownsRow_block h1 hb,h2.mono hS hB (fun hk=>hF (by cases k<;>first | rfl | cases hk)),h3,h4⟩
 | hole e m s es i j id =>
   obtain ⟨vs,v,y,L0,e1,m1,s1,h1,h2,h3,h4,h5,h6,h7,h8,h9,h10⟩:=hr
   simp only [Ob.under,decide_eq_true_eq] at hu
   have hF':=hF rfl
   exact ⟨vs,v,y,L0,e1,m1,s1,ownsRow_block h1 hb,h2,h3,h4,h5,by rw [he id hu]; exact h6,h7,h8,h9,fun w'' xs Lj u' ha hx=>h10 w'' xs Lj u' (fun b hb=>(ha b hb).trans (hF' b (h9 b hb))) hx⟩
 | map kt vt k ks vs pend =>
   obtain ⟨r,es,clock,l,h1,h2,h3,h4⟩:=hr
   exact ⟨r,es,clock,l,h1.mono (hb r (by rw [h1.val]; rfl)),h2.mono hS hB (fun hk=>hF (by cases k<;>first | rfl | cases hk)),h3,h4⟩
 | mhole kt vt s ks vs i id =>
   obtain ⟨r,es,clock,l,L,h1,h2,h3,h4,h5,h6⟩:=hr
   have hF':=hF rfl
   exact ⟨r,es,clock,l,L,h1.mono (hb r (by rw [h1.val]; rfl)),h2,ownEs_mono _ _ _ L (fun b hb=>hF' b (h5 b hb)) h3,h4,h5,h6⟩
 | iter c xs =>
   obtain ⟨b,m,es,clock,seen,last,lc,l,L1,L2,h1,h2,h3,h4,h5,h6,h7,h8,h9,h10,h11,h12⟩:=hr
   exact ⟨b,m,es,clock,seen,last,lc,l,L1,L2,h1,(hb b (by rw [h1]; rfl)).trans h2,(hS m h3).1,(hS m h3).2.trans h4,h5,h6,h7,h8,h9,footTs_mono _ _ L1 (fun b hb=>(hS b (h12 b (List.mem_append_left _ hb))).2) h10,
    footTs_mono _ _ L2 (fun b hb=>(hS b (h12 b (List.mem_append_right _ hb))).2) h11,fun b hb=>(hS b (h12 b hb)).1⟩
end Go.Proofs.YtmgdkkhnjkepiaaGreat.BX
namespace Go.Proofs.YtmgdkkhnjkepiaaGreat.BX
open Nat renaming reduceEqDiff → zA, reduceLT → zB, reduceLeDiff → zC, reduceAdd → zD, reduceMul → zE, reduceSub → zF, reduceBEq → zG
set_option linter.unusedSectionVars false
set_option linter.unusedSimpArgs false
set_option linter.unusedVariables false
open Go Go.RowKit
variable [Bd]
section
variable {w0:Base} {σ:St} {hv:Hv} {S:Nat→Prop} {F:Nat→List Nat} {a:Act} {w w':World}
theorem Rel.put (h:Rel w0 σ hv S F a w)
 {d:Option Nat} {x:AV} {v:Value} {L:List Nat} (hx:footA hv w x v L) (hL:∀ b∈L,S b) (hu:x.under σ.ob.length=true) (hd:∀ k,d=some k→k < σ.n) :
 Rel w0 (σ.set d x) hv S F (a.put d v) w:=by
 cases d with
 | none => exact h
 | some d =>
   have hlt : d < a.tmps.size:=by rw [h.size]; exact hd d rfl
   refine { h with size:=by simp [Act.put,St.set,h.size],defs:=by simpa [Act.put] using h.defs,tm:=fun t=>?_,utm:=fun t=>?_ }
   ·simp only [St.set,getL,Act.put]
    by_cases ht : t=d
    ·subst ht
     simp only [if_true]
     exact ⟨L,by simpa [hlt] using hx,hL⟩
    ·simp only [ht,if_false]
     obtain ⟨L',h1,h2⟩:=h.tm t
     refine ⟨L',?_,h2⟩
     have : (a.tmps.setIfInBounds d v).getD t undef=a.tmps.getD t undef:=by
      simp [Array.getElem?_setIfInBounds_ne (Ne.symm ht)]
     rw [this]; exact h1
   ·simp only [St.set,getL]
    by_cases ht : t=d
    ·simp only [ht,if_true]; exact hu
    ·simp only [ht,if_false]; exact h.utm t
structure Grew (w w':World) : Prop where
 os : w'.os=w.os
 tape : w'.tape=w.tape
 output : w'.output=w.output
 size : w.heap.size≤w'.heap.size
 block : ∀ k,k < w.heap.size→w'.heap[k]? = w.heap[k]?
 drawn : Bd.D→w.drawn≤w'.drawn
theorem Grew.refl (w:World) : Grew w w:=⟨rfl,rfl,rfl,Nat.le_refl _,fun _ _=>rfl,fun _=>Nat.le_refl _⟩
theorem Grew.drew (w:World) : Grew w w.drew:=⟨rfl,rfl,rfl,Nat.le_refl _,fun _ _=>rfl,fun _=>Nat.le_succ _⟩
theorem Grew.alloc (w:World) (o:Obj) : Grew w (w.alloc o):=⟨rfl,rfl,rfl,by simp,fun k hk=>Below.heap_alloc _ _ _ hk,fun _=>Nat.le_refl _⟩
theorem Grew.of_below (h:Below w.heap.size w w') (hd:Bd.D→w.drawn≤w'.drawn) : Grew w w':=⟨h.os,h.tape,h.output,h.size,h.block,hd⟩
theorem Grew.below {w0:World} {B:Nat} {M:Nat→Prop} (h:But M B w0 w) (g:Grew w w') (hB:B≤w.heap.size) : But M B w0 w' :=
 h.trans ⟨g.os,g.tape,g.output,g.size,fun k hk _=>g.block k (by omega),g.drawn⟩
def Hv.more (hv:Hv) (a b:Nat) : Hv:=⟨hv.v,fun k=>hv.B k ∨ (a≤k∧k < b)⟩
theorem Rel.grow (h:Rel w0 σ hv S F a w) (g:Grew w w') :
 Rel w0 σ (hv.more w.heap.size w'.heap.size) (fun b=>S b ∨ (w.heap.size≤b∧b < w'.heap.size)) F a w':=by
 have hS : ∀ b,S b→(S b ∨ (w.heap.size≤b∧b < w'.heap.size))∧w'.heap[b]? = w.heap[b]?:=fun b hb=>⟨.inl hb,g.block b (h.Slt b hb)⟩
 have hB : ∀ b,hv.B b→(hv.more w.heap.size w'.heap.size).B b∧w'.heap[b]? = w.heap[b]?:=fun b hb=>⟨.inl hb,g.block b (h.Blt b hb)⟩
 refine { size:=h.size,defs:=h.defs,tm:=fun t=>?_,utm:=h.utm,ob:=fun id o ho=>?_,uob:=h.uob,root:=fun id o ho hd b hb=>?_,sep:=h.sep,SB:=fun b hb=>hb.imp (h.SB b) id,Blt:=fun b hb=>?_,Bin:=fun b hb=>?_,fown:=fun id o ho hown b hb=>?_,fsep:=h.fsep,below:=g.below h.below h.below.size,one:=h.one,an:=h.an,av:=h.av }
 ·obtain ⟨L,h1,h2⟩:=h.tm t
  exact ⟨L,footA_hv (n:=σ.ob.length) (fun b hb=>(hB b hb).1) (fun _ _=>rfl) _ _ _ (h.utm t) (footA_mono (fun b hb=>(hB b hb).2) _ _ L (fun b hb=>(hS b (h2 b hb)).2) h1),fun b hb=>(hS b (h2 b hb)).1⟩
 ·by_cases hd : o = .dead
  ·subst hd; trivial
  ·exact (h.ob id o ho).mono (h.uob id o ho) (fun _ _=>rfl) hS hB (fun hown b hb=>(hB b (h.fown id o ho hown b hb).2.1).2) fun b hb=>g.block b (h.root id o ho hd b hb).2.1
 ·obtain ⟨h1,h2,h3⟩:=h.root id o ho hd b hb
  refine ⟨h1,Nat.lt_of_lt_of_le h2 g.size,fun hh=>?_⟩
  rcases hh with hh | ⟨hh,_⟩
  ·exact h3 hh
  ·omega
 ·rcases hb with hb | ⟨_,hb⟩
  ·exact Nat.lt_of_lt_of_le (h.Blt b hb) g.size
  ·exact hb
 ·rcases hb with hb | ⟨hb,_⟩
  ·exact h.Bin b hb
  ·exact .inr (.inr (Nat.le_trans h.below.size hb))
 ·obtain ⟨h1,h2,h3⟩:=h.fown id o ho hown b hb
  refine ⟨h1,.inl h2,fun hh=>?_⟩
  rcases hh with hh | ⟨hh,_⟩
  ·exact h3 hh
  ·have:=h.Blt b h2; omega
theorem set_get {α:Type} {l:List α} {id i:Nat} {x y:α} (h:(l.set id x)[i]? = some y) : (i=id∧y=x) ∨ (i≠id∧l[i]? = some y):=by
 by_cases e : i=id
 ·subst e
  by_cases hlt : i < l.length
  ·rw [List.getElem?_set_self hlt] at h; exact .inl ⟨rfl,(Option.some.inj h).symm⟩
  ·rw [List.getElem?_eq_none (by simpa using hlt)] at h; cases h
 ·rw [List.getElem?_set_ne (Ne.symm e)] at h; exact .inr ⟨e,h⟩
theorem app_get {α:Type} {l:List α} {o y:α} {id:Nat} (h:(l ++ [o])[id]? = some y) : (id < l.length∧l[id]? = some y) ∨ (id=l.length∧y=o):=by
 rcases Nat.lt_trichotomy id l.length with hi | hi | hi
 ·rw [List.getElem?_append_left hi] at h; exact .inl ⟨hi,h⟩
 ·subst hi; simp at h; exact .inr ⟨rfl,h.symm⟩
 ·rw [List.getElem?_eq_none (by simp; omega)] at h; cases h
theorem get_lt {α:Type} {l:List α} {i:Nat} {x:α} (h:l[i]? = some x) : i < l.length:=(List.getElem?_eq_some_iff.1 h).1
theorem Rel.new0 (h:Rel w0 σ hv S F a w) (hsz:w.heap.size≤w'.heap.size) (hbl:But w0.M w0.heap.size w0.toWorld w')
 (hsB:∀ b,hv.B b→w'.heap[b]? = w.heap[b]?) (hsR:∀ (j:Nat) oj,σ.ob[j]? = some oj→oj ≠ .dead → ∀ b,blkOf (hv j)=some b→w'.heap[b]? = w.heap[b]?)
 {o:Ob} {v:Value} {Fi:List Nat} {S' B':Nat→Prop} (hSS:∀ b,S b→S' b) (hSB:∀ b,S' b→B' b) (hBB:∀ b,hv.B b→B' b)
 (hB':∀ b,B' b→hv.B b ∨ (w.heap.size≤b∧b < w'.heap.size)) (hS':∀ b,S' b→S b ∨ w.heap.size≤b)
 (hroot:∀ b,blkOf v=some b→(w0.M b ∨ w0.heap.size≤b)∧b < w'.heap.size∧¬ B' b∧∀ (j:Nat) oj,σ.ob[j]? = some oj→oj ≠ .dead→blkOf (hv j)≠some b) (hu:o.under σ.ob.length=true) (hv1:v.oneCell'=true)
 (hF:o.owns=true → ∀ b∈Fi,(w0.M b ∨ w0.heap.size≤b)∧B' b∧¬ S' b)
 (hFs:o.owns=true → ∀ (j:Nat) oj,σ.ob[j]? = some oj→oj.owns=true → ∀ b∈Fi,b ∉ F j)
 (ho:∀ hv' : Hv,hv'.B=B'→(∀ i,i < σ.ob.length→hv' i=hv i)→hv' σ.ob.length=v→ObR hv' S' w' Fi v o) :
 ∃ hv' : Hv,hv'.B=B' ∧ (∀ i,i < σ.ob.length→hv' i=hv i)∧hv' σ.ob.length=v ∧
   Rel w0 { σ with ob:=σ.ob ++ [o] } hv' S' (fun i=>if i=σ.ob.length then Fi else F i) a w':=by
 refine ⟨⟨fun i=>if i=σ.ob.length then v else hv i,B'⟩,rfl,fun i hi=>by simp [Nat.ne_of_lt hi],by simp,?_⟩
 generalize hhv : (⟨fun i=>if i=σ.ob.length then v else hv i,B'⟩ : Hv)=hv'
 have hvB : hv'.B=B':=by rw [← hhv]
 have he : ∀ i,i < σ.ob.length→hv' i=hv i:=fun i hi=>by rw [← hhv]; simp [Nat.ne_of_lt hi]
 have hn : hv' σ.ob.length=v:=by rw [← hhv]; simp
 have hB2 : ∀ b,hv.B b→hv'.B b:=fun b hb=>by rw [hvB]; exact hBB b hb
 have hB : ∀ b,hv.B b→hv'.B b∧w'.heap[b]? = w.heap[b]?:=fun b hb=>⟨hB2 b hb,hsB b hb⟩
 have hS : ∀ b,S b→S' b∧w'.heap[b]? = w.heap[b]?:=fun b hb=>⟨hSS b hb,hsB b (h.SB b hb)⟩
 have hlen : (σ.ob ++ [o]).length=σ.ob.length + 1:=by simp
 refine { size:=h.size,defs:=h.defs,tm:=fun t=>?_,utm:=fun t=>?_,ob:=fun id o' ho'=>?_,uob:=fun id o' ho'=>?_,root:=fun id o' ho' hd b hb=>?_,sep:=?_,SB:=fun b hb=>by rw [hvB]; exact hSB b hb,Blt:=fun b hb=>?_,Bin:=fun b hb=>?_,fown:=?_,fsep:=?_,below:=hbl,one:=fun i=>by rw [← hhv]; dsimp only; split<;>first | exact hv1 | exact h.one i,an:=by rw [hlen]; have:=h.an; omega,av:=fun i hi=>by rw [he i (by have:=h.an; omega)]; exact h.av i hi }
 ·obtain ⟨L,h1,h2⟩:=h.tm t
  exact ⟨L,footA_hv hB2 he _ _ L (h.utm t) (footA_mono hsB _ _ L (fun b hb=>(hS b (h2 b hb)).2) h1),fun b hb=>(hS b (h2 b hb)).1⟩
 ·exact AV.under_mono (by simp) _ (h.utm t)
 ·rcases app_get ho' with ⟨hi,h1⟩ | ⟨rfl,rfl⟩
  ·simp only [Nat.ne_of_lt hi,if_false]
   by_cases hd : o' = .dead
   ·subst hd; trivial
   ·rw [he id hi]
    exact (h.ob id o' h1).mono (h.uob id o' h1) he hS hB (fun hown b hb=>hsB b (h.fown id o' h1 hown b hb).2.1) (hsR id o' h1 hd)
  ·simp only [if_true,hn]
   exact ho hv' hvB he hn
 ·show o'.under (σ.ob ++ [o]).length=true
  rw [hlen]
  rcases app_get ho' with ⟨_,h1⟩ | ⟨_,rfl⟩
  ·exact Ob.under_mono (by omega) _ (h.uob id o' h1)
  ·exact Ob.under_mono (by omega) _ hu
 ·rcases app_get ho' with ⟨hi,h1⟩ | ⟨rfl,rfl⟩
  ·rw [he id hi] at hb
   obtain ⟨k1,k2,k3⟩:=h.root id o' h1 hd b hb
   refine ⟨k1,Nat.lt_of_lt_of_le k2 hsz,fun hh=>?_⟩
   rw [hvB] at hh
   rcases hB' b hh with hh | ⟨hh,_⟩
   ·exact k3 hh
   ·omega
  ·rw [hn] at hb
   obtain ⟨k1,k2,k3,_⟩:=hroot b hb
   exact ⟨k1,k2,by rw [hvB]; exact k3⟩
 ·intro i j oi oj hij hi hj di dj b hb
  rcases app_get hi with ⟨hi',h1⟩ | ⟨rfl,rfl⟩
  ·rw [he i hi'] at hb
   rcases app_get hj with ⟨hj',h2⟩ | ⟨rfl,rfl⟩
   ·rw [he j hj']; exact h.sep i j oi oj hij h1 h2 di dj b hb
   ·rw [hn]
    exact fun hh=>(hroot b hh).2.2.2 i oi h1 di hb
  ·rw [hn] at hb
   rcases app_get hj with ⟨hj',h2⟩ | ⟨rfl,_⟩
   ·rw [he j hj']
    exact (hroot b hb).2.2.2 j oj h2 dj
   ·exact absurd rfl hij
 ·rw [hvB] at hb
  rcases hB' b hb with hb | ⟨_,hb⟩
  ·exact Nat.lt_of_lt_of_le (h.Blt b hb) hsz
  ·exact hb
 ·rw [hvB] at hb
  rcases hB' b hb with hb | ⟨hb,_⟩
  ·exact h.Bin b hb
  ·exact .inr (.inr (Nat.le_trans h.below.size hb))
 ·intro id o' hid hown
  rw [hvB]
  rcases app_get hid with ⟨hi,h1⟩ | ⟨rfl,rfl⟩
  ·simp only [Nat.ne_of_lt hi,if_false]
   intro b hb
   obtain ⟨q1,q2,q3⟩:=h.fown id o' h1 hown b hb
   refine ⟨q1,hBB b q2,fun hh=>?_⟩
   rcases hS' b hh with hh | hh
   ·exact q3 hh
   ·have:=h.Blt b q2; omega
  ·simp only [if_true]; exact hF hown
 ·intro i j oi oj hij hi hj hoi hoj b hb
  rcases app_get hi with ⟨hi',h1⟩ | ⟨rfl,rfl⟩
  ·simp only [Nat.ne_of_lt hi',if_false] at hb
   rcases app_get hj with ⟨hj',h2⟩ | ⟨rfl,rfl⟩
   ·simp only [Nat.ne_of_lt hj',if_false]; exact h.fsep i j oi oj hij h1 h2 hoi hoj b hb
   ·simp only [if_true]
    exact fun hh=>hFs hoj i oi h1 hoi b hh hb
  ·simp only [if_true] at hb
   rcases app_get hj with ⟨hj',h2⟩ | ⟨rfl,_⟩
   ·simp only [Nat.ne_of_lt hj',if_false]
    exact hFs hoi j oj h2 hoj b hb
   ·exact absurd rfl hij
theorem Rel.new (h:Rel w0 σ hv S F a w) (g:Grew w w')
 {o:Ob} {v:Value} {Fi:List Nat} (hroot:∀ b,blkOf v=some b→w.heap.size≤b∧b < w'.heap.size) (hu:o.under σ.ob.length=true) (hv1:v.oneCell'=true)
 (hF:o.owns=true → ∀ b∈Fi,(w0.M b ∨ w0.heap.size≤b)∧hv.B b∧¬ S b)
 (hFs:o.owns=true → ∀ (j:Nat) oj,σ.ob[j]? = some oj→oj.owns=true → ∀ b∈Fi,b ∉ F j)
 (ho:∀ hv' : Hv,(∀ b,hv.B b→hv'.B b)→(∀ i,i < σ.ob.length→hv' i=hv i)→hv' σ.ob.length=v→ObR hv' (fun b=>S b ∨ (w.heap.size≤b∧b < w'.heap.size∧blkOf v≠some b)) w' Fi v o) :
 ∃ hv' : Hv,(∀ b,hv.B b→hv'.B b)∧(∀ i,i < σ.ob.length→hv' i=hv i)∧hv' σ.ob.length=v ∧
   Rel w0 { σ with ob:=σ.ob ++ [o] } hv' (fun b=>S b ∨ (w.heap.size≤b∧b < w'.heap.size∧blkOf v≠some b)) (fun i=>if i=σ.ob.length then Fi else F i) a w':=by
 have hb0:=h.below.size
 have hroot' : ∀ b,blkOf v=some b→(w0.M b ∨ w0.heap.size≤b)∧b < w'.heap.size∧¬ (hv.B b ∨ (w.heap.size≤b∧b < w'.heap.size∧blkOf v≠some b))∧∀ (j:Nat) oj,σ.ob[j]? = some oj→oj ≠ .dead→blkOf (hv j)≠some b:=by
  intro b hb
  obtain ⟨k1,k2⟩:=hroot b hb
  refine ⟨.inr (by omega),k2,fun hh=>?_,fun j oj hj hd hh=>?_⟩
  ·rcases hh with hh | ⟨_,_,hh⟩
   ·have:=h.Blt b hh; omega
   ·exact hh hb
  ·have:=(h.root j oj hj hd b hh).2.1; omega
 obtain ⟨hv',h1,h2,h3,h4⟩:=h.new0 g.size (g.below h.below h.below.size) (fun b hb=>g.block b (h.Blt b hb)) (fun j oj hj hd b hb=>g.block b (h.root j oj hj hd b hb).2.1) (o:=o) (v:=v) (Fi:=Fi)
  (S':=fun b=>S b ∨ (w.heap.size≤b∧b < w'.heap.size∧blkOf v≠some b)) (B':=fun b=>hv.B b ∨ (w.heap.size≤b∧b < w'.heap.size∧blkOf v≠some b)) (fun b hb=>.inl hb) (fun b hb=>hb.imp (h.SB b) (fun h=>h)) (fun b hb=>.inl hb)
  (fun b hb=>hb.imp (fun h=>h) fun hh=>⟨hh.1,hh.2.1⟩) (fun b hb=>hb.imp (fun h=>h) fun hh=>hh.1) hroot' hu hv1
  (fun hown b hb=>by
   obtain ⟨q1,q2,q3⟩:=hF hown b hb
   exact ⟨q1,.inl q2,fun hh=>hh.elim q3 fun hh=>by have:=h.Blt b q2; omega⟩) hFs
  (fun hv' hB he hn=>ho hv' (fun b hb=>by rw [hB]; exact .inl hb) he hn)
 exact ⟨hv',fun b hb=>by rw [h1]; exact .inl hb,h2,h3,h4⟩
theorem Rel.write (h:Rel w0 σ hv S F a w) {id:Nat} {o o':Ob}
 (hid:σ.ob[id]? = some o) (hd:o ≠ .dead) (hw:∀ k,blkOf (hv id)≠some k→w'.heap[k]? = w.heap[k]?) (hsz:w'.heap.size=w.heap.size) (hos:w'.os=w.os) (htp:w'.tape=w.tape) (hout:w'.output=w.output) (hdr:w.drawn≤w'.drawn)
 (hu:o'.under σ.ob.length=true) (ho':ObR hv S w' (F id) (hv id) o') (hown:o'.owns=true→o.owns=true) :
 Rel w0 { σ with ob:=σ.ob.set id o' } hv S F a w':=by
 have hB : ∀ b,hv.B b→w'.heap[b]? = w.heap[b]?:=fun b hb=>hw b fun e=>(h.root id o hid hd b e).2.2 hb
 have hother : ∀ i oi,i≠id→σ.ob[i]? = some oi→oi ≠ .dead → ∀ b,blkOf (hv i)=some b→w'.heap[b]? = w.heap[b]?:=fun i oi hi ho hd' b hb=>hw b fun e=>h.sep i id oi o hi ho hid hd' hd b hb e
 have own : ∀ (k:Nat) ok,(σ.ob.set id o')[k]? = some ok→ok.owns=true → ∃ ok',σ.ob[k]? = some ok' ∧ ok'.owns=true:=by
  intro k ok hk hokn
  rcases set_get hk with ⟨rfl,rfl⟩ | ⟨_,hk'⟩
  ·exact ⟨o,hid,hown hokn⟩
  ·exact ⟨_,hk',hokn⟩
 refine { size:=h.size,defs:=h.defs,tm:=fun t=>?_,utm:=fun t=>by simpa using h.utm t,ob:=fun i oi hi=>?_,uob:=fun i oi hi=>?_,root:=fun i oi hi hdi b hb=>?_,sep:=fun i j oi oj hij hi hj di dj b hb=>?_,SB:=h.SB,Blt:=fun b hb=>by rw [hsz]; exact h.Blt b hb,Bin:=h.Bin,fown:=fun i oi hi hoi=>?_,fsep:=fun i j oi oj hij hi hj hoi hoj=>?_,below:=?_,one:=h.one,an:=by simpa using h.an,av:=h.av }
 ·obtain ⟨L,h1,h2⟩:=h.tm t
  exact ⟨L,footA_mono hB _ _ L (fun b hb=>hB b (h.SB b (h2 b hb))) h1,h2⟩
 ·rcases set_get hi with ⟨rfl,rfl⟩ | ⟨hne,hi'⟩
  ·exact ho'
  ·by_cases hdd : oi = .dead
   ·subst hdd; trivial
   ·exact (h.ob i oi hi').mono (h.uob i oi hi') (fun _ _=>rfl) (fun b hb=>⟨hb,hB b (h.SB b hb)⟩) (fun b hb=>⟨hb,hB b hb⟩) (fun hoi b hb=>hB b (h.fown i oi hi' hoi b hb).2.1) (hother i oi hne hi' hdd)
 ·show oi.under (σ.ob.set id o').length=true
  rw [List.length_set]
  rcases set_get hi with ⟨rfl,rfl⟩ | ⟨_,hi'⟩
  ·exact hu
  ·exact h.uob i oi hi'
 ·rw [hsz]
  rcases set_get hi with ⟨rfl,rfl⟩ | ⟨_,hi'⟩
  ·exact h.root i o hid hd b hb
  ·exact h.root i oi hi' hdi b hb
 ·rcases set_get hi with ⟨rfl,rfl⟩ | ⟨hne,hi'⟩
  ·rcases set_get hj with ⟨rfl,_⟩ | ⟨_,hj'⟩
   ·exact absurd rfl hij
   ·exact h.sep i j o oj hij hid hj' hd dj b hb
  ·rcases set_get hj with ⟨rfl,rfl⟩ | ⟨_,hj'⟩
   ·exact h.sep i j oi o hij hi' hid di hd b hb
   ·exact h.sep i j oi oj hij hi' hj' di dj b hb
 ·obtain ⟨ok',h1,h2⟩:=own i oi hi hoi
  exact h.fown i ok' h1 h2
 ·obtain ⟨o1,h1,h2⟩:=own i _ hi hoi
  obtain ⟨o2,h3,h4⟩:=own j _ hj hoj
  exact h.fsep i j o1 o2 hij h1 h3 h2 h4
 ·refine h.below.trans ⟨hos,htp,hout,by omega,fun k hk hm=>hw k fun e=>?_,fun _=>hdr⟩
  have:=(h.root id o hid hd k e).1
  rcases this with h' | h'
  ·exact hm h'
  ·omega
theorem Rel.drop (h:Rel w0 σ hv S F a w) (id:Nat) : Rel w0 { σ with ob:=σ.ob.set id .dead } hv S F a w:=by
 have get : ∀ i oi,(σ.ob.set id .dead)[i]? = some oi→oi = .dead ∨ (i≠id∧σ.ob[i]? = some oi):=fun i oi hi=>(set_get hi).imp (fun h=>h.2) (fun h=>h)
 refine { h with an:=by simpa using h.an,utm:=fun t=>by simpa using h.utm t,ob:=fun i oi hi=>?_,uob:=fun i oi hi=>?_,root:=fun i oi hi hdi b hb=>?_,sep:=fun i j oi oj hij hi hj di dj b hb=>?_,fown:=fun i oi hi hoi b hb=>?_,fsep:=fun i j oi oj hij hi hj hoi hoj=>?_ }
 ·rcases get i oi hi with rfl | ⟨hne,hi'⟩
  ·trivial
  ·exact h.ob i oi hi'
 ·show oi.under (σ.ob.set id .dead).length=true
  rw [List.length_set]
  rcases get i oi hi with rfl | ⟨_,hi'⟩
  ·rfl
  ·exact h.uob i oi hi'
 ·rcases get i oi hi with rfl | ⟨_,hi'⟩
  ·exact absurd rfl hdi
  ·exact h.root i oi hi' hdi b hb
 ·rcases get i oi hi with rfl | ⟨_,hi'⟩
  ·exact absurd rfl di
  ·rcases get j oj hj with rfl | ⟨_,hj'⟩
   ·exact absurd rfl dj
   ·exact h.sep i j oi oj hij hi' hj' di dj b hb
 ·rcases get i _ hi with rfl | ⟨_,hi'⟩
  ·cases hoi
  ·exact h.fown i oi hi' hoi b hb
 ·rcases get i _ hi with rfl | ⟨_,hi'⟩
  ·cases hoi
  ·rcases get j _ hj with rfl | ⟨_,hj'⟩
   ·cases hoj
   ·exact h.fsep i j oi oj hij hi' hj' hoi hoj
theorem Rel.moreB (h:Rel w0 σ hv S F a w) {B':Nat→Prop} (hB:∀ b,hv.B b→B' b) (hlt:∀ b,B' b→b < w.heap.size) (hin:∀ b,B' b→w0.L b ∨ w0.M b ∨ w0.heap.size≤b)
 (hroot:∀ (id:Nat) (o:Ob),σ.ob[id]? = some o→o ≠ .dead → ∀ b,blkOf (hv id)=some b → ¬ B' b) : Rel w0 σ ⟨hv.v,B'⟩ S F a w:=by
 refine { h with tm:=fun t=>?_,ob:=fun i oi hi=>?_,root:=fun i oi hi hdi b hb=>?_,SB:=fun b hb=>hB b (h.SB b hb),Blt:=hlt,Bin:=hin,fown:=fun i oi hi hoi b hb=>?_ }
 ·obtain ⟨L,h1,h2⟩:=h.tm t
  exact ⟨L,footA_hv (hv:=hv) (hv':=⟨hv.v,B'⟩) (n:=σ.ob.length) hB (fun _ _=>rfl) _ _ _ (h.utm t) h1,h2⟩
 ·exact (h.ob i oi hi).mono (h.uob i oi hi) (fun _ _=>rfl) (fun b hb=>⟨hb,rfl⟩) (fun b hb=>⟨hB b hb,rfl⟩) (fun _ _ _=>rfl) (fun _ _=>rfl)
 ·obtain ⟨k1,k2,k3⟩:=h.root i oi hi hdi b hb
  exact ⟨k1,k2,hroot i oi hi hdi b hb⟩
 ·obtain ⟨k1,k2,k3⟩:=h.fown i oi hi hoi b hb
  exact ⟨k1,hB b k2,k3⟩
theorem Rel.moreS (h:Rel w0 σ hv S F a w) {S':Nat→Prop} (hS:∀ b,S b→S' b) (hB:∀ b,S' b→hv.B b) (hF:∀ (id:Nat) (o:Ob),σ.ob[id]? = some o→o.owns=true → ∀ b∈F id,¬ S' b) : Rel w0 σ hv S' F a w:=by
 refine { h with tm:=fun t=>?_,ob:=fun i oi hi=>?_,SB:=hB,fown:=fun i oi hi hoi b hb=>?_ }
 ·obtain ⟨L,h1,h2⟩:=h.tm t
  exact ⟨L,h1,fun b hb=>hS b (h2 b hb)⟩
 ·exact (h.ob i oi hi).mono (h.uob i oi hi) (fun _ _=>rfl) (fun b hb=>⟨hS b hb,rfl⟩) (fun b hb=>⟨hb,rfl⟩) (fun _ _ _=>rfl) (fun _ _=>rfl)
 ·obtain ⟨k1,k2,k3⟩:=h.fown i oi hi hoi b hb
  exact ⟨k1,k2,hF i oi hi hoi b hb⟩
theorem Rel.kill (h:Rel w0 σ hv S F a w) (id:Nat) :
 ∃ (hv':Hv) (S':Nat→Prop),hv'.v=hv.v∧(∀ b,hv.B b→hv'.B b)∧(∀ b,S b→S' b)∧(∀ o,σ.ob[id]? = some o→o ≠ .dead → ∀ b,(blkOf (hv id)=some b ∨ (o.owns=true∧b∈F id))→S' b)∧Rel w0 { σ with ob:=σ.ob.set id .dead } hv' S' F a w ∧
   (∀ b,S' b→S b ∨ ∃ o,σ.ob[id]? = some o∧o ≠ .dead∧(blkOf (hv id)=some b ∨ (o.owns=true∧b∈F id)))∧(∀ b,hv'.B b→hv.B b ∨ ∃ o,σ.ob[id]? = some o∧o ≠ .dead∧blkOf (hv id)=some b):=by
 have h1:=h.drop id
 let B' : Nat→Prop:=fun b=>hv.B b ∨ ∃ o,σ.ob[id]? = some o∧o ≠ .dead∧blkOf (hv id)=some b
 let S' : Nat→Prop:=fun b=>S b ∨ ∃ o,σ.ob[id]? = some o∧o ≠ .dead∧(blkOf (hv id)=some b ∨ (o.owns=true∧b∈F id))
 have h2:=h1.moreB (B':=B') (fun b hb=>.inl hb) (fun b hb=>hb.elim (h.Blt b) fun ⟨o,g1,g2,g3⟩=>(h.root id o g1 g2 b g3).2.1)
  (fun b hb=>hb.elim (h.Bin b) fun ⟨o,g1,g2,g3⟩=>.inr (h.root id o g1 g2 b g3).1)
  (fun i oi hi hdi b hb hh=>by
   rcases set_get hi with ⟨_,e⟩ | ⟨hne,hi'⟩
   ·exact hdi e
   ·rcases hh with hh | ⟨o,g1,g2,g3⟩
    ·exact (h.root i oi hi' hdi b hb).2.2 hh
    ·exact h.sep i id oi o hne hi' g1 hdi g2 b hb g3)
 have h3:=h2.moreS (S':=S') (fun b hb=>.inl hb) (fun b hb=>by
  rcases hb with hb | ⟨o,g1,g2,g3⟩
  ·exact .inl (h.SB b hb)
  ·rcases g3 with g3 | ⟨g3,g4⟩
   ·exact .inr ⟨o,g1,g2,g3⟩
   ·exact .inl (h.fown id o g1 g3 b g4).2.1)
  (fun i oi hi hoi b hb hh=>by
   rcases set_get hi with ⟨_,rfl⟩ | ⟨hne,hi'⟩
   ·cases hoi
   ·rcases hh with hh | ⟨o,g1,g2,g3⟩
    ·exact (h.fown i oi hi' hoi b hb).2.2 hh
    ·rcases g3 with g3 | ⟨g3,g4⟩
     ·exact (h.root id o g1 g2 b g3).2.2 (h.fown i oi hi' hoi b hb).2.1
     ·exact h.fsep i id oi o hne hi' g1 hoi g3 b hb g4)
 exact ⟨⟨hv.v,B'⟩,S',rfl,fun b hb=>.inl hb,fun b hb=>.inl hb,fun o g1 g2 b g3=>.inr ⟨o,g1,g2,g3⟩,h3,fun b hb=>hb,fun b hb=>hb⟩
def killAll : List Nat→List Ob→List Ob
 | [], ob => ob
 | i :: ids, ob => killAll ids (ob.set i .dead)
theorem killAll_length : ∀ (ids:List Nat) (ob:List Ob),(killAll ids ob).length=ob.length
 | [], _ => rfl
 | i :: ids, ob => by simp [killAll,killAll_length ids]
theorem killAll_get : ∀ (ids:List Nat) (ob:List Ob) (i:Nat) (o:Ob),(killAll ids ob)[i]? = some o→o ≠ .dead→i ∉ ids∧ob[i]? = some o
 | [], _, _, _, h, _ => ⟨by simp,h⟩
 | j :: ids, ob, i, o, h, hd => by
   obtain ⟨h1,h2⟩:=killAll_get ids _ i o h hd
   rcases set_get h2 with ⟨_,e⟩ | ⟨e,h2⟩
   ·exact absurd e hd
   ·exact ⟨by simp [e,h1],h2⟩
theorem killAll_keep : ∀ (ids:List Nat) (ob:List Ob) (i:Nat),i ∉ ids→(killAll ids ob)[i]? = ob[i]?
 | [], _, _, _ => rfl
 | j :: ids, ob, i, h => by
   simp only [List.mem_cons,not_or] at h
   rw [killAll,killAll_keep ids _ i h.2,List.getElem?_set_ne (Ne.symm h.1)]
theorem Rel.dropAll : ∀ (ids:List Nat) {σ:St},Rel w0 σ hv S F a w→Rel w0 { σ with ob:=killAll ids σ.ob } hv S F a w
 | [], _, h => h
 | i :: ids, _, h => Rel.dropAll ids (h.drop i)
theorem Rel.killAll : ∀ (ids:List Nat) {σ:St} {hv:Hv} {S:Nat→Prop},Rel w0 σ hv S F a w→ids.Nodup →
 ∃ (hv':Hv) (S':Nat→Prop),hv'.v=hv.v∧(∀ b,hv.B b→hv'.B b)∧(∀ b,S b→S' b)∧(∀ i∈ids,∀ o,σ.ob[i]? = some o→o ≠ .dead → ∀ b,(blkOf (hv i)=some b ∨ (o.owns=true∧b∈F i))→S' b)∧Rel w0 { σ with ob:=BX.killAll ids σ.ob } hv' S' F a w ∧
   (∀ b,S' b→S b ∨ ∃ i∈ids,∃ o,σ.ob[i]? = some o∧o ≠ .dead∧(blkOf (hv i)=some b ∨ (o.owns=true∧b∈F i)))
 | [], σ, hv, S, h, _ => ⟨hv,S,rfl,fun _ hb=>hb,fun _ hb=>hb,by simp,h,fun b hb=>.inl hb⟩
 | i :: ids, σ, hv, S, h, hn => by
   obtain ⟨hv1,S1,e1,b1,h1,h2,h3,h4,_⟩:=h.kill i
   obtain ⟨hn1,hn2⟩:=List.nodup_cons.1 hn
   obtain ⟨hv2,S2,e2,b2,k1,k2,k3,k4⟩:=Rel.killAll ids h3 hn2
   refine ⟨hv2,S2,e2.trans e1,fun b hb=>b2 b (b1 b hb),fun b hb=>k1 b (h1 b hb),fun j hj o ho hd b hb=>?_,k3,fun b hb=>?_⟩
   ·rcases List.mem_cons.1 hj with rfl | hj
    ·exact k1 b (h2 o ho hd b hb)
    ·refine k2 j hj o ?_ hd b (by rw [e1]; exact hb)
     show (σ.ob.set i .dead)[j]? = some o
     rw [List.getElem?_set_ne (by rintro rfl; exact hn1 hj)]
     exact ho
   ·rcases k4 b hb with hb | ⟨j,hj,o,q1,q2,q3⟩
    ·rcases h4 b hb with hb | ⟨o,q1,q2,q3⟩
     ·exact .inl hb
     ·exact .inr ⟨i,List.mem_cons_self ..,o,q1,q2,q3⟩
    ·refine .inr ⟨j,List.mem_cons_of_mem _ hj,o,?_,q2,by rw [e1] at q3; exact q3⟩
     have q1' : (σ.ob.set i .dead)[j]? = some o:=q1
     rwa [List.getElem?_set_ne (by rintro rfl; exact hn1 hj)] at q1'
end
end Go.Proofs.YtmgdkkhnjkepiaaGreat.BX
namespace Go.Proofs.YtmgdkkhnjkepiaaGreat.BX
open Nat renaming reduceEqDiff → zA, reduceLT → zB, reduceLeDiff → zC, reduceAdd → zD, reduceMul → zE, reduceSub → zF, reduceBEq → zG
set_option linter.unusedSectionVars false
set_option linter.unusedSimpArgs false
set_option linter.unusedVariables false
open Go Go.RowKit
variable [Bd]
def Does (P:Program) (Q:Exit→Act→World→Prop) (o:Oper) (a:Act) (w:World) (next:Value→World→Prop) : Prop :=
 o.wp P a w (fun a' w'=>∃ v,a'=a.put o.dst v∧next v w') Q
theorem does_value {P:Program} {Q:Exit→Act→World→Prop} {o:Oper} {a:Act} {w w':World} {next:Value→World→Prop} {v:Value}
 (h:(execOp a.eval o).run P w = .ok (.value v) w') (hn:next v w') : Does P Q o a w next:=by
 unfold Does Oper.wp
 rw [h]
 exact ⟨v,rfl,hn⟩
theorem does_skip {P:Program} {Q:Exit→Act→World→Prop} {o:Oper} {a:Act} {w w':World} {next:Value→World→Prop}
 (h:(execOp a.eval o).run P w = .ok .skip w') (hn:next undef w') : Does P Q o a w next:=by
 unfold Does Oper.wp
 rw [h]
 exact ⟨undef,rfl,hn⟩
def Ans (w0:Base) (σ:St) (a:Act) (K:AV→List Ob→Prop) (next:Value→World→Prop) : Prop :=
 ∀ v w' x ob' (hv':Hv) S' F' L,K x ob'→Rel w0 { σ with ob:=ob' } hv' S' F' a w'→footA hv' w' x v L→(∀ b∈L,S' b)→x.under ob'.length=true→next v w'
def ofS : Value→AV
 | .bool b => .t (.b b)
 | .int k n => .t (.i k n)
 | .string s => if s.data.toList.length < 1000 then .t (.s s.data.toList) else .un
 | .pointer none => .t .np
 | .slice none 0 0 => .ns
 | .map none => .t .nm
 | .nilIface => .t .ni
 | _ => .un
def ofV : Value→AV
 | .agg cs => .ag (cs.toList.map ofS)
 | v => ofS v
theorem ofS_foot (hv:Hv) (w:World) (v:Value) : footA hv w (ofS v) v []:=by
 unfold ofS
 split<;>try (simp [footA,footT]; done)
 split
 ·rename_i s h
  simp only [footA,footT]
  exact ⟨by cases s; simp,trivial,by have:=Bd.lo; omega⟩
 ·simp [footA]
theorem ofS_foots (hv:Hv) (w:World) : ∀ vs : List Value,footAs hv w (vs.map ofS) vs []
 | [] => by simp [footAs]
 | v :: vs => by
   simp only [List.map_cons,footAs]
   exact ⟨v,vs,[],[],rfl,rfl,ofS_foot hv w v,ofS_foots hv w vs⟩
theorem ofV_foot (hv:Hv) (w:World) (v:Value) : footA hv w (ofV v) v []:=by
 unfold ofV
 split
 ·rename_i cs
  simp only [footA]
  exact ⟨cs.toList,by simp,ofS_foots hv w _⟩
 ·exact ofS_foot hv w v
theorem ofS_under (n:Nat) (v:Value) : (ofS v).under n=true:=by
 unfold ofS
 split<;>try rfl
 split<;>rfl
theorem ofV_under (n:Nat) (v:Value) : (ofV v).under n=true:=by
 unfold ofV
 split
 ·simp only [AV.under]
  refine unders_of fun x hx=>?_
  simp only [List.mem_map] at hx
  obtain ⟨u,_,rfl⟩:=hx
  exact ofS_under n u
 ·exact ofS_under n v
def St.opd (σ:St) : Operand→AV
 | .tmp t => getL σ.tm t
 | .const v => ofV v
 | .func f => if f < 1000000 then .fn f [] else .un
 | .global _ => .un
theorem Rel.opd {w0:Base} {σ:St} {hv:Hv} {S:Nat→Prop} {F:Nat→List Nat} {a:Act} {w:World} (h:Rel w0 σ hv S F a w) (x:Operand) :
 (∃ L,footA hv w (σ.opd x) (a.eval x) L∧∀ b∈L,S b)∧(σ.opd x).under σ.ob.length=true:=by
 cases x with
 | tmp t => exact ⟨h.tm t,h.utm t⟩
 | const v => exact ⟨⟨[],ofV_foot hv w v,by simp⟩,ofV_under _ v⟩
 | func f =>
   by_cases h : f < 1000000
   ·exact ⟨⟨[],by simp [St.opd,if_pos h,footA,footAs,Act.eval,fnVal_lo h],by simp⟩,by simp [St.opd,if_pos h,AV.under,unders]⟩
   ·exact ⟨⟨[],by simp [St.opd,if_neg h,footA],by simp⟩,by simp [St.opd,if_neg h,AV.under]⟩
 | global g => exact ⟨⟨[],by simp [St.opd,footA],by simp⟩,rfl⟩
theorem cells_of_one {v:Value} (h:v.oneCell'=true) : v.cells = #[v]:=by
 cases v<;>first | rfl | (simp [Value.oneCell'] at h)
theorem footT_cells {w:World} {x:T} {v:Value} {L:List Nat} (h:footT w x v L) : v.cells.size=x.cells.length ∧
 ∀ (j:Nat) y,x.cells[j]? = some y → ∃ u L',v.cells[j]? = some u∧footT w y u L' ∧ ∀ b∈L',b∈L:=by
 have one : v.cells = #[v]→x.cells=[x]→v.cells.size=x.cells.length∧∀ (j:Nat) y,x.cells[j]? = some y → ∃ u L',v.cells[j]? = some u∧footT w y u L' ∧ ∀ b∈L',b∈L:=by
  intro h1 h2
  rw [h1,h2]
  refine ⟨rfl,fun j y hy=>?_⟩
  cases j with
  | zero => simp only [List.getElem?_cons_zero,Option.some.injEq] at hy; subst hy; exact ⟨v,L,by simp,h,fun b hb=>hb⟩
  | succ j => simp at hy
 cases x with
 | ag cs =>
   simp only [footT] at h
   obtain ⟨vs,rfl,h⟩:=h
   refine ⟨by simp [Value.cells,T.cells,footTs_length h],fun j y hy=>?_⟩
   obtain ⟨u,L',h1,h2,h3⟩:=footTs_get h hy
   exact ⟨u,L',by simpa [Value.cells] using h1,h2,h3⟩
 | b => simp only [footT] at h; obtain ⟨rfl,_⟩:=h; exact one rfl rfl
 | i => simp only [footT] at h; obtain ⟨rfl,_⟩:=h; exact one rfl rfl
 | s => simp only [footT] at h; obtain ⟨rfl,_⟩:=h; exact one rfl rfl
 | np => simp only [footT] at h; obtain ⟨rfl,_⟩:=h; exact one rfl rfl
 | nm => simp only [footT] at h; obtain ⟨rfl,_⟩:=h; exact one rfl rfl
 | ni => simp only [footT] at h; obtain ⟨rfl,_⟩:=h; exact one rfl rfl
 | tp cs => have h':=h; simp only [footT] at h'; obtain ⟨vs,rfl,_⟩:=h'; exact one rfl rfl
 | sl es => have h':=h; simp only [footT] at h'; obtain ⟨A,c,rfl,_⟩:=h'; exact one rfl rfl
 | po y off => have h':=h; simp only [footT] at h'; obtain ⟨b,o,u,L',rfl,_⟩:=h'; exact one rfl rfl
 | ifc t y => have h':=h; simp only [footT] at h'; obtain ⟨u,rfl,_⟩:=h'; exact one rfl rfl
 | mp ks vs => have h':=h; simp only [footT] at h'; obtain ⟨r,es,c,l,L1,L2,rfl,_⟩:=h'; exact one rfl rfl
 | fn f cs => have h':=h; simp only [footT] at h'; obtain ⟨vs,rfl,_⟩:=h'; exact one (fnVal_cells _ _) rfl
theorem bwc_foot {hv:Hv} {w:World} {x:T} {v:Value} {L:List Nat} (h:footT w x v L) (hL:∀ b∈L,hv.B b) : footA hv w (.bwc x) v []:=by
 unfold AV.bwc
 split
 ·rename_i hf
  simp only [footA]
  exact (flat_foot x hf h).2 w
 ·simp only [footA]
  exact ⟨⟨L,h,hL⟩,trivial⟩
theorem footA_cells {hv:Hv} {w:World} {x:AV} {v:Value} {L:List Nat} (h:footA hv w x v L) (hk:x ≠ .un) (hs:∀ id,(hv id).oneCell'=true) : v.cells.size=x.cells.length ∧
 ∀ (j:Nat) y,x.cells[j]? = some y → ∃ u L',v.cells[j]? = some u∧footA hv w y u L' ∧ ∀ b∈L',b∈L:=by
 have one : v.cells = #[v]→x.cells=[x]→v.cells.size=x.cells.length∧∀ (j:Nat) y,x.cells[j]? = some y → ∃ u L',v.cells[j]? = some u∧footA hv w y u L' ∧ ∀ b∈L',b∈L:=by
  intro h1 h2
  rw [h1,h2]
  refine ⟨rfl,fun j y hy=>?_⟩
  cases j with
  | zero => simp only [List.getElem?_cons_zero,Option.some.injEq] at hy; subst hy; exact ⟨v,L,by simp,h,fun b hb=>hb⟩
  | succ j => simp at hy
 cases x with
 | un => exact absurd rfl hk
 | t x =>
   simp only [footA] at h
   obtain ⟨h1,h2⟩:=footT_cells h
   refine ⟨by simp [AV.cells,h1],fun j y hy=>?_⟩
   simp only [AV.cells,List.getElem?_map,Option.map_eq_some_iff] at hy
   obtain ⟨z,hz,rfl⟩:=hy
   simpa only [footA] using h2 j z hz
 | bw x =>
   simp only [footA] at h
   obtain ⟨⟨L',h,hL⟩,rfl⟩:=h
   obtain ⟨h1,h2⟩:=footT_cells h
   refine ⟨by simp [AV.cells,h1],fun j y hy=>?_⟩
   simp only [AV.cells,List.getElem?_map,Option.map_eq_some_iff] at hy
   obtain ⟨z,hz,rfl⟩:=hy
   obtain ⟨u,L2,q1,q2,q3⟩:=h2 j z hz
   exact ⟨u,[],q1,bwc_foot q2 (fun b hb=>hL b (q3 b hb)),by simp⟩
 | it id =>
   have h':=h
   simp only [footA] at h'
   obtain ⟨rfl,_⟩:=h'
   exact one (cells_of_one (hs id)) rfl
 | ag cs =>
   simp only [footA] at h
   obtain ⟨vs,rfl,h⟩:=h
   refine ⟨by simp [Value.cells,AV.cells,footAs_length h],fun j y hy=>?_⟩
   obtain ⟨u,L',h1,h2,h3⟩:=footAs_get h hy
   exact ⟨u,L',by simpa [Value.cells] using h1,h2,h3⟩
 | ud => simp only [footA] at h; obtain ⟨rfl,_⟩:=h; exact one rfl rfl
 | ns => simp only [footA] at h; obtain ⟨rfl,_⟩:=h; exact one rfl rfl
 | tp cs => have h':=h; simp only [footA] at h'; obtain ⟨vs,rfl,_⟩:=h'; exact one rfl rfl
 | fn f cs => have h':=h; simp only [footA] at h'; obtain ⟨vs,rfl,_⟩:=h'; exact one (fnVal_cells _ _) rfl
 | rf id off => have h':=h; simp only [footA] at h'; obtain ⟨b,_,rfl,_⟩:=h'; exact one rfl rfl
 | ra id i m off => have h':=h; simp only [footA] at h'; obtain ⟨b,n,c,_,rfl,_⟩:=h'; exact one rfl rfl
 | sv id a m n => have h':=h; simp only [footA] at h'; rcases h'.1 with ⟨_,A,c,rfl⟩ | ⟨b,k,c,c',_,rfl,_⟩<;>exact one rfl rfl
 | sr id =>
   have h':=h
   simp only [footA] at h'
   obtain ⟨rfl,_⟩:=h'
   exact one (cells_of_one (hs id)) rfl
 | mr id =>
   have h':=h
   simp only [footA] at h'
   obtain ⟨rfl,_⟩:=h'
   exact one (cells_of_one (hs id)) rfl
end Go.Proofs.YtmgdkkhnjkepiaaGreat.BX
namespace Go.Proofs.YtmgdkkhnjkepiaaGreat.BX
open Nat renaming reduceEqDiff → zA, reduceLT → zB, reduceLeDiff → zC, reduceAdd → zD, reduceMul → zE, reduceSub → zF, reduceBEq → zG
set_option linter.unusedSectionVars false
set_option linter.unusedSimpArgs false
set_option linter.unusedVariables false
open Go Go.RowKit
variable [Bd]
def allAt {α:Type} (l:List α) (n:Nat) (K:α→Prop) : Prop:=∀ y,l[n]? = some y→K y
def AV.isAg : AV→Bool
 | .ag _ => true
 | .t (.ag _) => true
 | .bw (.ag _) => true
 | _ => false
def Kind.look : Kind→T→AV
 | .clo, r => .t r
 | _, r => .bwc r
section
variable (P:Program)
def pickA (t:TypeId) (y:AV) (off:Nat) (K:AV→Prop) : Prop :=
 match lay P t with
 | .st _ m => if off=0∧y.cells.length=m∧y.isAg=true then K y else off + m≤y.cells.length∧K (.ag ((y.cells.drop off).take m))
 | l => l.sc=true∧match y.cells[off]? with
   | some z => K z
   | none => False
def pickT (t:TypeId) (y:T) (off:Nat) (K:T→Prop) : Prop :=
 match lay P t with
 | .st _ m => if off=0∧y.cells.length=m∧y.isAg=true then K y else off + m≤y.cells.length∧K (.ag ((y.cells.drop off).take m))
 | l => l.sc=true∧match y.cells[off]? with
   | some z => K z
   | none => False
def vcLoad (t:TypeId) (x:AV) (ob:List Ob) (K:AV→Prop) : Prop :=
 match x with
 | .rf id off => match ob[id]? with
   | some (.box y) => y ≠ .un∧pickA P t y off K
   | _ => False
 | .t (.po y off) => pickT P t y off fun r=>K (.t r)
 | .bw (.po y off) => pickT P t y off fun r=>K (.bwc r)
 | .ra id i m off => match ob[id]? with
   | some (.arr _ m' k es) => m=m' ∧ i < es.length∧allAt es i fun y=>pickT P t y off fun r=>K (k.look r)
   | some (.hole _ m' _ _ i' j id') => (m=m' ∧ i=i' ∧ off=j∧(lay P t).sc=true)∧K (.sr id')
   | _ => False
 | _ => False
end
section
variable {P:Program} {Q:Exit→Act→World→Prop} {w0:Base} {σ:St} {hv:Hv} {S:Nat→Prop} {F:Nat→List Nat} {a:Act} {w:World}
 {K:AV→List Ob→Prop} {next:Value→World→Prop}
theorem lay_st {t:TypeId} {fs:List (Nat × Nat)} {m:Nat} (h:lay P t = .st fs m) :
 ∃ fields,P.underlying t=some (.struct fields)∧fs=fields.toList.map (fun f=>(f.offset,P.cellsOf f.type))∧m=P.cellsOf t∧fields.toList.all (fun f=>(P.info? f.type).isSome)=true:=by
 unfold lay at h
 split at h<;>first | (cases h; done) | (split at h<;>cases h; done) | skip
 rename_i fields hu
 split at h
 ·rename_i hall
  cases h
  exact ⟨fields,hu,rfl,rfl,hall⟩
 ·cases h
theorem info_of_underlying {t:TypeId} {d:TypeDesc} (h:P.underlying t=some d) : ∃ i,P.info? t=some i:=by
 unfold Program.underlying at h
 cases hi : P.info? t with
 | none => simp [hi] at h
 | some i => exact ⟨i,rfl⟩
theorem lay_sc {t:TypeId} (h:(lay P t).sc=true) : ∃ d,P.underlying t=some d∧(∀ fs,d ≠ .struct fs)∧∀ n e,d ≠ .array n e:=by
 unfold lay at h
 split at h<;>(try split at h)<;>first | (simp [Lay.sc] at h; done) | exact ⟨_,by assumption,(by intro fs hh; cases hh),(by intro n e hh; cases hh)⟩
theorem run_isAgg_sc {t:TypeId} (h:(lay P t).sc=true) (w:World) : (isAgg t).run P w = .ok false w:=by
 obtain ⟨d,hd,h1,h2⟩:=lay_sc h
 cases d<;>first | (exact absurd rfl (h1 _)) | (exact absurd rfl (h2 _ _)) | simp [isAgg,run_underlying hd]
theorem run_isAgg_st {t:TypeId} {fs:List (Nat × Nat)} {m:Nat} (h:lay P t = .st fs m) (w:World) : (isAgg t).run P w = .ok true w:=by
 obtain ⟨fields,hd,_⟩:=lay_st h
 simp [isAgg,run_underlying hd]
theorem run_sizeOf_st {t:TypeId} {fs:List (Nat × Nat)} {m:Nat} (h:lay P t = .st fs m) (w:World) : (sizeOf t).run P w = .ok m w:=by
 obtain ⟨fields,hd,_,hm,_⟩:=lay_st h
 obtain ⟨i,hi⟩:=info_of_underlying hd
 rw [hm]; exact run_sizeOf w hi
theorem add_lit (b o j:Nat) : (⟨b,o,none⟩ : Addr).add j=⟨b,o + j,none⟩:=by
 unfold Addr.add; split<;>simp_all
theorem run_load_st {t:TypeId} {fs:List (Nat × Nat)} {m b o:Nat} {cs:List Value} (h:lay P t = .st fs m) (hl:cs.length=m) (hc:laid w b o cs) :
 (loadVar t ⟨b,o,none⟩).run P w = .ok (.agg cs.toArray) w:=by
 have h1:=run_loadCells_list (P:=P) w ⟨b,o,none⟩ cs (fun j v hj=>by rw [add_lit]; exact hc j v hj)
 simp only [loadVar,Sem.run_bind,run_isAgg_st h,Result.andThen_ok,if_true,run_sizeOf_st h,← hl,h1,Sem.run_pure]
theorem run_load_sc {t:TypeId} {b o:Nat} {v:Value} (h:(lay P t).sc=true) (hc:w.cell? ⟨b,o,none⟩=some v) :
 (loadVar t ⟨b,o,none⟩).run P w = .ok v w:=by
 simp [loadVar,run_isAgg_sc h,run_load,hc]
theorem laid_part {b o:Nat} {cs:List Value} (h:laid w b o cs) (k m:Nat) : laid w b (o + k) ((cs.drop k).take m):=by
 intro j v hj
 rw [List.getElem?_take] at hj
 split at hj
 ·rw [List.getElem?_drop] at hj
  have:=h (k + j) v hj
  rwa [← Nat.add_assoc] at this
 ·cases hj
theorem AV.isAg_spec {y:AV} (h:y.isAg=true) : (∃ cs,y = .ag cs) ∨ (∃ cs,y = .t (.ag cs)) ∨ ∃ cs,y = .bw (.ag cs):=by
 unfold AV.isAg at h
 split at h
 ·exact .inl ⟨_,rfl⟩
 ·exact .inr (.inl ⟨_,rfl⟩)
 ·exact .inr (.inr ⟨_,rfl⟩)
 ·cases h
theorem agg_of_isAg {y:AV} {u:Value} {L:List Nat} (h:y.isAg=true) (hf:footA hv w y u L) : u = .agg u.cells:=by
 rcases AV.isAg_spec h with ⟨cs,rfl⟩ | ⟨cs,rfl⟩ | ⟨cs,rfl⟩
 ·simp only [footA] at hf; obtain ⟨vs,rfl,_⟩:=hf; rfl
 ·simp only [footA,footT] at hf; obtain ⟨vs,rfl,_⟩:=hf; rfl
 ·simp only [footA,footT] at hf; obtain ⟨⟨_,⟨vs,rfl,_⟩,_⟩,_⟩:=hf; rfl
theorem footAs_of_cells : ∀ (xs:List AV) (vs:List Value) (L:List Nat),vs.length=xs.length→(∀ (j:Nat) y,xs[j]? = some y → ∃ u L',vs[j]? = some u∧footA hv w y u L' ∧ ∀ b∈L',b∈L) →
 ∃ L',footAs hv w xs vs L' ∧ ∀ b∈L',b∈L
 | [], vs, L, hl, _ => ⟨[],by simp only [footAs]; exact ⟨by simpa using hl,trivial⟩,by simp⟩
 | x :: xs, vs, L, hl, h => by
   cases vs with
   | nil => simp at hl
   | cons v vs =>
     obtain ⟨u,L1,h1,h2,h3⟩:=h 0 x rfl
     simp only [List.getElem?_cons_zero,Option.some.injEq] at h1
     subst h1
     obtain ⟨L2,h4,h5⟩:=footAs_of_cells xs vs L (by simpa using hl) (fun j y hj=>by simpa using h (j + 1) y (by simpa using hj))
     refine ⟨L1 ++ L2,by simp only [footAs]; exact ⟨v,vs,L1,L2,rfl,rfl,h2,h4⟩,fun b hb=>?_⟩
     rcases List.mem_append.1 hb with hb | hb
     ·exact h3 b hb
     ·exact h5 b hb
theorem footTs_of_cells : ∀ (xs:List T) (vs:List Value) (L:List Nat),vs.length=xs.length→(∀ (j:Nat) y,xs[j]? = some y → ∃ u L',vs[j]? = some u∧footT w y u L' ∧ ∀ b∈L',b∈L) →
 ∃ L',footTs w xs vs L' ∧ ∀ b∈L',b∈L
 | [], vs, L, hl, _ => ⟨[],by simp only [footTs]; exact ⟨by simpa using hl,trivial⟩,by simp⟩
 | x :: xs, vs, L, hl, h => by
   cases vs with
   | nil => simp at hl
   | cons v vs =>
     obtain ⟨u,L1,h1,h2,h3⟩:=h 0 x rfl
     simp only [List.getElem?_cons_zero,Option.some.injEq] at h1
     subst h1
     obtain ⟨L2,h4,h5⟩:=footTs_of_cells xs vs L (by simpa using hl) (fun j y hj=>by simpa using h (j + 1) y (by simpa using hj))
     refine ⟨L1 ++ L2,by simp only [footTs]; exact ⟨v,vs,L1,L2,rfl,rfl,h2,h4⟩,fun b hb=>?_⟩
     rcases List.mem_append.1 hb with hb | hb
     ·exact h3 b hb
     ·exact h5 b hb
theorem pickA_sound {t:TypeId} {y:AV} {off:Nat} {K:AV→Prop} (h:pickA P t y off K) : ∃ r,K r∧∀ {hv:Hv} {w:World} {b o n:Nat} {u:Value} {L:List Nat},footA hv w y u L→y ≠ .un→(∀ id,(hv id).oneCell'=true) →
 y.under n=true→laid w b o u.cells.toList →
 ∃ v L',(loadVar t ⟨b,o + off,none⟩).run P w = .ok v w∧footA hv w r v L' ∧ (∀ b∈L',b∈L)∧r.under n=true:=by
 unfold pickA at h
 cases hl' : lay P t with
 | st fs m =>
   simp only [hl'] at h
   split at h
   ·rename_i hh
    obtain ⟨rfl,e2,e3⟩:=hh
    refine ⟨y,h,?_⟩
    intro hv w b o n u L hy hk h1 hu hl
    obtain ⟨hc1,hc2⟩:=footA_cells hy hk h1
    have hsize : u.cells.toList.length=y.cells.length:=by simpa using hc1
    refine ⟨u,L,?_,hy,fun b hb=>hb,hu⟩
    rw [Nat.add_zero,run_load_st hl' (hsize.trans e2) hl]
    rw [Array.toArray_toList,← agg_of_isAg e3 hy]
   ·obtain ⟨e1,e2⟩:=h
    refine ⟨_,e2,?_⟩
    intro hv w b o n u L hy hk h1 hu hl
    obtain ⟨hc1,hc2⟩:=footA_cells hy hk h1
    have hsize : u.cells.toList.length=y.cells.length:=by simpa using hc1
    have huc:=AV.under_cells hu
    have hlen : ((u.cells.toList.drop off).take m).length=m:=by rw [List.length_take,List.length_drop,hsize]; omega
    obtain ⟨L',k1,k2⟩:=footAs_of_cells (hv:=hv) (w:=w) ((y.cells.drop off).take m) ((u.cells.toList.drop off).take m) L (by rw [hlen,List.length_take,List.length_drop]; omega) (fun j z hz=>by
     rw [List.getElem?_take] at hz ⊢
     split at hz
     ·rename_i hj
      rw [List.getElem?_drop] at hz
      obtain ⟨u',L',q1,q2,q3⟩:=hc2 (off + j) z hz
      exact ⟨u',L',by rw [if_pos hj,List.getElem?_drop]; simpa using q1,q2,q3⟩
     ·cases hz)
    refine ⟨_,L',run_load_st hl' hlen (laid_part hl off m),?_,k2,?_⟩
    ·simp only [footA]; exact ⟨_,rfl,k1⟩
    ·simp only [AV.under]
     exact unders_of fun x hx=>huc x (List.mem_of_mem_drop (List.mem_of_mem_take hx))
 | _ =>
   simp only [hl'] at h
   obtain ⟨e1,e2⟩:=h
   split at e2
   ·rename_i z hz
    refine ⟨z,e2,?_⟩
    intro hv w b o n u L hy hk h1 hu hl
    obtain ⟨hc1,hc2⟩:=footA_cells hy hk h1
    obtain ⟨u',L',q1,q2,q3⟩:=hc2 off z hz
    exact ⟨u',L',run_load_sc (by rw [hl']; exact e1) (hl off u' (by simpa using q1)),q2,q3,AV.under_cells hu z (List.mem_of_getElem? hz)⟩
   ·cases e2
theorem pickT_sound {t:TypeId} {y:T} {off:Nat} {K:T→Prop} (h:pickT P t y off K) : ∃ r,K r∧∀ {w:World} {b o:Nat} {u:Value} {L:List Nat},footT w y u L→laid w b o u.cells.toList →
 ∃ v L',(loadVar t ⟨b,o + off,none⟩).run P w = .ok v w∧footT w r v L' ∧ (∀ b∈L',b∈L):=by
 unfold pickT at h
 cases hl' : lay P t with
 | st fs m =>
   simp only [hl'] at h
   split at h
   ·rename_i hh
    obtain ⟨rfl,e2,e3⟩:=hh
    refine ⟨y,h,?_⟩
    intro w b o u L hy hl
    obtain ⟨hc1,hc2⟩:=footT_cells hy
    have hsize : u.cells.toList.length=y.cells.length:=by simpa using hc1
    refine ⟨u,L,?_,hy,fun b hb=>hb⟩
    rw [Nat.add_zero,run_load_st hl' (hsize.trans e2) hl]
    rw [Array.toArray_toList]
    cases y<;>first | (simp [T.isAg] at e3; done) | skip
    simp only [footT] at hy
    obtain ⟨vs,rfl,_⟩:=hy
    rfl
   ·obtain ⟨e1,e2⟩:=h
    refine ⟨_,e2,?_⟩
    intro w b o u L hy hl
    obtain ⟨hc1,hc2⟩:=footT_cells hy
    have hsize : u.cells.toList.length=y.cells.length:=by simpa using hc1
    have hlen : ((u.cells.toList.drop off).take m).length=m:=by rw [List.length_take,List.length_drop,hsize]; omega
    obtain ⟨L',k1,k2⟩:=footTs_of_cells (w:=w) ((y.cells.drop off).take m) ((u.cells.toList.drop off).take m) L (by rw [hlen,List.length_take,List.length_drop]; omega) (fun j z hz=>by
     rw [List.getElem?_take] at hz ⊢
     split at hz
     ·rename_i hj
      rw [List.getElem?_drop] at hz
      obtain ⟨u',L',q1,q2,q3⟩:=hc2 (off + j) z hz
      exact ⟨u',L',by rw [if_pos hj,List.getElem?_drop]; simpa using q1,q2,q3⟩
     ·cases hz)
    refine ⟨_,L',run_load_st hl' hlen (laid_part hl off m),?_,k2⟩
    simp only [footT]; exact ⟨_,rfl,k1⟩
 | _ =>
   simp only [hl'] at h
   obtain ⟨e1,e2⟩:=h
   split at e2
   ·rename_i z hz
    refine ⟨z,e2,?_⟩
    intro w b o u L hy hl
    obtain ⟨hc1,hc2⟩:=footT_cells hy
    obtain ⟨u',L',q1,q2,q3⟩:=hc2 off z hz
    exact ⟨u',L',run_load_sc (by rw [hl']; exact e1) (hl off u' (by simpa using q1)),q2,q3⟩
   ·cases e2
theorem cellsL_get {m:Nat} : ∀ {vs:List Value} (_:∀ v∈vs,v.cells.size=m) {i:Nat} {v:Value} (_:vs[i]? = some v) {j:Nat} (_:j < m),(cellsL vs)[i * m + j]? = v.cells[j]?
 | [], _, _, _, hv, _, _ => by simp at hv
 | x :: vs, hs, i, v, hv, j, hj => by
   have hx : x.cells.toList.length=m:=by simpa using hs x (List.mem_cons_self ..)
   cases i with
   | zero =>
     simp only [List.getElem?_cons_zero,Option.some.injEq] at hv
     subst hv
     simp only [cellsL,List.flatMap_cons,Nat.zero_mul,Nat.zero_add]
     rw [List.getElem?_append_left (by omega)]
     simp
   | succ i =>
     simp only [List.getElem?_cons_succ] at hv
     have ih:=cellsL_get (fun v hv=>hs v (List.mem_cons_of_mem _ hv)) hv hj
     simp only [cellsL,List.flatMap_cons] at ih ⊢
     rw [List.getElem?_append_right (by rw [hx,Nat.succ_mul]; omega)]
     rw [hx,show (i + 1) * m + j - m=i * m + j by rw [Nat.succ_mul]; omega]
     exact ih
theorem laid_elem {b off m:Nat} {vs:List Value} (hs:∀ v∈vs,v.cells.size=m) (h:laid w b off (cellsL vs)) {i:Nat} {v:Value} (hi:vs[i]? = some v) : laid w b (off + i * m) v.cells.toList:=by
 intro j u hj
 have hm : v.cells.size=m:=hs v (List.mem_of_getElem? hi)
 have hjm : j < m:=by
  rcases Nat.lt_or_ge j m with h' | h'
  ·exact h'
  ·rw [List.getElem?_eq_none (by simp [hm]; exact h')] at hj; cases hj
 have:=h (i * m + j) u (by rw [cellsL_get hs hi hjm]; simpa using hj)
 rwa [← Nat.add_assoc] at this
structure Obs (os:List Ob) (hv:Hv) (S:Nat→Prop) (F:Nat→List Nat) (w:World) : Prop where
 ob : ∀ (id:Nat) (o:Ob),os[id]? = some o→ObR hv S w (F id) (hv id) o
 uob : ∀ (id:Nat) (o:Ob),os[id]? = some o→o.under os.length=true
 own : ∀ (id:Nat) (o:Ob),os[id]? = some o→o.owns=true → ∀ b∈F id,hv.B b
 SB : ∀ b,S b→hv.B b
 one : ∀ id,(hv id).oneCell'=true
theorem Rel.obs (h:Rel w0 σ hv S F a w) : Obs σ.ob hv S F w:=⟨h.ob,h.uob,fun id o hid ho b hb=>(h.fown id o hid ho b hb).2.1,h.SB,h.one⟩
def Arg (hv:Hv) (S:Nat→Prop) (w:World) (n:Nat) (x:AV) (v:Value) : Prop:=(∃ L,footA hv w x v L∧∀ b∈L,S b)∧x.under n=true
theorem Rel.arg (h:Rel w0 σ hv S F a w) (x:Operand) : Arg hv S w σ.ob.length (σ.opd x) (a.eval x):=h.opd x
def Yields1 (P:Program) (ob:List Ob) (e:Operand→AV) (o:Oper) (x:AV) : Prop :=
 ∀ {hv:Hv} {S:Nat→Prop} {F:Nat→List Nat} {w:World} {ρ:Operand→Value},Obs ob hv S F w→(∀ y∈o.op.operands,Arg hv S w ob.length (e y) (ρ y)) →
   ∃ v,(execOp ρ o).run P w = .ok (.value v) w∧Arg hv S w ob.length x v
def Kind.reads (hv:Hv) (S:Nat→Prop) : Kind→Nat→Prop
 | .clo, b => S b
 | _, b => hv.B b
theorem elsR_foot {Fi:List Nat} {k:Kind} {es:List T} {vs:List Value} (h:elsR hv S w Fi k es vs) (hF:k.isOwn=true → ∀ b∈Fi,hv.B b) :
 ∃ L,footTs w es vs L∧(∀ b∈L,k.reads hv S b):=by
 cases k with
 | own s =>
   obtain ⟨L,h1,h2,h3⟩:=h
   obtain ⟨L',k1,k2⟩:=ownEs_foot s es h1
   exact ⟨L',k1,fun b hb=>hF rfl b (h3 b (k2 b hb))⟩
 | clo => exact h
 | bor => exact h
theorem look_arg {k:Kind} {r:T} {v:Value} {L:List Nat} {n:Nat} (h:footT w r v L) (hL:∀ b∈L,k.reads hv S b) : Arg hv S w n (k.look r) v:=by
 cases k with
 | clo => exact ⟨⟨L,by simpa only [Kind.look,footA] using h,hL⟩,rfl⟩
 | own s => exact ⟨⟨[],bwc_foot h hL,by simp⟩,AV.bwc_under r⟩
 | bor => exact ⟨⟨[],bwc_foot h hL,by simp⟩,AV.bwc_under r⟩
theorem load_sound {o:Oper} {t:TypeId} {x:Operand} {ob:List Ob} {e:Operand→AV} {K:AV→Prop} (ho:o.op = .load t x) (h:vcLoad P t (e x) ob K) : ∃ r,K r∧Yields1 P ob e o r:=by
 have fin : ∀ {ρ:Operand→Value} {w:World} {b off:Nat} {v:Value},ρ x = .pointer (some ⟨b,off,none⟩)→(loadVar t ⟨b,off,none⟩).run P w = .ok v w→(execOp ρ o).run P w = .ok (.value v) w:=by
  intro ρ w b off v e h1
  simp [execOp,ho,e,Instr.loadAt,Instr.sureAddr,h1]
 have hmem : x∈o.op.operands:=by rw [ho]; simp [Op.operands]
 unfold vcLoad at h
 split at h
 ·rename_i id off he
  split at h
  ·rename_i y hy
   obtain ⟨hk,h⟩:=h
   obtain ⟨r,hK,hp⟩:=pickA_sound h
   refine ⟨r,hK,?_⟩
   intro hv S F w ρ hob harg
   obtain ⟨⟨Lx,hx,hLx⟩,hux⟩:=harg x hmem
   rw [he] at hx
   simp only [footA] at hx
   obtain ⟨b,e1,e2,_⟩:=hx
   obtain ⟨b',e',u,L,k1,k2,k3,k4⟩:=hob.ob id _ hy
   rw [e1] at k1
   cases k1
   obtain ⟨v,L',q1,q3,q4,q5⟩:=hp (n:=ob.length) k3 hk hob.one (by simpa [Ob.under] using hob.uob id _ hy) (laid_of_heap k2)
   rw [Nat.zero_add] at q1
   exact ⟨v,fin e2 q1,⟨L',q3,fun b hb=>k4 b (q4 b hb)⟩,q5⟩
  ·cases h
 ·rename_i y off he
  obtain ⟨r,hK,hp⟩:=pickT_sound h
  refine ⟨.t r,hK,?_⟩
  intro hv S F w ρ hob harg
  obtain ⟨⟨Lx,hx,hLx⟩,hux⟩:=harg x hmem
  rw [he] at hx
  simp only [footA,footT] at hx
  obtain ⟨b,o',u,L',e1,e2,e3,e4⟩:=hx
  obtain ⟨v,L2,q1,q3,q4⟩:=hp e2 e4
  exact ⟨v,fin e1 q1,⟨L2,by simpa only [footA] using q3,fun b hb=>hLx b (by rw [e3]; exact List.mem_cons_of_mem _ (q4 b hb))⟩,rfl⟩
 ·rename_i y off he
  obtain ⟨r,hK,hp⟩:=pickT_sound h
  refine ⟨.bwc r,hK,?_⟩
  intro hv S F w ρ hob harg
  obtain ⟨⟨Lx,hx,hLx⟩,hux⟩:=harg x hmem
  rw [he] at hx
  simp only [footA,footT] at hx
  obtain ⟨⟨L0,⟨b,o',u,L',e1,e2,e3,e4⟩,hB⟩,_⟩:=hx
  obtain ⟨v,L2,q1,q3,q4⟩:=hp e2 e4
  exact ⟨v,fin e1 q1,⟨[],bwc_foot q3 (fun b hb=>hB b (by rw [e3]; exact List.mem_cons_of_mem _ (q4 b hb))),by simp⟩,AV.bwc_under r⟩
 ·rename_i id i m off he
  split at h
  ·rename_i te m' k es hy
   obtain ⟨rfl,hi,h⟩:=h
   obtain ⟨y,hyi⟩ : ∃ y,es[i]? = some y:=⟨es[i],List.getElem?_eq_getElem hi⟩
   obtain ⟨r,hK,hp⟩:=pickT_sound (h y hyi)
   refine ⟨_,hK,?_⟩
   intro hv S F w ρ hob harg
   obtain ⟨⟨Lx,hx,hLx⟩,hux⟩:=harg x hmem
   rw [he] at hx
   simp only [footA] at hx
   obtain ⟨b,n,c,e1,e2,_⟩:=hx
   obtain ⟨vs,k1,k2,k3,k4⟩:=hob.ob id _ hy
   obtain ⟨L,f1,f2⟩:=elsR_foot k2 (fun hk=>hob.own id _ hy (by cases k<;>first | rfl | cases hk))
   obtain ⟨u,L',g1,g2,g3⟩:=footTs_get f1 hyi
   have hl:=laid_elem k3 (ownsRow_laid k1 e1) g1
   rw [Nat.zero_add] at hl
   obtain ⟨v,L2,q1,q3,q4⟩:=hp g2 hl
   exact ⟨v,fin e2 q1,look_arg q3 (fun b hb=>f2 b (g3 b (q4 b hb)))⟩
  ·rename_i te m' ss es i' j id' hy
   obtain ⟨⟨rfl,rfl,rfl,hsc⟩,hK⟩:=h
   refine ⟨_,hK,?_⟩
   intro hv S F w ρ hob harg
   obtain ⟨⟨Lx,hx,hLx⟩,hux⟩:=harg x hmem
   rw [he] at hx
   simp only [footA] at hx
   obtain ⟨b,n,c,e1,e2,_⟩:=hx
   obtain ⟨vs,v,y,L0,e1',m1,s1,h1,h2,h3,h4,h5,h6,_⟩:=hob.ob id _ hy
   have hl:=laid_elem h2 (ownsRow_laid h1 e1) h5
   rw [Nat.zero_add] at hl
   have hc:=hl off (hv id') (by simpa using h6)
   have hu:=hob.uob id _ hy
   exact ⟨hv id',fin e2 (run_load_sc hsc hc),⟨[],by simp only [footA]; exact ⟨trivial,trivial⟩,by simp⟩,by simpa [AV.under,Ob.under] using hu⟩
  ·cases h
 ·cases h
end
end Go.Proofs.YtmgdkkhnjkepiaaGreat.BX
namespace Go.Proofs.YtmgdkkhnjkepiaaGreat.BX
open Nat renaming reduceEqDiff → zA, reduceLT → zB, reduceLeDiff → zC, reduceAdd → zD, reduceMul → zE, reduceSub → zF, reduceBEq → zG
set_option linter.unusedSectionVars false
set_option linter.unusedSimpArgs false
set_option linter.unusedVariables false
open Go Go.RowKit
variable [Bd]
mutual
def AV.shut : AV→Option T
 | .t x => some x
 | .ns => some (.sl [])
 | .ag cs => (shuts cs).map T.ag
 | .tp cs => (shuts cs).map T.tp
 | _ => none
def shuts : List AV→Option (List T)
 | [] => some []
 | x :: xs => match x.shut with
   | some y => (shuts xs).map (y :: ·)
   | none => none
end
mutual
theorem shut_sound {hv:Hv} {w:World} : ∀ (x:AV) {y:T} {v:Value} {L:List Nat},x.shut=some y→footA hv w x v L→footT w y v L
 | .t x, y, v, L, h, hf => by simp only [AV.shut,Option.some.injEq] at h; subst h; simpa only [footA] using hf
 | .ns, y, v, L, h, hf => by
   simp only [AV.shut,Option.some.injEq] at h
   subst h
   simp only [footA] at hf
   simp only [footT]
   exact ⟨none,0,by simpa using hf.1,by simp,by have:=Bd.lo; simp; omega,.inl ⟨trivial,hf.2⟩⟩
 | .ag cs, y, v, L, h, hf => by
   simp only [AV.shut,Option.map_eq_some_iff] at h
   obtain ⟨ts,h1,rfl⟩:=h
   simp only [footA] at hf
   obtain ⟨vs,rfl,hf⟩:=hf
   simp only [footT]
   exact ⟨vs,rfl,shuts_sound cs h1 hf⟩
 | .tp cs, y, v, L, h, hf => by
   simp only [AV.shut,Option.map_eq_some_iff] at h
   obtain ⟨ts,h1,rfl⟩:=h
   simp only [footA] at hf
   obtain ⟨vs,rfl,hf⟩:=hf
   simp only [footT]
   exact ⟨vs,rfl,shuts_sound cs h1 hf⟩
 | .un, _, _, _, h, _ | .ud, _, _, _, h, _ => by simp [AV.shut] at h
 | .rf _ _, _, _, _, h, _ | .sr _, _, _, _, h, _ | .mr _, _, _, _, h, _ | .it _, _, _, _, h, _ | .bw _, _, _, _, h, _ | .fn _ _, _, _, _, h, _ | .ra _ _ _ _, _, _, _, h, _ | .sv _ _ _ _, _, _, _, h, _ => by simp [AV.shut] at h
theorem shuts_sound {hv:Hv} {w:World} : ∀ (xs:List AV) {ys:List T} {vs:List Value} {L:List Nat},shuts xs=some ys→footAs hv w xs vs L→footTs w ys vs L
 | [], ys, vs, L, h, hf => by simp only [shuts,Option.some.injEq] at h; subst h; simpa only [footAs,footTs] using hf
 | x :: xs, ys, vs, L, h, hf => by
   simp only [shuts] at h
   split at h
   ·rename_i y hy
    simp only [Option.map_eq_some_iff] at h
    obtain ⟨zs,h1,rfl⟩:=h
    simp only [footAs] at hf
    obtain ⟨v,vs',L1,L2,rfl,rfl,f1,f2⟩:=hf
    simp only [footTs]
    exact ⟨v,vs',L1,L2,rfl,rfl,shut_sound x hy f1,shuts_sound xs h1 f2⟩
   ·cases h
end
def AV.notNil : AV→Bool
 | .rf .. | .ra .. | .fn .. => true
 | .t (.po ..) | .t (.fn ..) => true
 | .bw (.po ..) | .bw (.fn ..) => true
 | _ => false
def AV.isPtr : AV→Bool
 | .rf .. | .ra .. => true
 | .t (.po ..) => true
 | .bw (.po ..) => true
 | _ => false
def inI64 (n:Int) : Prop:=-9223372036854775808≤n∧n≤9223372036854775807
def shLim : IntKind→Int
 | .i64 => 60
 | .u64 => 60
 | _ => 8
def vcInt (op:BinOp) (k:IntKind) (x y:Int) (K:AV→Prop) : Prop :=
 match op with
 | .add => if k = .i64 then inI64 (x + y)∧K (.t (.i .i64 (x + y))) else K (.t (.i k (k.wrap (x + y))))
 | .sub => if k = .i64 then inI64 (x - y)∧K (.t (.i .i64 (x - y))) else K (.t (.i k (k.wrap (x - y))))
 | .mul => if k = .i64 then inI64 (x * y)∧K (.t (.i .i64 (x * y))) else K (.t (.i k (k.wrap (x * y))))
 | .quo => k = .i64∧0≤x∧0 < y∧inI64 x∧K (.t (.i .i64 (x / y)))
 | .rem => 0≤x∧0 < y∧K (.t (.i k (x % y)))
 | .eql => K (.t (.b (decide (x=y))))
 | .neq => K (.t (.b (decide (x≠y))))
 | .lss => K (.t (.b (decide (x < y))))
 | .leq => K (.t (.b (decide (x≤y))))
 | .gtr => K (.t (.b (decide (y < x))))
 | .geq => K (.t (.b (decide (y≤x))))
 | .shr => 0≤y∧y≤shLim k∧K (.t (.i k (x / 2 ^ y.toNat)))
 | _ => False
def vcStr (op:BinOp) (x y:List UInt8) (K:AV→Prop) : Prop :=
 match op with
 | .add => (x ++ y).length < Bd.B∧K (.t (.s (x ++ y)))
 | .eql => K (.t (.b (decide (x=y))))
 | .neq => K (.t (.b (decide (x≠y))))
 | .lss => K (.t (.b (Op.bytesLess x y)))
 | .leq => K (.t (.b (Op.bytesLess x y || decide (x=y))))
 | .gtr => K (.t (.b (!(Op.bytesLess x y || decide (x=y)))))
 | .geq => K (.t (.b (!Op.bytesLess x y)))
 | _ => False
section
variable (P:Program)
def vcBin (op:BinOp) (t:TypeId) (x y:AV) (K:AV→Prop) : Prop :=
 match x,y with
 | .t (.i k a), .t (.i k' b) => k=k' ∧ vcInt op k a b K
 | .t (.s a), .t (.s b) => vcStr op a b K
 | .t (.b a), .t (.b b) => lay P t = .bool∧match op with
   | .eql => K (.t (.b (decide (a=b))))
   | .neq => K (.t (.b (decide (a≠b))))
   | _ => False
 | x, .t .np => lay P t = .ptr∧match op with
   | .eql => (x = .t .np∧K (.t (.b true))) ∨ (x.isPtr=true∧K (.t (.b false)))
   | .neq => (x = .t .np∧K (.t (.b false))) ∨ (x.isPtr=true∧K (.t (.b true)))
   | _ => False
 | _, _ => False
def vcUn (op:UnOp) (x:AV) (K:AV→Prop) : Prop :=
 match op,x with
 | .not, .t (.b a) => K (.t (.b (!a)))
 | .neg, .t (.i .i64 n) => inI64 (0 - n)∧K (.t (.i .i64 (0 - n)))
 | _, _ => False
def vcField (s:TypeId) (f:Nat) (x:AV) (K:AV→Prop) : Prop :=
 match lay P s with
 | .st fs _ => match fs[f]? with
   | some (o, n) => n≠0∧match x with
     | .rf id off => K (.rf id (off + o))
     | .t (.po y off) => K (.t (.po y (off + o)))
     | .bw (.po y off) => K (.bw (.po y (off + o)))
     | .ra id i m off => K (.ra id i m (off + o))
     | _ => False
   | none => False
 | _ => False
def vcIndexAddr (t:TypeId) (ob:List Ob) (x i:AV) (K:AV→Prop) : Prop :=
 match lay P t,i with
 | .sli _ m, .t (.i _ n) => match x with
   | .t (.sl es) => (0≤n∧n < es.length)∧allAt es n.toNat fun y=>y.cells.length=m∧K (.t (.po y 0))
   | .bw (.sl es) => (0≤n∧n < es.length)∧allAt es n.toNat fun y=>y.cells.length=m∧K (.bw (.po y 0))
   | .sr id => match ob[id]? with
     | some (.arr _ m' _ es) => m=m' ∧ (0≤n∧n < es.length)∧K (.ra id n.toNat m 0)
     | some (.hole _ m' _ es _ _ _) => m=m' ∧ (0≤n∧n < es.length)∧K (.ra id n.toNat m 0)
     | _ => False
   | .sv id a m' l => m=m' ∧ (0≤n∧n < l)∧K (.ra id (a + n.toNat) m 0)
   | _ => False
 | _, _ => False
def vcIndex (t:TypeId) (x i:AV) (K:AV→Prop) : Prop :=
 match x,i with
 | .t (.s l), .t (.i _ n) => lay P t = .str∧(0≤n∧n < l.length)∧allAt l n.toNat fun c=>K (.t (.i .u8 c.toNat))
 | _, _ => False
def vcLen (t:TypeId) (ob:List Ob) (x:AV) (K:AV→Prop) : Prop :=
 match lay P t,x with
 | .str, .t (.s l) => l.length < Bd.B→K (.t (.i .i64 l.length))
 | .sli _ _, .t (.sl es) => es.length < Bd.B→K (.t (.i .i64 es.length))
 | .sli _ _, .bw (.sl es) => es.length < Bd.B→K (.t (.i .i64 es.length))
 | .sli _ _, .ns => K (.t (.i .i64 0))
 | .sli _ _, .sr id => match ob[id]? with
   | some (.arr _ _ _ es) => es.length < Bd.B→K (.t (.i .i64 es.length))
   | some (.hole _ _ _ es _ _ _) => es.length < Bd.B→K (.t (.i .i64 es.length))
   | _ => False
 | .sli _ _, .sv _ _ _ n => K (.t (.i .i64 (n:Nat)))
 | .map _ _, .t .nm => K (.t (.i .i64 0))
 | .map _ _, .t (.mp ks _) => ks.length < Bd.B→K (.t (.i .i64 ks.length))
 | .map _ _, .bw (.mp ks _) => ks.length < Bd.B→K (.t (.i .i64 ks.length))
 | .map _ _, .mr id => match ob[id]? with
   | some (.map _ _ _ ks _ _) => ks.length < Bd.B→K (.t (.i .i64 ks.length))
   | some (.mhole _ _ _ ks _ _ _) => ks.length < Bd.B→K (.t (.i .i64 ks.length))
   | _ => False
 | _, _ => False
def vcExtract (x:AV) (i:Nat) (K:AV→Prop) : Prop :=
 match x with
 | .tp xs => match xs[i]? with
   | some y => K y
   | none => False
 | .t (.tp xs) => match xs[i]? with
   | some y => K (.t y)
   | none => False
 | .bw (.tp xs) => match xs[i]? with
   | some y => K (.bwc y)
   | none => False
 | _ => False
def bnd (d:Int) : Option AV→(Int→Prop)→Prop
 | none, K => K d
 | some (.t (.i _ n)), K => K n
 | _, _ => False
def vcSlice (t:TypeId) (x:AV) (lo hi:Option AV) (K:AV→Prop) : Prop :=
 match lay P t,x with
 | .str, .t (.s l) => bnd 0 lo fun a=>bnd l.length hi fun b=>(0≤a∧a≤b∧b≤l.length)∧K (.t (.s ((l.take b.toNat).drop a.toNat)))
 | .sli _ m, .t (.sl es) => (∀ y∈es,y.cells.length=m)∧bnd 0 lo fun a=>bnd es.length hi fun b=>(0≤a∧a≤b∧b≤es.length)∧K (.t (.sl ((es.take b.toNat).drop a.toNat)))
 | .sli _ m, .bw (.sl es) => (∀ y∈es,y.cells.length=m)∧bnd 0 lo fun a=>bnd es.length hi fun b=>(0≤a∧a≤b∧b≤es.length)∧K (.bw (.sl ((es.take b.toNat).drop a.toNat)))
 | .sli _ _, .ns => bnd 0 lo fun a=>bnd 0 hi fun b=>(a=0∧b=0)∧K .ns
 | _, _ => False
def vcSlv (t:TypeId) (ob:List Ob) (x:AV) (lo hi:Option AV) (K:AV→Prop) : Prop :=
 match x with
 | .sr i => match lay P t,ob[i]? with
   | .sli _ m, some (.arr _ m' _ es) => m'=m∧bnd 0 lo fun a=>bnd es.length hi fun b=>(0≤a∧a≤b∧b≤es.length)∧K (.sv i a.toNat m (b.toNat - a.toNat))
   | _, _ => False
 | .sv i a0 m' n => match lay P t with
   | .sli _ m => m'=m∧bnd 0 lo fun a=>bnd n hi fun b=>(0≤a∧a≤b∧b≤n)∧K (.sv i (a0 + a.toNat) m (b.toNat - a.toNat))
   | _ => False
 | x => vcSlice P t x lo hi K
def bytesOf : List T→Option (List UInt8)
 | [] => some []
 | .i .u8 n :: r => match bytesOf r with
   | some l => some (UInt8.ofNat n.toNat :: l)
   | none => none
 | _ => none
def vcConvert (src dst:TypeId) (ob:List Ob) (x:AV) (K:AV→Prop) : Prop :=
 match lay P dst with
 | .int k => match x with
   | .t (.i _ n) => lay P src ≠ .oth∧P.underlying dst=some (.int k)∧K (.t (.i k (k.wrap n)))
   | _ => False
 | .str => match lay P src,x with
   | .str, .t (.s l) => K (.t (.s l))
   | .sli e m, .t (.sl es) => m=1∧lay P e = .int .u8∧match bytesOf es with
     | some l => K (.t (.s l))
     | none => False
   | .sli e m, .sr id => m=1∧lay P e = .int .u8∧match ob[id]? with
     | some (.arr _ _ _ es) => match bytesOf es with
       | some l => K (.t (.s l))
       | none => False
     | _ => False
   | _, _ => False
 | _ => False
def vcMax (x y:AV) (K:AV→Prop) : Prop :=
 match x,y with
 | .t (.i k a), .t (.i _ b) => K (.t (.i k (if b > a then b else a)))
 | _, _ => False
def vcPure (ob:List Ob) (e:Operand→AV) (op:Op) (K:AV→Prop) : Prop :=
 match op with
 | .move x => K (e x)
 | .assign x => K (e x)
 | .pick c x y => match e c with
   | .t (.b v) => K (if v=true then e x else e y)
   | _ => False
 | .load t x => vcLoad P t (e x) ob K
 | .nilCheck x => (e x).notNil=true∧K (e x)
 | .binOp op t x y _ => vcBin P op t (e x) (e y) K
 | .unOp op _ x => vcUn op (e x) K
 | .fieldAddr s x f => vcField P s f (e x) K
 | .indexAddr t x i => vcIndexAddr P t ob (e x) (e i) K
 | .index t x i => vcIndex P t (e x) (e i) K
 | .slice t x lo hi none => vcSlv P t ob (e x) (lo.map e) (hi.map e) K
 | .extract x i => vcExtract (e x) i K
 | .convert src dst x => vcConvert P src dst ob (e x) K
 | .call c => match c.callee,c.args.toList,c.argTypes.toList with
   | .builtin .len, [x], [t] => vcLen P t ob (e x) K
   | .builtin .max, [x, y], _ => vcMax (e x) (e y) K
   | _, _, _ => False
 | _ => False
end
section
variable {P:Program} {ob:List Ob} {e:Operand→AV} {K:AV→Prop}
theorem getObj_run {P:Program} {w:World} {r:Nat} {es:Array MapEntry} {c:Nat} (h:w.heap[r]? = some (.map es c)) : (getObj r).run P w = .ok (.map es c) w:=by simp [getObj,Sem.run,h]
theorem Arg.of {hv:Hv} {S:Nat→Prop} {w:World} {n:Nat} {x:T} {v:Value} (h:footT w x v []) : Arg hv S w n (.t x) v:=⟨⟨[],by simpa only [footA] using h,by simp⟩,rfl⟩
theorem arg_b {hv:Hv} {S:Nat→Prop} {w:World} {n:Nat} (x:Bool) : Arg hv S w n (.t (.b x)) (.bool x):=.of (by simp [footT])
theorem arg_i {hv:Hv} {S:Nat→Prop} {w:World} {n:Nat} (k:IntKind) (x:Int) : Arg hv S w n (.t (.i k x)) (.int k x):=.of (by simp [footT])
theorem Arg.t_inv {hv:Hv} {S:Nat→Prop} {w:World} {n:Nat} {x:T} {v:Value} (h:Arg hv S w n (.t x) v) : ∃ L,footT w x v L∧∀ b∈L,S b:=by
 obtain ⟨⟨L,h,hL⟩,_⟩:=h
 exact ⟨L,by simpa only [footA] using h,hL⟩
theorem Arg.b_inv {hv:Hv} {S:Nat→Prop} {w:World} {n:Nat} {x:Bool} {v:Value} (h:Arg hv S w n (.t (.b x)) v) : v = .bool x:=by
 obtain ⟨L,h,_⟩:=h.t_inv; simp only [footT] at h; exact h.1
theorem Arg.i_inv {hv:Hv} {S:Nat→Prop} {w:World} {n:Nat} {k:IntKind} {x:Int} {v:Value} (h:Arg hv S w n (.t (.i k x)) v) : v = .int k x:=by
 obtain ⟨L,h,_⟩:=h.t_inv; simp only [footT] at h; exact h.1
theorem Arg.s_inv {hv:Hv} {S:Nat→Prop} {w:World} {n:Nat} {x:List UInt8} {v:Value} (h:Arg hv S w n (.t (.s x)) v) : v = .string ⟨x.toArray⟩∧x.length < Bd.B:=by
 obtain ⟨L,h,_⟩:=h.t_inv; simp only [footT] at h; exact ⟨h.1,h.2.2⟩
theorem Arg.look_inv {k:Kind} {hv:Hv} {S:Nat→Prop} {w:World} {n:Nat} {x:T} {v:Value} (h:Arg hv S w n (k.look x) v) : ∃ L,footT w x v L∧∀ b∈L,k.reads hv S b:=by
 have bw : Arg hv S w n (.bwc x) v → ∃ L,footT w x v L∧∀ b∈L,hv.B b:=by
  intro h
  obtain ⟨⟨L,h,hL⟩,_⟩:=h
  unfold AV.bwc at h
  split at h
  ·rename_i hf
   simp only [footA] at h
   obtain ⟨rfl,_⟩:=flat_foot x hf h
   exact ⟨[],h,by simp⟩
  ·simp only [footA] at h
   exact h.1
 cases k with
 | clo => exact h.t_inv
 | own s => exact bw h
 | bor => exact bw h
theorem Arg.bw_inv {hv:Hv} {S:Nat→Prop} {w:World} {n:Nat} {x:T} {v:Value} (h:Arg hv S w n (.bw x) v) : ∃ L,footT w x v L∧∀ b∈L,hv.B b:=by
 obtain ⟨⟨L,h,hL⟩,_⟩:=h
 simp only [footA] at h
 exact h.1
theorem toList_mk (x:List UInt8) : (⟨x.toArray⟩ : ByteArray).toList=x:=by rw [ByteArray.toList_eq]
theorem bin_int_run {op:BinOp} {k:IntKind} {x y:Int} {K:AV→Prop} (h:vcInt op k x y K) (t:TypeId) : ∃ r v,K r∧(∀ (w:World),(binOp op t (.int k x) (.int k y)).run P w = .ok v w) ∧
 ∀ (hv:Hv) (S:Nat→Prop) (w:World) (n:Nat),Arg hv S w n r v:=by
 unfold vcInt at h
 have cmp : ∀ (op:BinOp) (c:Bool),(∀ w : World,(binOp op t (.int k x) (.int k y)).run P w = .ok (.bool c) w)→K (.t (.b c)) → ∃ r v,K r∧(∀ (w:World),(binOp op t (.int k x) (.int k y)).run P w = .ok v w) ∧
  ∀ (hv:Hv) (S:Nat→Prop) (w:World) (n:Nat),Arg hv S w n r v:=fun op c h1 h2=>⟨_,.bool c,h2,h1,fun hv S w n=>arg_b _⟩
 cases op<;>simp only at h
 case add =>
  split at h
  ·rename_i hk; subst hk
   exact ⟨_,.int .i64 (x + y),h.2,fun w=>by simp [binOp,Op.intArith,IntWalk.i64_in _ h.1],fun hv S w n=>arg_i _ _⟩
  ·exact ⟨_,.int k (k.wrap (x + y)),h,fun w=>by simp [binOp,Op.intArith],fun hv S w n=>arg_i _ _⟩
 case sub =>
  split at h
  ·rename_i hk; subst hk
   exact ⟨_,.int .i64 (x - y),h.2,fun w=>by simp [binOp,Op.intArith,IntWalk.i64_in _ h.1],fun hv S w n=>arg_i _ _⟩
  ·exact ⟨_,.int k (k.wrap (x - y)),h,fun w=>by simp [binOp,Op.intArith],fun hv S w n=>arg_i _ _⟩
 case mul =>
  split at h
  ·rename_i hk; subst hk
   exact ⟨_,.int .i64 (x * y),h.2,fun w=>by simp [binOp,Op.intArith,IntWalk.i64_in _ h.1],fun hv S w n=>arg_i _ _⟩
  ·exact ⟨_,.int k (k.wrap (x * y)),h,fun w=>by simp [binOp,Op.intArith],fun hv S w n=>arg_i _ _⟩
 case quo =>
  obtain ⟨rfl,h0,h1,h2,h3⟩:=h
  refine ⟨_,.int .i64 (x / y),h3,fun w=>?_,fun hv S w n=>arg_i _ _⟩
  have h4 : y≠0:=by omega
  have h5 : x.tdiv y=x / y:=Int.tdiv_eq_ediv_of_nonneg h0
  have h6 : 0≤x / y:=Int.ediv_nonneg h0 (by omega)
  have h7 : x / y≤x:=Int.ediv_le_self _ h0
  have h8:=h2.2
  simp [binOp,Op.intDiv,h4,h5,IntWalk.i64_in (x / y) ⟨by omega,by omega⟩]
 case shr =>
  obtain ⟨h0,h1,h3⟩:=h
  exact ⟨_,.int k (x / 2 ^ y.toNat),h3,fun w=>by rw [binOp_shr,shift_shr k k x y h0 (by revert h1; cases k<;>simp [IntKind.bits,shLim]<;>omega)]; simp,fun hv S w n=>arg_i _ _⟩
 case rem =>
  obtain ⟨h0,h1,h3⟩:=h
  refine ⟨_,.int k (x % y),h3,fun w=>?_,fun hv S w n=>arg_i _ _⟩
  have h4 : y≠0:=by omega
  simp [binOp,Op.intDiv,h4,Int.tmod_eq_emod_of_nonneg h0]
 case eql=>exact cmp _ _ (fun w=>by simp only [binOp,ne_eq,not_true_eq_false,if_false,Op.intCmp,Sem.run_pure]; rfl) h
 case neq =>
  refine cmp _ _ (fun w=>?_) h
  simp only [binOp,ne_eq,not_true_eq_false,if_false,Op.intCmp,Sem.run_pure]
  congr 2
  rw [Bool.eq_iff_iff]; simp
 case lss=>exact cmp _ _ (fun w=>by simp only [binOp,ne_eq,not_true_eq_false,if_false,Op.intCmp,Sem.run_pure]) h
 case leq=>exact cmp _ _ (fun w=>by simp only [binOp,ne_eq,not_true_eq_false,if_false,Op.intCmp,Sem.run_pure]) h
 case gtr=>exact cmp _ _ (fun w=>by simp only [binOp,ne_eq,not_true_eq_false,if_false,Op.intCmp,Sem.run_pure]) h
 case geq=>exact cmp _ _ (fun w=>by simp only [binOp,ne_eq,not_true_eq_false,if_false,Op.intCmp,Sem.run_pure]) h
 all_goals exact h.elim
theorem bin_str_run {op:BinOp} {x y:List UInt8} {K:AV→Prop} (h:vcStr op x y K) (t:TypeId) : ∃ r v,K r∧(∀ (w:World),x.length < Bd.B→y.length < Bd.B→(binOp op t (.string ⟨x.toArray⟩) (.string ⟨y.toArray⟩)).run P w = .ok v w) ∧
 ∀ (hv:Hv) (S:Nat→Prop) (w:World) (n:Nat),Arg hv S w n r v:=by
 unfold vcStr at h
 have cmp : ∀ (op:BinOp) (c:Bool),(∀ w : World,(binOp op t (.string ⟨x.toArray⟩) (.string ⟨y.toArray⟩)).run P w = .ok (.bool c) w)→K (.t (.b c)) → ∃ r v,K r∧(∀ (w:World),x.length < Bd.B→y.length < Bd.B→(binOp op t (.string ⟨x.toArray⟩) (.string ⟨y.toArray⟩)).run P w = .ok v w) ∧
  ∀ (hv:Hv) (S:Nat→Prop) (w:World) (n:Nat),Arg hv S w n r v:=fun op c h1 h2=>⟨_,.bool c,h2,fun w _ _=>h1 w,fun hv S w n=>arg_b _⟩
 have beq : (x == y)=decide (x=y):=by rw [Bool.eq_iff_iff]; simp
 cases op<;>simp only at h
 case add =>
  refine ⟨_,.string ⟨(x ++ y).toArray⟩,h.2,fun w hx hy=>?_,fun hv S w n=>.of (by simp only [footT]; exact ⟨trivial,trivial,h.1⟩)⟩
  have hs : ¬ ((((⟨x.toArray⟩ : ByteArray).size + (⟨y.toArray⟩ : ByteArray).size : Nat) : Int) > IntKind.i64.max):=by
   show ¬ (((x.toArray.size + y.toArray.size : Nat) : Int) > 2 ^ 63 - 1)
   simp only [List.size_toArray]
   have:=Bd.hi
   have h1:=h.1
   rw [List.length_append] at h1
   omega
  rw [binOp_string_add]
  simp only [Op.stringOp,hs,if_false,Sem.run_pure]
  congr 2
 case eql=>exact cmp _ _ (fun w=>by rw [binOp_string_eql]; simp only [toList_mk,beq,Sem.run_pure]) h
 case neq=>exact cmp _ _ (fun w=>by rw [binOp_string_neq]; simp only [toList_mk,beq,Sem.run_pure,← decide_not]) h
 case lss=>exact cmp _ _ (fun w=>by rw [binOp_string_lss]; simp only [toList_mk,Sem.run_pure]) h
 case leq=>exact cmp _ _ (fun w=>by rw [binOp_string_leq]; simp only [toList_mk,beq,Sem.run_pure]) h
 case gtr=>exact cmp _ _ (fun w=>by rw [binOp_string_gtr]; simp only [toList_mk,beq,Sem.run_pure]) h
 case geq=>exact cmp _ _ (fun w=>by rw [binOp_string_geq]; simp only [toList_mk,Sem.run_pure]) h
 all_goals exact h.elim
theorem bnd_sound {d:Int} {x:Option AV} {K:Int→Prop} (h:bnd d x K) : ∃ n,K n∧((x=none∧n=d) ∨ ∃ k,x=some (.t (.i k n))):=by
 unfold bnd at h
 split at h
 ·exact ⟨d,h,.inl ⟨rfl,rfl⟩⟩
 ·exact ⟨_,h,.inr ⟨_,rfl⟩⟩
 ·cases h
theorem lay_sli {t e:TypeId} {m:Nat} (h:lay P t = .sli e m) : P.underlying t=some (.slice e)∧P.cellsOf e=m∧∃ i,P.info? e=some i:=by
 unfold lay at h
 split at h<;>first | (cases h; done) | skip
 all_goals (split at h<;>first | (cases h; done) | skip)
 cases h
 obtain ⟨i,hi⟩ : ∃ i,P.info? e=some i:=⟨_,by assumption⟩
 exact ⟨by assumption,by simp [Program.cellsOf, *],i,hi⟩
theorem lay_str {t:TypeId} (h:lay P t = .str) : P.underlying t=some .string:=by
 unfold lay at h
 split at h<;>first | (cases h; done) | (split at h<;>cases h; done) | assumption
theorem lay_int {t:TypeId} {k:IntKind} (h:lay P t = .int k) : P.underlying t=some (.int k):=by
 unfold lay at h
 split at h<;>first | (cases h; done) | (split at h<;>cases h; done) | skip
 rename_i k' hk
 cases h
 exact hk
theorem lay_bool {t:TypeId} (h:lay P t = .bool) : P.underlying t=some .bool:=by
 unfold lay at h
 split at h<;>first | (cases h; done) | (split at h<;>cases h; done) | assumption
theorem lay_ptr {t:TypeId} (h:lay P t = .ptr) : ∃ e,P.underlying t=some (.pointer e):=by
 unfold lay at h
 split at h<;>first | (cases h; done) | (split at h<;>cases h; done) | exact ⟨_,by assumption⟩
theorem lay_map {t k e:TypeId} (h:lay P t = .map k e) : P.underlying t=some (.map k e):=by
 unfold lay at h
 split at h<;>first | (cases h; done) | (split at h<;>cases h; done) | skip
 cases h
 assumption
theorem elem_of {t e:TypeId} (h:P.underlying t=some (.slice e)) : P.elem t=e:=by simp [Program.elem,h]
theorem index_addr_sound {o:Oper} {t:TypeId} {x i:Operand} (ho:o.op = .indexAddr t x i)
 (h:vcIndexAddr P t ob (e x) (e i) K) : ∃ r,K r∧Yields1 P ob e o r:=by
 have hmx : x∈o.op.operands:=by rw [ho]; simp [Op.operands]
 have hmi : i∈o.op.operands:=by rw [ho]; simp [Op.operands]
 unfold vcIndexAddr at h
 split at h
 ·rename_i ty te m k n hl hi
  obtain ⟨hu,hm,inf,hinf⟩:=lay_sli hl
  have run : ∀ {ρ:Operand→Value} {w:World} {a:Addr} {len cap:Nat},ρ x = .slice (some a) len cap→ρ i = .int k n→0≤n→n < len →
   (execOp ρ o).run P w = .ok (.value (.pointer (some (a.add (n.toNat * m))))) w:=by
   intro ρ w a len cap h1 h2 h3 h4
   have hr:=run_indexAt_slice (P:=P) w t a len cap k n (by rw [elem_of hu]; exact hu)
   rw [if_pos ⟨h3,h4⟩,elem_of hu,run_sizeOf w hinf,hm] at hr
   simp only [Result.andThen_ok] at hr
   simp [execOp,ho,h1,h2,hr]
  have closed : ∀ (k':Kind) (es:List T),e x=k'.look (.sl es)→(0≤n∧n < es.length)→(allAt es n.toNat fun y=>y.cells.length=m∧K (k'.look (.po y 0))) → ∃ r,K r∧Yields1 P ob e o r:=by
   intro k' es hx ⟨h0,h1⟩ h2
   obtain ⟨y,hy⟩ : ∃ y,es[n.toNat]? = some y:=⟨es[n.toNat]'(by omega),List.getElem?_eq_getElem (by omega)⟩
   obtain ⟨h3,h4⟩:=h2 y hy
   refine ⟨_,h4,?_⟩
   intro hv S F w ρ hob harg
   have ax:=harg x hmx
   have ai:=(harg i hmi)
   rw [hx] at ax
   rw [hi] at ai
   have ei:=ai.i_inv
   obtain ⟨L,fx,hL⟩:=ax.look_inv
   simp only [footT] at fx
   obtain ⟨A,c,e1,hc,hbig,hor⟩:=fx
   rcases hor with ⟨rfl,_⟩ | ⟨b,off,vs,L',m',e2,f1,f2,e3,f3⟩
   ·simp at hy
   ·subst e2 e3
    obtain ⟨u,L2,g1,g2,g3⟩:=footTs_get f1 hy
    have hm' : m'=m:=by
     have:=f2 u (List.mem_of_getElem? g1)
     rw [(footT_cells g2).1,h3] at this
     exact this.symm
    subst hm'
    refine ⟨_,run e1 ei h0 h1,look_arg (L:=b :: L2) ?_ fun b' hb'=>?_⟩
    ·simp only [footT]
     exact ⟨b,off + n.toNat * m',u,L2,by rw [add_lit]; rfl,g2,rfl,laid_elem f2 f3.1 g1⟩
    ·rcases List.mem_cons.1 hb' with rfl | hb'
     ·exact hL _ (List.mem_cons_self ..)
     ·exact hL _ (List.mem_cons_of_mem _ (g3 b' hb'))
  have opened : ∀ (id:Nat) (es:List T),e x = .sr id→(0≤n∧n < es.length)→(∀ (hv:Hv) (S:Nat→Prop) (F:Nat→List Nat) (w:World),Obs ob hv S F w → ∃ te xs,w.ownsRow 0 te m (hv id) es.length xs)→K (.ra id n.toNat m 0) → ∃ r,K r∧Yields1 P ob e o r:=by
   intro id es hx ⟨h0,h1⟩ hrow h2
   refine ⟨_,h2,?_⟩
   intro hv S F w ρ hob harg
   have ax:=harg x hmx
   have ai:=(harg i hmi)
   rw [hx] at ax
   rw [hi] at ai
   have ei:=ai.i_inv
   obtain ⟨⟨L,fx,hL⟩,hux⟩:=ax
   simp only [footA] at fx
   obtain ⟨te,xs,q1,q2⟩:=hrow hv S F w hob
   rcases q2 with ⟨_,q2⟩ | ⟨g,cap,cur,q3,q4,q5,q6,q7,q8,q9⟩
   ·omega
   ·refine ⟨_,run (fx.1.trans q3) ei h0 h1,⟨[],?_,by simp⟩,by simpa only [AV.under] using hux⟩
    simp only [footA]
    exact ⟨g,_,_,q3,by rw [add_lit]; simp,trivial⟩
  split at h
  ·rename_i es hx
   exact closed .clo es hx h.1 h.2
  ·rename_i es hx
   exact closed .bor es hx h.1 h.2
  ·rename_i id hx
   split at h
   ·rename_i te' m' own es hy
    obtain ⟨rfl,h1,h2⟩:=h
    exact opened id es hx h1 (fun hv S F w hob=>by obtain ⟨vs,k1,_⟩:=hob.ob id _ hy; exact ⟨_,_,k1⟩) h2
   ·rename_i te' m' ss es i' j' id' hy
    obtain ⟨rfl,h1,h2⟩:=h
    exact opened id es hx h1 (fun hv S F w hob=>by obtain ⟨vs,v,y,L0,e1,m1,s1,k1,_⟩:=hob.ob id _ hy; exact ⟨_,_,k1⟩) h2
   ·cases h
  ·rename_i id a m' l hx
   obtain ⟨rfl,⟨h0,h1⟩,h2⟩:=h
   refine ⟨_,h2,?_⟩
   intro hv S F w ρ hob harg
   have ax:=harg x hmx
   have ai:=(harg i hmi)
   rw [hx] at ax
   rw [hi] at ai
   have ei:=ai.i_inv
   obtain ⟨⟨L,fx,hL⟩,hux⟩:=ax
   simp only [footA] at fx
   obtain ⟨fx,_⟩:=fx
   rcases fx with ⟨q,_⟩ | ⟨b,k,c,c',q1,q2,q3,q4⟩
   ·omega
   ·refine ⟨_,run q2 ei h0 h1,⟨[],?_,by simp⟩,by simpa only [AV.under] using hux⟩
    simp only [footA]
    exact ⟨b,_,_,q1,by rw [add_lit,Nat.add_mul]; simp,trivial⟩
  ·cases h
 ·cases h
theorem field_sound {o:Oper} {s:TypeId} {x:Operand} {f:Nat} (ho:o.op = .fieldAddr s x f) (h:vcField P s f (e x) K) : ∃ r,K r∧Yields1 P ob e o r:=by
 have hmx : x∈o.op.operands:=by rw [ho]; simp [Op.operands]
 unfold vcField at h
 split at h
 ·rename_i fs m hl
  obtain ⟨fields,hu,hfs,hm,_⟩:=lay_st hl
  split at h
  ·rename_i off n hf
   obtain ⟨hn,h⟩:=h
   rw [hfs,List.getElem?_map,Option.map_eq_some_iff] at hf
   obtain ⟨fd,hfd,hpair⟩:=hf
   cases hpair
   obtain ⟨inf,hinf⟩ : ∃ inf,P.info? fd.type=some inf:=by
    cases hi : P.info? fd.type with
    | none => simp [Program.cellsOf,hi] at hn
    | some i => exact ⟨i,rfl⟩
   have run : ∀ {ρ:Operand→Value} {w:World} {b oo:Nat},ρ x = .pointer (some ⟨b,oo,none⟩)→(execOp ρ o).run P w = .ok (.value (.pointer (some ⟨b,oo + fd.offset,none⟩))) w:=by
    intro ρ w b oo h1
    have h2 : (fieldPlace ⟨b,oo,none⟩ fd).run P w = .ok ⟨b,oo + fd.offset,none⟩ w:=by
     simp only [fieldPlace,Sem.run_bind,run_sizeOf w hinf,Result.andThen_ok,hn,if_false,Sem.run_pure,add_lit]
    have h3 : fields[f]? = some fd:=by simpa using hfd
    simp [execOp,ho,h1,Instr.fieldAt,run_underlying hu,h3,Instr.sureAddr,h2]
   split at h
   ·rename_i id oo he
    refine ⟨_,h,?_⟩
    intro hv S F w ρ hob harg
    obtain ⟨⟨L,fx,hL⟩,hux⟩:=harg x hmx
    rw [he] at fx hux
    simp only [footA] at fx
    obtain ⟨b,e1,e2,_⟩:=fx
    exact ⟨_,run e2,⟨[],by simp only [footA]; exact ⟨b,e1,rfl,trivial⟩,by simp⟩,by simpa only [AV.under] using hux⟩
   ·rename_i y oo he
    refine ⟨_,h,?_⟩
    intro hv S F w ρ hob harg
    have ax:=harg x hmx
    rw [he] at ax
    obtain ⟨L,fx,hL⟩:=ax.t_inv
    simp only [footT] at fx
    obtain ⟨b,o',u,L',e1,e2,e3,e4⟩:=fx
    exact ⟨_,run e1,⟨L,by simp only [footA,footT]; exact ⟨b,o',u,L',by rw [Nat.add_assoc],e2,e3,e4⟩,hL⟩,rfl⟩
   ·rename_i y oo he
    refine ⟨_,h,?_⟩
    intro hv S F w ρ hob harg
    have ax:=harg x hmx
    rw [he] at ax
    obtain ⟨L,fx,hL⟩:=ax.bw_inv
    simp only [footT] at fx
    obtain ⟨b,o',u,L',e1,e2,e3,e4⟩:=fx
    exact ⟨_,run e1,⟨[],by simp only [footA,footT]; exact ⟨⟨L,⟨b,o',u,L',by rw [Nat.add_assoc],e2,e3,e4⟩,hL⟩,trivial⟩,by simp⟩,rfl⟩
   ·rename_i id i m oo he
    refine ⟨_,h,?_⟩
    intro hv S F w ρ hob harg
    obtain ⟨⟨L,fx,hL⟩,hux⟩:=harg x hmx
    rw [he] at fx hux
    simp only [footA] at fx
    obtain ⟨b,n,c,e1,e2,_⟩:=fx
    exact ⟨_,run e2,⟨[],by simp only [footA]; exact ⟨b,n,c,e1,by rw [Nat.add_assoc],trivial⟩,by simp⟩,by simpa only [AV.under] using hux⟩
   ·cases h
  ·cases h
 ·cases h
theorem index_sound {o:Oper} {t:TypeId} {x i:Operand} (ho:o.op = .index t x i) (h:vcIndex P t (e x) (e i) K) : ∃ r,K r∧Yields1 P ob e o r:=by
 have hmx : x∈o.op.operands:=by rw [ho]; simp [Op.operands]
 have hmi : i∈o.op.operands:=by rw [ho]; simp [Op.operands]
 unfold vcIndex at h
 split at h
 ·rename_i l k n hx hi
  obtain ⟨hl,⟨h0,h1⟩,h2⟩:=h
  obtain ⟨c,hc⟩ : ∃ c,l[n.toNat]? = some c:=⟨l[n.toNat]'(by omega),List.getElem?_eq_getElem (by omega)⟩
  refine ⟨_,h2 c hc,?_⟩
  intro hv S F w ρ hob harg
  have ax:=harg x hmx
  have ai:=harg i hmi
  rw [hx] at ax
  rw [hi] at ai
  have ei:=ai.i_inv
  have ex:=ax.s_inv.1
  refine ⟨.int .u8 c.toNat,?_,arg_i _ _⟩
  have hs : (⟨l.toArray⟩ : ByteArray).size=l.length:=by simp [ByteArray.size]
  have hr:=run_index_string (P:=P) w t ⟨l.toArray⟩ k n (lay_str hl)
  rw [dif_pos ⟨h0,by rw [hs]; exact h1⟩] at hr
  have hg : (⟨l.toArray⟩ : ByteArray)[n.toNat]'(by rw [hs]; omega)=c:=by
   have : l[n.toNat]'(by omega)=c:=by
    rw [List.getElem?_eq_getElem (by omega)] at hc; exact Option.some.inj hc
   simpa [ByteArray.getElem_eq_getElem_data] using this
  rw [hg] at hr
  simp [execOp,ho,ex,ei,hr]
 ·cases h
theorem arr1 {α:Type} {xs:Array α} {x:α} (h:xs.toList=[x]) : xs = #[x]:=by
 apply Array.ext'; simpa using h
theorem max_sound {o:Oper} {c:Call} {x y:Operand} (ho:o.op = .call c) (hc:c.callee = .builtin .max) (ha:c.args.toList=[x,y]) (h:vcMax (e x) (e y) K) : ∃ r,K r∧Yields1 P ob e o r:=by
 have ha' : c.args = #[x,y]:=by apply Array.ext'; simpa using ha
 have hmx : x∈o.op.operands:=by rw [ho]; simp [Op.operands,Call.operands,ha']
 have hmy : y∈o.op.operands:=by rw [ho]; simp [Op.operands,Call.operands,ha']
 unfold vcMax at h
 split at h
 ·rename_i k a k' b hx hy
  refine ⟨_,h,?_⟩
  intro hv S F w ρ hob harg
  have ax:=harg x hmx
  have ay:=harg y hmy
  rw [hx] at ax
  rw [hy] at ay
  refine ⟨.int k (if b > a then b else a),?_,arg_i _ _⟩
  have h2:=run_max_int2 (P:=P) (w:=w) c.argTypes o.type k k' a b
  simp [execOp,ho,resolve,hc,ha',invoke,builtin,ax.i_inv,ay.i_inv,h2]
 ·cases h
theorem len_sound {o:Oper} {c:Call} {t:TypeId} {x:Operand} (ho:o.op = .call c) (hc:c.callee = .builtin .len) (ha:c.args.toList=[x]) (ht:c.argTypes.toList=[t])
 {hv:Hv} {S:Nat→Prop} {F:Nat→List Nat} {w:World} {ρ:Operand→Value} (hob:Obs ob hv S F w) (harg:∀ y∈o.op.operands,Arg hv S w ob.length (e y) (ρ y))
 (h:vcLen P t ob (e x) K) : ∃ r,K r∧Yields1 P ob e o r:=by
 have ha':=arr1 ha
 have ht':=arr1 ht
 have hmx : x∈o.op.operands:=by rw [ho]; simp [Op.operands,Call.operands,ha']
 have run : ∀ {ρ:Operand→Value} {w:World} {n:Int},(Builtin.len_ #[t] o.type #[ρ x]).run P w = .ok (.int .i64 n) w→(execOp ρ o).run P w = .ok (.value (.int .i64 n)) w:=by
  intro ρ w n h2
  simp [execOp,ho,resolve,hc,ha',ht',invoke,builtin,h2]
 have ax:=harg x hmx
 have lenC : ∀ (k:Kind) (te m:Nat) (es:List T),lay P t = .sli te m→e x=k.look (.sl es)→(es.length < Bd.B→K (.t (.i .i64 es.length))) → ∃ r,K r∧Yields1 P ob e o r:=by
  intro k te m es hl hx h
  rw [hx] at ax
  obtain ⟨L,fx,_⟩:=ax.look_inv
  simp only [footT] at fx
  obtain ⟨A,c',e1,hc',hbig,_⟩:=fx
  refine ⟨_,h hbig,?_⟩
  intro hv S F w ρ hob harg
  have ax:=harg x hmx
  rw [hx] at ax
  obtain ⟨L,fx,_⟩:=ax.look_inv
  simp only [footT] at fx
  obtain ⟨A,c',e1,_⟩:=fx
  obtain ⟨hu,_,_⟩:=lay_sli hl
  have:=run_len_slice (P:=P) w t o.type A es.length c' (by rw [elem_of hu]; exact hu)
  exact ⟨_,run (by rw [e1]; exact this),arg_i _ _⟩
 have lenO : ∀ (id te m:Nat) (es:List T),lay P t = .sli te m→e x = .sr id→(∀ {hv:Hv} {S:Nat→Prop} {F:Nat→List Nat} {w:World},Obs ob hv S F w → ∃ te' m' xs,w.ownsRow 0 te' m' (hv id) es.length xs∧es.length < Bd.B)→(es.length < Bd.B→K (.t (.i .i64 es.length))) → ∃ r,K r∧Yields1 P ob e o r:=by
  intro id te m es hl hx hrow h
  obtain ⟨_,_,_,_,hbig⟩:=hrow hob
  refine ⟨_,h hbig,?_⟩
  intro hv S F w ρ hob harg
  have ax:=harg x hmx
  rw [hx] at ax
  obtain ⟨⟨L,fx,_⟩,_⟩:=ax
  simp only [footA] at fx
  obtain ⟨te',m',xs,k1,_⟩:=hrow hob
  obtain ⟨hu,_,_⟩:=lay_sli hl
  obtain ⟨A,cap,hA⟩ : ∃ A cap,hv id = .slice A es.length cap:=by
   rcases k1.2 with ⟨q,q2⟩ | ⟨g,cap,cur,q3,_⟩
   ·exact ⟨none,0,by rw [q2]; exact q⟩
   ·exact ⟨_,_,q3⟩
  have:=run_len_slice (P:=P) w t o.type A es.length cap (by rw [elem_of hu]; exact hu)
  exact ⟨_,run (by rw [fx.1,hA]; exact this),arg_i _ _⟩
 have lenM : ∀ (k:Kind) (kt et:Nat) (ks vs:List T),lay P t = .map kt et→e x=k.look (.mp ks vs)→(ks.length < Bd.B→K (.t (.i .i64 ks.length))) → ∃ r,K r∧Yields1 P ob e o r:=by
  intro k kt et ks vs hl hx h
  rw [hx] at ax
  obtain ⟨L,fx,_⟩:=ax.look_inv
  simp only [footT] at fx
  obtain ⟨r,es,clock,l,L1,L2,e1,e2,⟨p1,p2,p3,p4,p5⟩,f1,_⟩:=fx
  refine ⟨_,h p5,?_⟩
  intro hv S F w ρ hob harg
  have ax:=harg x hmx
  rw [hx] at ax
  obtain ⟨L,fx,_⟩:=ax.look_inv
  simp only [footT] at fx
  obtain ⟨r,es,clock,l,L1,L2,e1,e2,⟨p1,p2,p3,p4,p5⟩,f1,_⟩:=fx
  have hlen : es.size=ks.length:=by
   have:=footTs_length f1
   rw [List.length_map,p1.length_eq,Array.length_toList] at this
   exact this
  exact ⟨_,run (by rw [e1]; simp [Builtin.len_,run_underlying (lay_map hl),getObj_run e2,hlen,goInt]),arg_i _ _⟩
 have lenMO : ∀ (id kt et:Nat) (ks:List T),lay P t = .map kt et→e x = .mr id→(∀ {hv:Hv} {S:Nat→Prop} {F:Nat→List Nat} {w:World},Obs ob hv S F w → ∃ r es clock l,Ents w (hv id) ks r es clock l)→(ks.length < Bd.B→K (.t (.i .i64 ks.length))) → ∃ r,K r∧Yields1 P ob e o r:=by
  intro id kt et ks hl hx hrow h
  obtain ⟨_,_,_,_,hE⟩:=hrow hob
  refine ⟨_,h hE.small,?_⟩
  intro hv S F w ρ hob harg
  have ax:=harg x hmx
  rw [hx] at ax
  obtain ⟨⟨L,fx,_⟩,_⟩:=ax
  simp only [footA] at fx
  obtain ⟨r,es,clock,l,k1⟩:=hrow hob
  have hlen : es.size=ks.length:=by
   have:=footTs_length k1.keys
   rw [List.length_map,k1.perm.length_eq,Array.length_toList] at this
   exact this
  exact ⟨_,run (by rw [fx.1,k1.val]; simp [Builtin.len_,run_underlying (lay_map hl),getObj_run k1.heap,hlen,goInt]),arg_i _ _⟩
 unfold vcLen at h
 split at h
 ·rename_i l hl hx
  rw [hx] at ax
  refine ⟨_,h ax.s_inv.2,?_⟩
  intro hv S F w ρ hob harg
  have ax:=harg x hmx
  rw [hx] at ax
  have hs : (⟨l.toArray⟩ : ByteArray).size=l.length:=by simp [ByteArray.size]
  have:=run_len_string (P:=P) w t o.type ⟨l.toArray⟩ (lay_str hl)
  rw [hs] at this
  exact ⟨_,run (by rw [ax.s_inv.1]; exact this),arg_i _ _⟩
 ·rename_i te m es hl hx; exact lenC .clo te m es hl hx h
 ·rename_i te m es hl hx; exact lenC .bor te m es hl hx h
 ·rename_i te m hl hx
  refine ⟨_,h,?_⟩
  intro hv S F w ρ hob harg
  have ax:=harg x hmx
  rw [hx] at ax
  obtain ⟨⟨L,fx,_⟩,_⟩:=ax
  simp only [footA] at fx
  obtain ⟨hu,_,_⟩:=lay_sli hl
  have:=run_len_slice (P:=P) w t o.type none 0 0 (by rw [elem_of hu]; exact hu)
  exact ⟨_,run (by rw [fx.1]; exact this),arg_i _ _⟩
 ·rename_i te m id hl hx
  split at h
  ·rename_i te' m' own es hy
   exact lenO id te m es hl hx (fun hob=>by obtain ⟨vs,k1,k2,k3,k5⟩:=hob.ob id _ hy; exact ⟨_,_,_,k1,k5.1⟩) h
  ·rename_i te' m' ss es i' j' id' hy
   exact lenO id te m es hl hx (fun hob=>by obtain ⟨vs,v,y,L0,e1,m1,s1,k1,k2,k3,_⟩:=hob.ob id _ hy; exact ⟨_,_,_,k1,k3.1⟩) h
  ·cases h
 ·rename_i te m id a m' n hl hx
  refine ⟨_,h,?_⟩
  intro hv S F w ρ hob harg
  have ax:=harg x hmx
  rw [hx] at ax
  obtain ⟨⟨L,fx,_⟩,_⟩:=ax
  simp only [footA] at fx
  obtain ⟨hu,_,_⟩:=lay_sli hl
  have hv' : ∃ A c,ρ x = .slice A n c:=by
   rcases fx.1 with ⟨rfl,A,c,q⟩ | ⟨b,k,c,c',_,q,_⟩
   ·exact ⟨A,c,q⟩
   ·exact ⟨_,_,q⟩
  obtain ⟨A,c,q⟩:=hv'
  have:=run_len_slice (P:=P) w t o.type A n c (by rw [elem_of hu]; exact hu)
  exact ⟨_,run (by rw [q]; exact this),arg_i _ _⟩
 ·rename_i kt et hl hx
  refine ⟨_,h,?_⟩
  intro hv S F w ρ hob harg
  have ax:=harg x hmx
  rw [hx] at ax
  obtain ⟨L,fx,_⟩:=ax.t_inv
  simp only [footT] at fx
  exact ⟨_,run (by rw [fx.1]; simp [Builtin.len_,run_underlying (lay_map hl),goInt]),arg_i _ _⟩
 ·rename_i kt et ks vs hl hx; exact lenM .clo kt et ks vs hl hx h
 ·rename_i kt et ks vs hl hx; exact lenM .bor kt et ks vs hl hx h
 ·rename_i kt et id hl hx
  split at h
  ·rename_i kt' vt' k ks vs p hy
   exact lenMO id kt et ks hl hx (fun hob=>by obtain ⟨r,es,clock,l,k1,_⟩:=hob.ob id _ hy; exact ⟨_,_,_,_,k1⟩) h
  ·rename_i kt' vt' s ks vs i' id' hy
   exact lenMO id kt et ks hl hx (fun hob=>by obtain ⟨r,es,clock,l,L,k1,_⟩:=hob.ob id _ hy; exact ⟨_,_,_,_,k1⟩) h
  ·cases h
 ·cases h
theorem extract_sound {o:Oper} {x:Operand} {i:Nat} (ho:o.op = .extract x i) (h:vcExtract (e x) i K) : ∃ r,K r∧Yields1 P ob e o r:=by
 have hmx : x∈o.op.operands:=by rw [ho]; simp [Op.operands]
 unfold vcExtract at h
 split at h
 ·rename_i xs hx
  split at h
  ·rename_i y hy
   refine ⟨_,h,?_⟩
   intro hv S F w ρ hob harg
   obtain ⟨⟨L,fx,hL⟩,hux⟩:=harg x hmx
   rw [hx] at fx hux
   simp only [footA] at fx
   obtain ⟨vs,e1,f1⟩:=fx
   obtain ⟨u,L',g1,g2,g3⟩:=footAs_get f1 hy
   simp only [AV.under] at hux
   exact ⟨u,by simp [execOp,ho,e1,Instr.extract,g1],⟨L',g2,fun b hb=>hL b (g3 b hb)⟩,unders_mem hux (List.mem_of_getElem? hy)⟩
  ·cases h
 ·rename_i xs hx
  split at h
  ·rename_i y hy
   refine ⟨_,h,?_⟩
   intro hv S F w ρ hob harg
   have ax:=harg x hmx
   rw [hx] at ax
   obtain ⟨L,fx,hL⟩:=ax.t_inv
   simp only [footT] at fx
   obtain ⟨vs,e1,f1⟩:=fx
   obtain ⟨u,L',g1,g2,g3⟩:=footTs_get f1 hy
   exact ⟨u,by simp [execOp,ho,e1,Instr.extract,g1],⟨L',by simpa only [footA] using g2,fun b hb=>hL b (g3 b hb)⟩,rfl⟩
  ·cases h
 ·rename_i xs hx
  split at h
  ·rename_i y hy
   refine ⟨_,h,?_⟩
   intro hv S F w ρ hob harg
   have ax:=harg x hmx
   rw [hx] at ax
   obtain ⟨L,fx,hL⟩:=ax.bw_inv
   simp only [footT] at fx
   obtain ⟨vs,e1,f1⟩:=fx
   obtain ⟨u,L',g1,g2,g3⟩:=footTs_get f1 hy
   exact ⟨u,by simp [execOp,ho,e1,Instr.extract,g1],look_arg (k:=.bor) g2 (fun b hb=>hL b (g3 b hb))⟩
  ·cases h
 ·cases h
theorem un_sound {o:Oper} {op:UnOp} {t:TypeId} {x:Operand} (ho:o.op = .unOp op t x) (h:vcUn op (e x) K) : ∃ r,K r∧Yields1 P ob e o r:=by
 have hmx : x∈o.op.operands:=by rw [ho]; simp [Op.operands]
 unfold vcUn at h
 split at h
 ·rename_i b hx
  refine ⟨_,h,?_⟩
  intro hv S F w ρ hob harg
  have ax:=harg x hmx
  rw [hx] at ax
  exact ⟨_,by simp [execOp,ho,ax.b_inv,Op.unary],arg_b _⟩
 ·rename_i n hx
  refine ⟨_,h.2,?_⟩
  intro hv S F w ρ hob harg
  have ax:=harg x hmx
  rw [hx] at ax
  exact ⟨.int .i64 (0 - n),by simp only [execOp,ho,ax.i_inv,Op.unary,Op.intArith,IntWalk.i64_in _ h.1]; rfl,arg_i _ _⟩
 ·cases h
theorem notNil_value {hv:Hv} {S:Nat→Prop} {w:World} {n:Nat} {x:AV} {v:Value} (h:x.notNil=true) (hx:Arg hv S w n x v) : (∃ a,v = .pointer (some a)) ∨ ∃ f a b,v = .func (.func f) a b:=by
 obtain ⟨⟨L,fx,_⟩,_⟩:=hx
 unfold AV.notNil at h
 split at h<;>first | (cases h; done) | (simp only [footA,footT] at fx)
 ·obtain ⟨b,_,e,_⟩:=fx; exact .inl ⟨_,e⟩
 ·obtain ⟨b,n,c,_,e,_⟩:=fx; exact .inl ⟨_,e⟩
 ·obtain ⟨vs,e,_⟩:=fx; exact .inr (by rw [e]; exact fnVal_is _ _)
 ·obtain ⟨b,o,u,L',e,_⟩:=fx; exact .inl ⟨_,e⟩
 ·obtain ⟨vs,e,_⟩:=fx; exact .inr (by rw [e]; exact fnVal_is _ _)
 ·obtain ⟨⟨_,⟨b,o,u,L',e,_⟩,_⟩,_⟩:=fx; exact .inl ⟨_,e⟩
 ·obtain ⟨⟨_,⟨vs,e,_⟩,_⟩,_⟩:=fx; exact .inr (by rw [e]; exact fnVal_is _ _)
theorem eqIn_bool {t:TypeId} (h:P.underlying t=some .bool) (d:Nat) (a b:Bool) (w:World) : (Op.equalIn (d + 1) t (.bool a) (.bool b)).run P w = .ok (a == b) w:=by
 simp [Op.equalIn,run_underlying h]
theorem eqIn_nil {t te:TypeId} (h:P.underlying t=some (.pointer te)) (d:Nat) (x:Option Addr) (w:World) : (Op.equalIn (d + 1) t (.pointer x) (.pointer none)).run P w = .ok x.isNone w:=by
 cases x<;>simp [Op.equalIn,run_underlying h]
theorem isPtr_value {hv:Hv} {S:Nat→Prop} {w:World} {n:Nat} {x:AV} {v:Value} (h:x.isPtr=true) (hx:Arg hv S w n x v) : ∃ a,v = .pointer (some a):=by
 obtain ⟨⟨L,fx,_⟩,_⟩:=hx
 unfold AV.isPtr at h
 split at h<;>first | (cases h; done) | (simp only [footA,footT] at fx)
 ·obtain ⟨b,_,e,_⟩:=fx; exact ⟨_,e⟩
 ·obtain ⟨b,n,c,_,e,_⟩:=fx; exact ⟨_,e⟩
 ·obtain ⟨b,o,u,L',e,_⟩:=fx; exact ⟨_,e⟩
 ·obtain ⟨⟨_,⟨b,o,u,L',e,_⟩,_⟩,_⟩:=fx; exact ⟨_,e⟩
theorem bin_sound {o:Oper} {op:BinOp} {t yt:TypeId} {x y:Operand} (ho:o.op = .binOp op t x y yt) (h:vcBin P op t (e x) (e y) K) : ∃ r,K r∧Yields1 P ob e o r:=by
 have hmx : x∈o.op.operands:=by rw [ho]; simp [Op.operands]
 have hmy : y∈o.op.operands:=by rw [ho]; simp [Op.operands]
 unfold vcBin at h
 split at h
 ·rename_i k a k' b hx hy
  obtain ⟨rfl,h⟩:=h
  obtain ⟨r,v,h1,h2,h3⟩:=bin_int_run (P:=P) h t
  refine ⟨r,h1,?_⟩
  intro hv S F w ρ hob harg
  have ax:=harg x hmx
  have ay:=harg y hmy
  rw [hx] at ax
  rw [hy] at ay
  refine ⟨v,?_,h3 _ _ _ _⟩
  simp only [execOp,ho,ax.i_inv,ay.i_inv]
  cases op<;>simp [eqGuard,h2]
 ·rename_i a b hx hy
  obtain ⟨r,v,h1,h2,h3⟩:=bin_str_run (P:=P) h t
  refine ⟨r,h1,?_⟩
  intro hv S F w ρ hob harg
  have ax:=harg x hmx
  have ay:=harg y hmy
  rw [hx] at ax
  rw [hy] at ay
  refine ⟨v,?_,h3 _ _ _ _⟩
  have:=h2 w ax.s_inv.2 ay.s_inv.2
  simp only [execOp,ho,ax.s_inv.1,ay.s_inv.1]
  cases op<;>simp [eqGuard,this]
 ·rename_i a b hx hy
  obtain ⟨hl,h⟩:=h
  have key : ∀ w : World,(Op.equal t (.bool a) (.bool b)).run P w = .ok (decide (a=b)) w:=by
   intro w
   exact eqIn_bool (lay_bool hl) 9999 a b w
  cases op<;>simp only at h<;>first | (exact h.elim) | skip
  ·refine ⟨_,h,?_⟩
   intro hv S F w ρ hob harg
   have ax:=harg x hmx
   have ay:=harg y hmy
   rw [hx] at ax
   rw [hy] at ay
   exact ⟨_,by simp [execOp,ho,ax.b_inv,ay.b_inv,eqGuard,binOp,key],arg_b _⟩
  ·refine ⟨_,h,?_⟩
   intro hv S F w ρ hob harg
   have ax:=harg x hmx
   have ay:=harg y hmy
   rw [hx] at ax
   rw [hy] at ay
   refine ⟨.bool (decide (a≠b)),?_,arg_b _⟩
   simp [execOp,ho,ax.b_inv,ay.b_inv,eqGuard,binOp,key]
 ·rename_i hy
  obtain ⟨hl,h⟩:=h
  obtain ⟨te,hu⟩:=lay_ptr hl
  have key : ∀ (w:World) (x:Option Addr),(Op.equal t (.pointer x) (.pointer none)).run P w = .ok x.isNone w:=fun w x=>eqIn_nil hu 9999 x w
  have main : ∀ (c d:Bool),(op = .eql∧d=c ∨ op = .neq∧d = !c)→((e x = .t .np∧c=true) ∨ ((e x).isPtr=true∧c=false))→K (.t (.b d)) → ∃ r,K r∧Yields1 P ob e o r:=by
   intro c d hop hx hK
   refine ⟨_,hK,?_⟩
   intro hv S F w ρ hob harg
   have ax:=harg x hmx
   have ay:=harg y hmy
   rw [hy] at ay
   obtain ⟨L,fy,_⟩:=ay.t_inv
   simp only [footT] at fy
   obtain ⟨z,hz,hzc⟩ : ∃ z,ρ x = .pointer z∧z.isNone=c:=by
    rcases hx with ⟨hx,rfl⟩ | ⟨hx,rfl⟩
    ·rw [hx] at ax
     obtain ⟨L,fx,_⟩:=ax.t_inv
     simp only [footT] at fx
     exact ⟨none,fx.1,rfl⟩
    ·obtain ⟨b,hb⟩:=isPtr_value hx ax
     exact ⟨some b,hb,rfl⟩
   refine ⟨.bool d,?_,arg_b _⟩
   rcases hop with ⟨rfl,rfl⟩ | ⟨rfl,rfl⟩
   ·simp [execOp,ho,hz,fy.1,eqGuard,binOp,key,hzc]
   ·simp [execOp,ho,hz,fy.1,eqGuard,binOp,key,hzc]
  cases op<;>simp only at h<;>first | (exact h.elim) | skip
  ·rcases h with ⟨h1,h2⟩ | ⟨h1,h2⟩
   ·exact main true true (.inl ⟨rfl,rfl⟩) (.inl ⟨h1,rfl⟩) h2
   ·exact main false false (.inl ⟨rfl,rfl⟩) (.inr ⟨h1,rfl⟩) h2
  ·rcases h with ⟨h1,h2⟩ | ⟨h1,h2⟩
   ·exact main true false (.inr ⟨rfl,rfl⟩) (.inl ⟨h1,rfl⟩) h2
   ·exact main false true (.inr ⟨rfl,rfl⟩) (.inr ⟨h1,rfl⟩) h2
 ·cases h
theorem bnds_run {lo hi:Option Operand} {d:Int} {a b:Int} {ρ:Operand→Value} {hv:Hv} {S:Nat→Prop} {w:World} {n:Nat}
 (ha:lo.map e=none∧a=0 ∨ ∃ k,lo.map e=some (.t (.i k a))) (hb:hi.map e=none∧b=d ∨ ∃ k,hi.map e=some (.t (.i k b)))
 (hlo:∀ x,lo=some x→Arg hv S w n (e x) (ρ x)) (hhi:∀ x,hi=some x→Arg hv S w n (e x) (ρ x)) :
 ((lo.map ρ=none∧a=0) ∨ ∃ k,lo.map ρ=some (.int k a))∧((hi.map ρ=none∧b=d) ∨ ∃ k,hi.map ρ=some (.int k b)):=by
 constructor
 ·rcases ha with ⟨h1,h2⟩ | ⟨k,h1⟩
  ·cases lo<;>simp at h1; exact .inl ⟨rfl,h2⟩
  ·cases lo<;>simp at h1
   rename_i x
   have:=hlo x rfl
   rw [h1] at this
   exact .inr ⟨k,by simp [this.i_inv]⟩
 ·rcases hb with ⟨h1,h2⟩ | ⟨k,h1⟩
  ·cases hi<;>simp at h1; exact .inl ⟨rfl,h2⟩
  ·cases hi<;>simp at h1
   rename_i x
   have:=hhi x rfl
   rw [h1] at this
   exact .inr ⟨k,by simp [this.i_inv]⟩
theorem bounds_run {len cap:Nat} {a b:Int} {lo hi:Option Value} (isS:Bool) (w:World) (h0:0≤a) (h1:a≤b) (h2:b≤len) (hc:len≤cap)
 (ha:(lo=none∧a=0) ∨ ∃ k,lo=some (.int k a)) (hb:(hi=none∧b=len) ∨ ∃ k,hi=some (.int k b)) :
 (Instr.sliceBounds isS len cap lo hi none).run P w = .ok (a.toNat,b.toNat,cap) w:=by
 have eb : ((b.toNat : Nat) : Int)=b:=Int.toNat_of_nonneg (by omega)
 have hbc : b≤(cap:Int):=by omega
 have h0b : 0≤b:=by omega
 rcases ha with ⟨rfl,rfl⟩ | ⟨k,rfl⟩<;>rcases hb with ⟨rfl,rfl⟩ | ⟨k',rfl⟩
 ·simp [Instr.sliceBounds]
 ·simp [Instr.sliceBounds,run_sliceBound,h0b,hbc]
 ·simp [Instr.sliceBounds,run_sliceBound,h0,h1]
 ·simp [Instr.sliceBounds,run_sliceBound,h0b,hbc,eb,h0,h1]
theorem list_take_drop_data (l:List UInt8) (a b:Nat) : (⟨l.toArray⟩ : ByteArray).extract a b=⟨((l.take b).drop a).toArray⟩:=by
 apply ByteArray.ext
 simp only [ByteArray.data_extract]
 apply Array.ext'
 simp only [Array.toList_extract,List.extract_eq_take_drop]
 rw [List.drop_take]
theorem cellsL_drop {m:Nat} : ∀ (l:List Value),(∀ v∈l,v.cells.size=m) → ∀ k,cellsL (l.drop k)=(cellsL l).drop (k * m)
 | [], _, k => by simp [cellsL]
 | x :: l, hl, 0 => by simp
 | x :: l, hl, k + 1 => by
   have hx1 : x.cells.toList.length=m:=by simpa using hl x (List.mem_cons_self ..)
   rw [List.drop_succ_cons,cellsL_drop l (fun v hv=>hl v (List.mem_cons_of_mem _ hv)) k]
   simp only [cellsL,List.flatMap_cons]
   rw [List.drop_append,hx1,List.drop_eq_nil_of_le (as:=x.cells.toList) (by rw [hx1,Nat.succ_mul]; omega),List.nil_append]
   congr 1
   rw [Nat.succ_mul]; omega
theorem cellsL_take {m:Nat} : ∀ (l:List Value),(∀ v∈l,v.cells.size=m) → ∀ k,cellsL (l.take k)=(cellsL l).take (k * m)
 | [], _, k => by simp [cellsL]
 | x :: l, hl, 0 => by simp [cellsL]
 | x :: l, hl, k + 1 => by
   have hx1 : x.cells.toList.length=m:=by simpa using hl x (List.mem_cons_self ..)
   have ih':=cellsL_take l (fun v hv=>hl v (List.mem_cons_of_mem _ hv)) k
   simp only [cellsL,List.take_succ_cons,List.flatMap_cons] at ih' ⊢
   rw [List.take_append,hx1,List.take_of_length_le (l:=x.cells.toList) (by rw [hx1,Nat.succ_mul]; omega),ih']
   congr 2
   rw [Nat.succ_mul]; omega
theorem slice_sound {o:Oper} {t:TypeId} {x:Operand} {lo hi:Option Operand} (ho:o.op = .slice t x lo hi none) (h:vcSlice P t (e x) (lo.map e) (hi.map e) K) : ∃ r,K r∧Yields1 P ob e o r:=by
 have hmx : x∈o.op.operands:=by rw [ho]; simp [Op.operands]
 have hml : ∀ y,lo=some y→y∈o.op.operands:=by rintro y rfl; rw [ho]; simp [Op.operands]
 have hmh : ∀ y,hi=some y→y∈o.op.operands:=by rintro y rfl; rw [ho]; simp [Op.operands]
 have closed : ∀ (k:Kind) (te m:Nat) (es:List T),lay P t = .sli te m→e x=k.look (.sl es)→((∀ y∈es,y.cells.length=m)∧bnd 0 (lo.map e) fun a=>bnd es.length (hi.map e) fun b=>(0≤a∧a≤b∧b≤es.length)∧K (k.look (.sl ((es.take b.toNat).drop a.toNat)))) → ∃ r,K r∧Yields1 P ob e o r:=by
  intro k te m es hl hx ⟨hall,h⟩
  obtain ⟨a,h,ha⟩:=bnd_sound h
  obtain ⟨b,⟨⟨h0,h1,h2⟩,h3⟩,hb⟩:=bnd_sound h
  obtain ⟨hu,hm,inf,hinf⟩:=lay_sli hl
  refine ⟨_,h3,?_⟩
  intro hv S F w ρ hob harg
  have ax:=harg x hmx
  rw [hx] at ax
  obtain ⟨ga,gb⟩:=bnds_run ha hb (fun y hy=>harg y (hml y hy)) (fun y hy=>harg y (hmh y hy))
  obtain ⟨L,fx,hL⟩:=ax.look_inv
  simp only [footT] at fx
  obtain ⟨A,c,e1,hc,hbig,hor⟩:=fx
  have hr:=bounds_run (P:=P) (len:=es.length) (cap:=c) true w h0 h1 h2 hc ga gb
  have hlen : ((es.take b.toNat).drop a.toNat).length=b.toNat - a.toNat:=by simp only [List.length_drop,List.length_take]; omega
  refine ⟨sliced A a.toNat b.toNat c m,?_,?_⟩
  ·have hr2:=run_slice_any (P:=P) (w:=w) t A es.length c (by rw [elem_of hu]; exact hu) (lo.map ρ) (hi.map ρ) none
   rw [hr] at hr2
   simp only [Result.andThen_ok,elem_of hu,run_sizeOf w hinf,hm] at hr2
   simp only [execOp,ho,Sem.run_bind,Option.map_none,run_sliceAt_slice (h:=(show P.underlying t=some (.slice (P.elem t)) by rw [elem_of hu]; exact hu)),e1,hr2,Result.andThen_ok,Sem.run_pure]
  ·rcases hor with ⟨rfl,rfl⟩ | ⟨b',off,vs,L',m',e2,f1,f2,e3,f3⟩
   ·refine look_arg (L:=[]) ?_ (by simp)
    simp only [footT,List.take_nil,List.drop_nil,List.length_nil,sliced]
    exact ⟨_,_,by congr 1; simp at h2; omega,by omega,by omega,.inl ⟨trivial,trivial⟩⟩
   ·subst e2 e3
    by_cases he : (es.take b.toNat).drop a.toNat=[]
    ·refine look_arg (L:=[]) ?_ (by simp)
     rw [he] at hlen ⊢
     simp only [footT,sliced,List.length_nil] at hlen ⊢
     exact ⟨_,_,by rw [← hlen],by omega,by omega,.inl ⟨trivial,trivial⟩⟩
    ·have hab : a.toNat < b.toNat:=by
      rcases Nat.lt_or_ge a.toNat b.toNat with h' | h'
      ·exact h'
      ·exact absurd (List.eq_nil_of_length_eq_zero (by omega)) he
     have hm' : m'=m:=by
      cases hes : es with
      | nil => rw [hes] at he; simp at he
      | cons y ys =>
        rw [hes] at f1 hall
        obtain ⟨u,L2,g1,g2,_⟩:=footTs_get f1 (i:=0) rfl
        have q1:=f2 u (List.mem_of_getElem? g1)
        rw [(footT_cells g2).1,hall y (List.mem_cons_self ..)] at q1
        exact q1.symm
     subst hm'
     obtain ⟨L1,g1,g2⟩:=footTs_take f1 b.toNat
     obtain ⟨L2,g3,g4⟩:=footTs_drop g1 a.toNat
     refine look_arg (L:=b' :: L2) ?_ fun z hz=>?_
     ·simp only [footT,sliced,hlen]
      refine ⟨_,_,rfl,by omega,by omega,.inr ⟨b',off + a.toNat * m',_,L2,m',?_,g3,fun v hv=>f2 v (List.mem_of_mem_take (List.mem_of_mem_drop hv)),rfl,?_,?_⟩⟩
      ·rw [if_neg (by omega)]; simp [add_lit]
      ·intro j v hj
       have hall' : ∀ v∈vs,v.cells.size=m':=f2
       rw [cellsL_drop _ (fun v hv=>hall' v (List.mem_of_mem_take hv)),cellsL_take _ hall',List.getElem?_drop,List.getElem?_take] at hj
       split at hj
       ·have:=f3.1 _ v hj
        rwa [← Nat.add_assoc] at this
       ·cases hj
      ·rw [cellsL_drop _ (fun v hv=>f2 v (List.mem_of_mem_take hv)),cellsL_take _ f2]
       exact fun u hu=>f3.2 u (List.mem_of_mem_take (List.mem_of_mem_drop hu))
     ·rcases List.mem_cons.1 hz with rfl | hz
      ·exact hL _ (List.mem_cons_self ..)
      ·exact hL _ (List.mem_cons_of_mem _ (g2 _ (g4 _ hz)))
 unfold vcSlice at h
 split at h
 ·rename_i l hl hx
  obtain ⟨a,h,ha⟩:=bnd_sound h
  obtain ⟨b,⟨⟨h0,h1,h2⟩,h3⟩,hb⟩:=bnd_sound h
  refine ⟨_,h3,?_⟩
  intro hv S F w ρ hob harg
  have ax:=harg x hmx
  rw [hx] at ax
  obtain ⟨ga,gb⟩:=bnds_run ha hb (fun y hy=>harg y (hml y hy)) (fun y hy=>harg y (hmh y hy))
  have hs : (⟨l.toArray⟩ : ByteArray).size=l.length:=by simp [ByteArray.size]
  refine ⟨.string ⟨((l.take b.toNat).drop a.toNat).toArray⟩,?_,.of (by simp only [footT]; exact ⟨trivial,trivial,by have:=ax.s_inv.2; simp only [List.length_drop,List.length_take]; omega⟩)⟩
  have hr:=bounds_run (P:=P) (len:=l.length) (cap:=l.length) false w h0 h1 h2 (Nat.le_refl _) ga gb
  simp only [execOp,ho,Sem.run_bind,run_sliceAt_string (h:=lay_str hl),ax.s_inv.1,Option.map_none]
  simp only [Instr.slice,Sem.run_bind,run_underlying (lay_str hl),hs,Option.isSome_none,Bool.false_eq_true,if_false,hr,Sem.run_pure,Result.andThen]
  rw [list_take_drop_data l _ _]
 ·rename_i te m es hl hx; exact closed .clo te m es hl hx h
 ·rename_i te m es hl hx; exact closed .bor te m es hl hx h
 ·rename_i te m hl hx
  obtain ⟨a,h,ha⟩:=bnd_sound h
  obtain ⟨b,⟨⟨rfl,rfl⟩,h3⟩,hb⟩:=bnd_sound h
  obtain ⟨hu,hm,inf,hinf⟩:=lay_sli hl
  refine ⟨_,h3,?_⟩
  intro hv S F w ρ hob harg
  have ax:=harg x hmx
  rw [hx] at ax
  obtain ⟨ga,gb⟩:=bnds_run ha hb (fun y hy=>harg y (hml y hy)) (fun y hy=>harg y (hmh y hy))
  obtain ⟨⟨L,fx,hL⟩,_⟩:=ax
  simp only [footA] at fx
  have hr:=bounds_run (P:=P) (len:=0) (cap:=0) true w (Int.le_refl 0) (Int.le_refl 0) (Int.le_refl 0) (Nat.le_refl _) ga gb
  refine ⟨sliced none 0 0 0 m,?_,⟨[],by simp only [footA]; exact ⟨rfl,trivial⟩,by simp⟩,rfl⟩
  have hr2:=run_slice_any (P:=P) (w:=w) t none 0 0 (by rw [elem_of hu]; exact hu) (lo.map ρ) (hi.map ρ) none
  rw [hr] at hr2
  simp only [Result.andThen_ok,elem_of hu,run_sizeOf w hinf,hm] at hr2
  simp only [execOp,ho,Sem.run_bind,Option.map_none,run_sliceAt_slice (h:=(show P.underlying t=some (.slice (P.elem t)) by rw [elem_of hu]; exact hu)),fx.1,hr2,Result.andThen_ok,Sem.run_pure]
  rfl
 ·cases h
theorem slv_sound {o:Oper} {t:TypeId} {x:Operand} {lo hi:Option Operand} (ho:o.op = .slice t x lo hi none) (h:vcSlv P t ob (e x) (lo.map e) (hi.map e) K) : ∃ r,K r∧Yields1 P ob e o r:=by
 have hmx : x∈o.op.operands:=by rw [ho]; simp [Op.operands]
 have hml : ∀ y,lo=some y→y∈o.op.operands:=by rintro y rfl; rw [ho]; simp [Op.operands]
 have hmh : ∀ y,hi=some y→y∈o.op.operands:=by rintro y rfl; rw [ho]; simp [Op.operands]
 have run : ∀ {te m n:Nat} {a b:Int} {A:Option Addr} {c:Nat} {ρ:Operand→Value} {w:World},lay P t = .sli te m→ρ x = .slice A n c→n≤c→0≤a→a≤b→b≤n →
  ((lo.map ρ=none∧a=0) ∨ ∃ k,lo.map ρ=some (.int k a))→((hi.map ρ=none∧b=n) ∨ ∃ k,hi.map ρ=some (.int k b))→(execOp ρ o).run P w = .ok (.value (sliced A a.toNat b.toNat c m)) w:=by
  intro te m n a b A c ρ w hl hx hc h0 h1 h2 ga gb
  obtain ⟨hu,hm,inf,hinf⟩:=lay_sli hl
  have hr:=bounds_run (P:=P) (len:=n) (cap:=c) true w h0 h1 h2 hc ga gb
  have hr2:=run_slice_any (P:=P) (w:=w) t A n c (by rw [elem_of hu]; exact hu) (lo.map ρ) (hi.map ρ) none
  rw [hr] at hr2
  simp only [Result.andThen_ok,elem_of hu,run_sizeOf w hinf,hm] at hr2
  simp only [execOp,ho,Sem.run_bind,Option.map_none,run_sliceAt_slice (h:=(show P.underlying t=some (.slice (P.elem t)) by rw [elem_of hu]; exact hu)),hx,hr2,Result.andThen_ok,Sem.run_pure]
 unfold vcSlv at h
 split at h
 ·rename_i id hx
  split at h
  ·rename_i te m te' m' kd es hl hy
   obtain ⟨rfl,h⟩:=h
   obtain ⟨a,h,ha⟩:=bnd_sound h
   obtain ⟨b,⟨⟨h0,h1,h2⟩,h3⟩,hb⟩:=bnd_sound h
   refine ⟨_,h3,?_⟩
   intro hv S F w ρ hob harg
   have ax:=harg x hmx
   rw [hx] at ax
   obtain ⟨ga,gb⟩:=bnds_run ha hb (fun y hy=>harg y (hml y hy)) (fun y hy=>harg y (hmh y hy))
   obtain ⟨⟨L,fx,hL⟩,hux⟩:=ax
   simp only [footA] at fx
   obtain ⟨vs,k1,_⟩:=hob.ob id _ hy
   rcases k1.2 with ⟨q,q2⟩ | ⟨g,cap,cur,q3,q4,q5,q6,_⟩
   ·refine ⟨_,run hl (fx.1.trans q) (Nat.zero_le _) h0 h1 (by omega) ga (by rcases gb with ⟨g1,g2⟩ | g1; exact .inl ⟨g1,by omega⟩; exact .inr g1),⟨[],?_,by simp⟩,by simpa only [AV.under] using hux⟩
    simp only [footA,sliced]
    exact ⟨.inl ⟨by omega,_,_,by congr 1; omega⟩,trivial⟩
   ·refine ⟨_,run hl (fx.1.trans q3) q6 h0 h1 h2 ga gb,⟨[],?_,by simp⟩,by simpa only [AV.under] using hux⟩
    simp only [footA,sliced]
    by_cases he : b.toNat - a.toNat=0
    ·exact ⟨.inl ⟨he,_,_,by rw [he]⟩,trivial⟩
    ·refine ⟨.inr ⟨g,_,_,cap - a.toNat,q3,?_,by omega,by omega⟩,trivial⟩
     rw [if_neg (by omega)]
     simp [add_lit]
  ·cases h
 ·rename_i id a0 m0 n hx
  split at h
  ·rename_i te m hl
   obtain ⟨rfl,h⟩:=h
   obtain ⟨a,h,ha⟩:=bnd_sound h
   obtain ⟨b,⟨⟨h0,h1,h2⟩,h3⟩,hb⟩:=bnd_sound h
   refine ⟨_,h3,?_⟩
   intro hv S F w ρ hob harg
   have ax:=harg x hmx
   rw [hx] at ax
   obtain ⟨ga,gb⟩:=bnds_run ha hb (fun y hy=>harg y (hml y hy)) (fun y hy=>harg y (hmh y hy))
   obtain ⟨⟨L,fx,hL⟩,hux⟩:=ax
   simp only [footA] at fx
   rcases fx.1 with ⟨rfl,A,c,q⟩ | ⟨b',k,c,c',q1,q2,q3,q4⟩
   ·refine ⟨_,run hl q (Nat.zero_le _) h0 h1 h2 ga gb,⟨[],?_,by simp⟩,by simpa only [AV.under] using hux⟩
    simp only [footA,sliced]
    exact ⟨.inl ⟨by omega,_,_,by congr 1; omega⟩,trivial⟩
   ·refine ⟨_,run hl q2 q4 h0 h1 h2 ga gb,⟨[],?_,by simp⟩,by simpa only [AV.under] using hux⟩
    simp only [footA,sliced]
    by_cases he : b.toNat - a.toNat=0
    ·exact ⟨.inl ⟨he,_,_,by rw [he]⟩,trivial⟩
    ·refine ⟨.inr ⟨b',_,_,c' - a.toNat,q1,?_,by omega,by omega⟩,trivial⟩
     rw [if_neg (by omega)]
     simp [add_lit,Nat.add_mul]
  ·cases h
 ·exact slice_sound ho h
theorem bytes_vals {w:World} : ∀ {es:List T} {l:List UInt8} {vs:List Value} {L:List Nat},bytesOf es=some l→footTs w es vs L → ∃ xs : List Int,vs=xs.map (Value.int .u8)∧l=xs.map fun n=>UInt8.ofNat n.toNat
 | [], l, vs, L, h, hf => by
   simp only [footTs] at hf
   simp only [bytesOf,Option.some.injEq] at h
   exact ⟨[],by simp [hf.1],by simp [← h]⟩
 | x :: es, l, vs, L, h, hf => by
   simp only [footTs] at hf
   obtain ⟨v,vs',L1,L2,rfl,rfl,h1,h2⟩:=hf
   cases x<;>try (simp [bytesOf] at h; done)
   rename_i k n
   cases k<;>try (simp [bytesOf] at h; done)
   simp only [bytesOf] at h
   split at h
   ·rename_i l' hl'
    obtain ⟨xs,rfl,rfl⟩:=bytes_vals hl' h2
    simp only [footT] at h1
    cases h
    exact ⟨n :: xs,by simp [h1.1],rfl⟩
   ·cases h
theorem cellsL_ints (xs:List Int) : cellsL (xs.map (Value.int .u8))=xs.map (Value.int .u8):=by
 induction xs with
 | nil => rfl
 | cons x xs ih =>
   simp only [cellsL,List.map_cons,List.flatMap_cons] at ih ⊢
   rw [ih]
   rfl
theorem convert_bytes {src dst e:TypeId} {w:World} {m:Nat} (hs:lay P src = .sli e m) (he:lay P e = .int .u8) (hd:lay P dst = .str) {A:Option Addr} {n c:Nat} {xs:List Int} (hn:xs.length=n)
 (hA:xs=[] ∨ ∃ b off,A=some ⟨b,off,none⟩∧laid w b off (xs.map (Value.int .u8))) : (convert src dst (.slice A n c)).run P w = .ok (.string ⟨(xs.map fun n=>UInt8.ofNat n.toNat).toArray⟩) w:=by
 obtain ⟨hu,_,_⟩:=lay_sli hs
 have hue:=lay_int he
 have hud:=lay_str hd
 cases A with
 | none =>
   have : xs=[]:=by
    rcases hA with h | ⟨b,off,h,_⟩
    ·exact h
    ·cases h
   subst this
   exact run_convert_bytes_nil w src e hu hue n c dst hud
 | some ad =>
   rcases hA with h | ⟨b,off,h,hl⟩
   ·subst h
    subst hn
    obtain ⟨b,off,sp⟩:=ad
    rw [run_convert_bytes_string w src dst e _ _ c hu hue hud]
    have : (loadCells ⟨b,off,sp⟩ 0).run P w = .ok (([] : List Int).map (Value.int .u8)).toArray w:=by simp [loadCells,loadCellsFrom]
    exact run_bytesToString w _ 0 c [] this
   ·cases h
    exact run_convert_bytes_arg w src e hu hue b off n c xs hn (fun i hi=>by
     have:=hl i (.int .u8 (xs.getD i 0)) (by rw [List.getElem?_map,List.getElem?_eq_getElem (by omega)]; simp [List.getD,List.getElem?_eq_getElem (show i < xs.length by omega)])
     exact this) dst hud
theorem convert_sound {o:Oper} {src dst:TypeId} {x:Operand} (ho:o.op = .convert src dst x) (h:vcConvert P src dst ob (e x) K) : ∃ r,K r∧Yields1 P ob e o r:=by
 have hm : x∈o.op.operands:=by rw [ho]; simp [Op.operands]
 have str : ∀ {l:List UInt8},(∀ {hv:Hv} {S:Nat→Prop} {F:Nat→List Nat} {w:World} {ρ:Operand→Value},Obs ob hv S F w→(∀ y∈o.op.operands,Arg hv S w ob.length (e y) (ρ y))→(convert src dst (ρ x)).run P w = .ok (.string ⟨l.toArray⟩) w∧l.length < Bd.B)→Yields1 P ob e o (.t (.s l)):=by
  intro l hh hv S F w ρ hob harg
  obtain ⟨h1,h2⟩:=hh hob harg
  exact ⟨_,by simp only [execOp,ho,Sem.run_bind,h1,Result.andThen_ok]; rfl,.of (by simp [footT,h2])⟩
 unfold vcConvert at h
 split at h
 ·rename_i k hd
  split at h
  ·rename_i k' n hx
   obtain ⟨hs,hud,h⟩:=h
   refine ⟨_,h,?_⟩
   intro hv S F w ρ hob harg
   have ax:=harg x hm
   rw [hx] at ax
   refine ⟨.int k (k.wrap n),?_,arg_i _ _⟩
   obtain ⟨d,hsd⟩ : ∃ d,P.underlying src=some d:=by
    cases hq : P.underlying src with
    | some d => exact ⟨d,rfl⟩
    | none => exfalso; apply hs; unfold lay; rw [hq]
   simp [execOp,ho,ax.i_inv,convert,run_underlying hsd,run_underlying hud,Conv.intToInt]
  ·cases h
 ·rename_i hd
  split at h
  ·rename_i l hs hx
   refine ⟨_,h,str fun hob harg=>?_⟩
   have ax:=harg x hm
   rw [hx] at ax
   rw [ax.s_inv.1]
   exact ⟨by simp [convert,run_underlying (lay_str hs),run_underlying (lay_str hd)],ax.s_inv.2⟩
  ·rename_i te m es hs hx
   obtain ⟨rfl,he,h⟩:=h
   split at h
   ·rename_i l hl
    refine ⟨_,h,str fun hob harg=>?_⟩
    have ax:=harg x hm
    rw [hx] at ax
    obtain ⟨L,fx,_⟩:=ax.t_inv
    simp only [footT] at fx
    obtain ⟨A,c,e1,_,hB,hA⟩:=fx
    rw [e1]
    rcases hA with ⟨rfl,_⟩ | ⟨b,off,vs,L',m',rfl,f1,_,_,f2,_⟩
    ·simp only [bytesOf,Option.some.injEq] at hl
     subst hl
     exact ⟨convert_bytes hs he hd (xs:=[]) rfl (.inl rfl),hB⟩
    ·obtain ⟨xs,rfl,rfl⟩:=bytes_vals hl f1
     have hlen:=footTs_length f1
     rw [List.length_map] at hlen
     rw [cellsL_ints] at f2
     exact ⟨convert_bytes hs he hd hlen (.inr ⟨b,off,rfl,f2⟩),by rw [List.length_map]; omega⟩
   ·cases h
  ·rename_i te m id hs hx
   obtain ⟨rfl,he,h⟩:=h
   split at h
   ·rename_i e' m' k es hid
    split at h
    ·rename_i l hl
     refine ⟨_,h,str fun hob harg=>?_⟩
     have ax:=harg x hm
     rw [hx] at ax
     obtain ⟨⟨Lx,fx,_⟩,_⟩:=ax
     simp only [footA] at fx
     obtain ⟨vs,hrow,hels,hsz,hB,_⟩:=hob.ob id _ hid
     obtain ⟨L,hf⟩ : ∃ L,footTs _ es vs L:=by
      cases k with
      | own s => obtain ⟨L,a1,_⟩:=hels; obtain ⟨L',b1,_⟩:=ownEs_foot _ _ a1; exact ⟨L',b1⟩
      | clo => obtain ⟨L,a1,_⟩:=hels; exact ⟨L,a1⟩
      | bor => obtain ⟨L,a1,_⟩:=hels; exact ⟨L,a1⟩
     have hlen:=footTs_length hf
     obtain ⟨xs,rfl,rfl⟩:=bytes_vals hl hf
     rw [List.length_map] at hlen
     rw [cellsL_ints] at hrow
     rw [fx.1]
     refine ⟨?_,by rw [List.length_map]; omega⟩
     rcases hrow.2 with ⟨q,q2⟩ | ⟨g,cap,cur,q,_,hg,hnc,hcm,hcs,ht⟩
     ·rw [q]
      exact convert_bytes hs he hd (by omega) (.inl (List.eq_nil_of_length_eq_zero (by omega)))
     ·rw [q]
      refine convert_bytes hs he hd hlen (.inr ⟨g,0,rfl,fun j v hj=>?_⟩)
      have:=hrow.cells (g:=g) (by rw [q]; rfl) j v hj
      rw [add_lit] at this
      exact this
    ·cases h
   ·cases h
  ·cases h
 ·cases h
theorem vcPure_sound {o:Oper} {hv:Hv} {S:Nat→Prop} {F:Nat→List Nat} {w:World} {ρ:Operand→Value} (hob:Obs ob hv S F w)
 (harg:∀ y∈o.op.operands,Arg hv S w ob.length (e y) (ρ y)) (h:vcPure P ob e o.op K) : ∃ r,K r∧Yields1 P ob e o r:=by
 unfold vcPure at h
 split at h
 ·rename_i x ho
  refine ⟨_,h,?_⟩
  intro hv S F w ρ hob harg
  exact ⟨ρ x,by simp [execOp,ho],harg x (by rw [ho]; simp [Op.operands])⟩
 ·rename_i x ho
  refine ⟨_,h,?_⟩
  intro hv S F w ρ hob harg
  exact ⟨ρ x,by simp [execOp,ho],harg x (by rw [ho]; simp [Op.operands])⟩
 ·rename_i c x y ho
  split at h
  ·rename_i b hc
   refine ⟨_,h,?_⟩
   intro hv S F w ρ hob harg
   have ac:=harg c (by rw [ho]; simp [Op.operands])
   rw [hc] at ac
   refine ⟨if b=true then ρ x else ρ y,by cases b<;>simp [execOp,ho,ac.b_inv,asBool],?_⟩
   cases b
   ·exact harg y (by rw [ho]; simp [Op.operands])
   ·exact harg x (by rw [ho]; simp [Op.operands])
  ·cases h
 ·rename_i t x ho; exact load_sound ho h
 ·rename_i x ho
  obtain ⟨h1,h2⟩:=h
  refine ⟨_,h2,?_⟩
  intro hv S F w ρ hob harg
  have ax:=harg x (by rw [ho]; simp [Op.operands])
  refine ⟨ρ x,?_,ax⟩
  rcases notNil_value h1 ax with ⟨a,ha⟩ | ⟨f,a,b,ha⟩<;>simp [execOp,ho,ha]
 ·rename_i op t x y yt ho; exact bin_sound ho h
 ·rename_i op t x ho; exact un_sound ho h
 ·rename_i s x f ho; exact field_sound ho h
 ·rename_i t x i ho; exact index_addr_sound ho h
 ·rename_i t x i ho; exact index_sound ho h
 ·rename_i t x lo hi ho; exact slv_sound ho h
 ·rename_i x i ho; exact extract_sound ho h
 ·rename_i src dst x ho; exact convert_sound ho h
 ·rename_i c ho
  split at h
  ·rename_i x t hc ha ht; exact len_sound ho hc ha ht hob harg h
  ·rename_i x y _ hc ha; exact max_sound ho hc ha h
  ·cases h
 ·cases h
end
end Go.Proofs.YtmgdkkhnjkepiaaGreat.BX
namespace Go.Proofs.YtmgdkkhnjkepiaaGreat.BX
open Nat renaming reduceEqDiff → zA, reduceLT → zB, reduceLeDiff → zC, reduceAdd → zD, reduceMul → zE, reduceSub → zF, reduceBEq → zG
set_option linter.unusedSectionVars false
set_option linter.unusedSimpArgs false
set_option linter.unusedVariables false
open Go Go.RowKit
variable [Bd]
def zeroOf (P:Program) (t:TypeId) : Option Value:=(P.info? t).bind (·.zero)
mutual
def shOf (P:Program) : Nat→TypeId→Sh
 | 0, _ => .leaf
 | n + 1, t => match P.underlying t with
   | some (.slice e) => .sl e (P.cellsOf e) (shOf P n e)
   | some (.struct fs) => .ag (shFs P n (fs.toList.map (·.type)))
   | _ => .leaf
def shFs (P:Program) : Nat→List TypeId→List Sh
 | _, [] => []
 | 0, _ => []
 | n + 1, t :: ts => (match shOf P n t with | .ag ss=>ss | s=>[s]) ++ shFs P n ts
end
def segA (ys:List AV) (off:Nat) (xs:List AV) : List AV:=ys.take off ++ xs ++ ys.drop (off + xs.length)
def allOne : List AV→Bool
 | [] => true
 | x :: xs => x.one && allOne xs
def T.allOne : List T→Bool
 | [] => true
 | x :: xs => x.one && T.allOne xs
mutual
def AV.take (ob:List Ob) : Nat→AV→Option (T × List Nat)
 | _, .t y => some (y,[])
 | _, .ns => some (.sl [],[])
 | n, .ag cs => match takes ob n cs with
   | some (ys, ids) => some (.ag ys,ids)
   | none => none
 | n, .tp cs => match takes ob n cs with
   | some (ys, ids) => some (.tp ys,ids)
   | none => none
 | n, .fn f cs => match takes ob n cs with
   | some (ys, ids) => some (.fn f ys,ids)
   | none => none
 | _, .sr id => match ob[id]? with
   | some (.arr _ _ .bor _) => none
   | some (.arr _ _ _ es) => some (.sl es,[id])
   | _ => none
 | _, .mr id => match ob[id]? with
   | some (.map _ _ .bor _ _ _) => none
   | some (.map _ _ _ ks vs _) => some (.mp ks vs,[id])
   | _ => none
 | n + 1, .rf id off => match ob[id]? with
   | some (.box x) => match x.take ob n with
     | some (y, ids) => some (.po y off,id :: ids)
     | none => none
   | _ => none
 | _, _ => none
def takes (ob:List Ob) : Nat→List AV→Option (List T × List Nat)
 | _, [] => some ([],[])
 | n, x :: xs => match x.take ob n,takes ob n xs with
   | some (y, i), some (ys, i') => some (y :: ys,i ++ i')
   | _, _ => none
end
mutual
def fits : Sh→T→Bool
 | .leaf, x => x.flat
 | .ag ss, .ag xs => fitss ss xs
 | _, _ => false
def fitss : List Sh→List T→Bool
 | [], [] => true
 | s :: ss, x :: xs => fits s x && fitss ss xs
 | _, _ => false
end
def fitsAll (s:Sh) : List T→Bool
 | [] => true
 | x :: xs => fits s x && fitsAll s xs
open Classical in
mutual
noncomputable def AV.own (ob:List Ob) : Sh→AV→Option (T × List Nat)
 | s, .t x => if fits s x=true then some (x,[]) else none
 | .ag ss, .ag cs => match ownsL ob ss cs with
   | some (ys, ids) => some (.ag ys,ids)
   | none => none
 | .sl _ _ _, .ns => some (.sl [],[])
 | .sl e m s, .sr id => match ob[id]? with
   | some (.arr e' m' (.own s') es) => if e'=e∧m'=m∧s'=s then some (.sl es,[id]) else none
   | _ => none
 | _, _ => none
noncomputable def ownsL (ob:List Ob) : List Sh→List AV→Option (List T × List Nat)
 | [], [] => some ([],[])
 | s :: ss, x :: xs => match x.own ob s,ownsL ob ss xs with
   | some (y, i), some (ys, i') => some (y :: ys,i ++ i')
   | _, _ => none
 | _, _ => none
end
noncomputable def ownsA (ob:List Ob) (s:Sh) : List AV→Option (List T × List Nat)
 | [] => some ([],[])
 | x :: xs => match x.own ob s,ownsA ob s xs with
   | some (y, i), some (ys, i') => some (y :: ys,i ++ i')
   | _, _ => none
mutual
def AV.shutB : AV→Option T
 | .t x => some x
 | .bw x => some x
 | .ns => some (.sl [])
 | .ag cs => (shutBs cs).map T.ag
 | .tp cs => (shutBs cs).map T.tp
 | _ => none
def shutBs : List AV→Option (List T)
 | [] => some []
 | x :: xs => match x.shutB with
   | some y => (shutBs xs).map (y :: ·)
   | none => none
end
def nodupB : List Nat→Bool
 | [] => true
 | i :: is => !is.contains i && nodupB is
theorem nodupB_spec : ∀ {l:List Nat},nodupB l=true→l.Nodup
 | [], _ => List.nodup_nil
 | i :: is, h => by
   simp only [nodupB,Bool.and_eq_true,Bool.not_eq_true'] at h
   refine List.nodup_cons.2 ⟨fun hh=>?_,nodupB_spec h.2⟩
   rw [List.contains_iff_mem.2 hh] at h
   cases h.1
noncomputable def mix (ob:List Ob) (k:Kind) (xs:List AV) : Option (List T × List Nat × Kind) :=
 match k with
 | .own s => match ownsA ob s xs with
   | some (ys, ids) => some (ys,ids,.own s)
   | none => match takes ob 5 xs with
     | some (ys, ids) => some (ys,ids,.clo)
     | none => match shutBs xs with
       | some ys => some (ys,[],.bor)
       | none => none
 | .clo => match takes ob 5 xs with
   | some (ys, ids) => some (ys,ids,.clo)
   | none => match shutBs xs with
     | some ys => some (ys,[],.bor)
     | none => none
 | .bor => match shutBs xs with
   | some ys => some (ys,[],.bor)
   | none => none
section
variable {P:Program} {Q:Exit→Act→World→Prop} {w0:Base} {σ:St} {hv:Hv} {S:Nat→Prop} {F:Nat→List Nat} {a:Act} {w:World}
 {K:AV→List Ob→Prop} {next:Value→World→Prop}
theorem ns_foot {v:Value} {L:List Nat} (hf:footA hv w .ns v L) : footT w (.sl []) v []:=by
 simp only [footA] at hf
 simp only [footT]
 have:=Bd.lo
 exact ⟨none,0,by simpa using hf.1,by simp,by simp; omega,.inl ⟨trivial,trivial⟩⟩
mutual
theorem shutB_sound (hS:∀ b,S b→hv.B b) : ∀ (x:AV) {y:T} {v:Value} {L:List Nat},x.shutB=some y→footA hv w x v L→(∀ b∈L,S b) → ∃ L',footT w y v L' ∧ ∀ b∈L',hv.B b
 | .t x, y, v, L, h, hf, hL => by
   simp only [AV.shutB,Option.some.injEq] at h; subst h
   simp only [footA] at hf
   exact ⟨L,hf,fun b hb=>hS b (hL b hb)⟩
 | .bw x, y, v, L, h, hf, hL => by
   simp only [AV.shutB,Option.some.injEq] at h; subst h
   simp only [footA] at hf
   exact hf.1
 | .ns, y, v, L, h, hf, hL => by
   simp only [AV.shutB,Option.some.injEq] at h; subst h
   exact ⟨[],ns_foot hf,by simp⟩
 | .ag cs, y, v, L, h, hf, hL => by
   simp only [AV.shutB,Option.map_eq_some_iff] at h
   obtain ⟨ts,h1,rfl⟩:=h
   simp only [footA] at hf
   obtain ⟨vs,rfl,hf⟩:=hf
   obtain ⟨L',k1,k2⟩:=shutBs_sound hS cs h1 hf hL
   exact ⟨L',by simp only [footT]; exact ⟨vs,rfl,k1⟩,k2⟩
 | .tp cs, y, v, L, h, hf, hL => by
   simp only [AV.shutB,Option.map_eq_some_iff] at h
   obtain ⟨ts,h1,rfl⟩:=h
   simp only [footA] at hf
   obtain ⟨vs,rfl,hf⟩:=hf
   obtain ⟨L',k1,k2⟩:=shutBs_sound hS cs h1 hf hL
   exact ⟨L',by simp only [footT]; exact ⟨vs,rfl,k1⟩,k2⟩
 | .un, _, _, _, h, _, _ | .ud, _, _, _, h, _, _ => by simp [AV.shutB] at h
 | .rf _ _, _, _, _, h, _, _ | .sr _, _, _, _, h, _, _ | .mr _, _, _, _, h, _, _ | .it _, _, _, _, h, _, _ | .fn _ _, _, _, _, h, _, _ | .ra _ _ _ _, _, _, _, h, _, _ | .sv _ _ _ _, _, _, _, h, _, _ => by simp [AV.shutB] at h
theorem shutBs_sound (hS:∀ b,S b→hv.B b) : ∀ (xs:List AV) {ys:List T} {vs:List Value} {L:List Nat},shutBs xs=some ys→footAs hv w xs vs L→(∀ b∈L,S b) → ∃ L',footTs w ys vs L' ∧ ∀ b∈L',hv.B b
 | [], ys, vs, L, h, hf, hL => by
   simp only [shutBs,Option.some.injEq] at h; subst h
   simp only [footAs] at hf
   exact ⟨[],by simp only [footTs]; exact ⟨hf.1,trivial⟩,by simp⟩
 | x :: xs, ys, vs, L, h, hf, hL => by
   simp only [shutBs] at h
   split at h
   ·rename_i y hy
    simp only [Option.map_eq_some_iff] at h
    obtain ⟨zs,h1,rfl⟩:=h
    simp only [footAs] at hf
    obtain ⟨v,vs',L1,L2,rfl,rfl,f1,f2⟩:=hf
    obtain ⟨M1,k1,k2⟩:=shutB_sound hS x hy f1 (fun b hb=>hL b (List.mem_append_left _ hb))
    obtain ⟨M2,k3,k4⟩:=shutBs_sound hS xs h1 f2 (fun b hb=>hL b (List.mem_append_right _ hb))
    exact ⟨M1 ++ M2,by simp only [footTs]; exact ⟨v,vs',M1,M2,rfl,rfl,k1,k3⟩,fun b hb=>(List.mem_append.1 hb).elim (k2 b) (k4 b)⟩
   ·cases h
end
def From (σ:St) (hv:Hv) (S:Nat→Prop) (F:Nat→List Nat) (ids:List Nat) (b:Nat) : Prop :=
 S b ∨ ∃ i∈ids,∃ o,σ.ob[i]? = some o∧o ≠ .dead∧(blkOf (hv i)=some b ∨ (o.owns=true∧b∈F i))
theorem From.left {ids ids':List Nat} {b:Nat} (h:From σ hv S F ids b) : From σ hv S F (ids ++ ids') b:=h.imp (fun h=>h) fun ⟨i,hi,q⟩=>⟨i,List.mem_append_left _ hi,q⟩
theorem From.right {ids ids':List Nat} {b:Nat} (h:From σ hv S F ids' b) : From σ hv S F (ids ++ ids') b:=h.imp (fun h=>h) fun ⟨i,hi,q⟩=>⟨i,List.mem_append_right _ hi,q⟩
theorem els_from {k:Kind} {Fi:List Nat} {es:List T} {vs:List Value} (h:elsR hv S w Fi k es vs) (hk:k ≠ .bor) : ∃ L,footTs w es vs L∧∀ b∈L,S b ∨ (k.isOwn=true∧b∈Fi):=by
 cases k with
 | own s =>
   obtain ⟨L,h1,h2,h3⟩:=h
   obtain ⟨L',k1,k2⟩:=ownEs_foot s es h1
   exact ⟨L',k1,fun b hb=>.inr ⟨rfl,h3 b (k2 b hb)⟩⟩
 | clo =>
   obtain ⟨L,h1,h2⟩:=h
   exact ⟨L,h1,fun b hb=>.inl (h2 b hb)⟩
 | bor => exact absurd rfl hk
mutual
theorem take_sound (hr:Rel w0 σ hv S F a w) : ∀ (n:Nat) (x:AV) {y:T} {ids:List Nat} {v:Value} {L:List Nat},x.take σ.ob n=some (y,ids)→footA hv w x v L→(∀ b∈L,S b) →
 ∃ L',footT w y v L' ∧ ∀ b∈L',From σ hv S F ids b
 | n, .t x, y, ids, v, L, h, hf, hL => by
   simp only [AV.take,Option.some.injEq,Prod.mk.injEq] at h
   obtain ⟨rfl,rfl⟩:=h
   simp only [footA] at hf
   exact ⟨L,hf,fun b hb=>.inl (hL b hb)⟩
 | n, .ns, y, ids, v, L, h, hf, hL => by
   simp only [AV.take,Option.some.injEq,Prod.mk.injEq] at h
   obtain ⟨rfl,rfl⟩:=h
   exact ⟨[],ns_foot hf,by simp⟩
 | n, .sr id, y, ids, v, L, h, hf, hL => by
   simp only [AV.take] at h
   split at h
   ·cases h
   ·rename_i e m k es hk hid
    simp only [Option.some.injEq,Prod.mk.injEq] at h
    obtain ⟨rfl,rfl⟩:=h
    simp only [footA] at hf
    obtain ⟨rfl,_⟩:=hf
    obtain ⟨vs,k1,k2,k3,k4⟩:=hr.ob id _ hid
    obtain ⟨L1,g1,g2⟩:=els_from k2 (fun e=>hk e)
    obtain ⟨L',f1,f2⟩:=row_foot k1 g1 k3 k4
    refine ⟨L',f1,fun b hb=>?_⟩
    rcases f2 with rfl | ⟨g,hg,rfl⟩
    ·cases hb
    ·rcases List.mem_cons.1 hb with rfl | hb
     ·exact .inr ⟨id,by simp,_,hid,by simp,.inl hg⟩
     ·rcases g2 b hb with h | ⟨h1,h2⟩
      ·exact .inl h
      ·exact .inr ⟨id,by simp,_,hid,by simp,.inr ⟨(by cases k<;>first | rfl | cases h1),h2⟩⟩
   ·cases h
 | n, .mr id, y, ids, v, L, h, hf, hL => by
   simp only [AV.take] at h
   split at h
   ·cases h
   ·rename_i kt vt k ks vs p hk hid
    simp only [Option.some.injEq,Prod.mk.injEq] at h
    obtain ⟨rfl,rfl⟩:=h
    simp only [footA] at hf
    obtain ⟨rfl,_⟩:=hf
    obtain ⟨r,es,clock,l,k1,k2,k3,k4⟩:=hr.ob id _ hid
    obtain ⟨L1,g1,g2⟩:=els_from k2 (fun e=>hk e)
    refine ⟨r :: ([] ++ L1),?_,fun b hb=>?_⟩
    ·simp only [footT]
     exact ⟨r,es,clock,l,[],L1,k1.val,k1.heap,⟨k1.perm,k1.born,k1.lt,k1.nodup,k1.small⟩,k1.keys,g1,rfl⟩
    ·rcases List.mem_cons.1 hb with rfl | hb
     ·exact .inr ⟨id,by simp,_,hid,by simp,.inl (by rw [k1.val]; rfl)⟩
     ·rcases g2 b (by simpa using hb) with h | ⟨h1,h2⟩
      ·exact .inl h
      ·exact .inr ⟨id,by simp,_,hid,by simp,.inr ⟨(by cases k<;>first | rfl | cases h1),h2⟩⟩
   ·cases h
 | n, .ag cs, y, ids, v, L, h, hf, hL => by
   simp only [AV.take] at h
   split at h
   ·rename_i ys is hcs
    simp only [Option.some.injEq,Prod.mk.injEq] at h
    obtain ⟨rfl,rfl⟩:=h
    simp only [footA] at hf
    obtain ⟨vs,rfl,hf⟩:=hf
    obtain ⟨L',f1,f2⟩:=takes_sound hr n cs hcs hf hL
    exact ⟨L',by simp only [footT]; exact ⟨vs,rfl,f1⟩,f2⟩
   ·cases h
 | n, .tp cs, y, ids, v, L, h, hf, hL => by
   simp only [AV.take] at h
   split at h
   ·rename_i ys is hcs
    simp only [Option.some.injEq,Prod.mk.injEq] at h
    obtain ⟨rfl,rfl⟩:=h
    simp only [footA] at hf
    obtain ⟨vs,rfl,hf⟩:=hf
    obtain ⟨L',f1,f2⟩:=takes_sound hr n cs hcs hf hL
    exact ⟨L',by simp only [footT]; exact ⟨vs,rfl,f1⟩,f2⟩
   ·cases h
 | n, .fn f cs, y, ids, v, L, h, hf, hL => by
   simp only [AV.take] at h
   split at h
   ·rename_i ys is hcs
    simp only [Option.some.injEq,Prod.mk.injEq] at h
    obtain ⟨rfl,rfl⟩:=h
    simp only [footA] at hf
    obtain ⟨vs,rfl,hf⟩:=hf
    obtain ⟨L',f1,f2⟩:=takes_sound hr n cs hcs hf hL
    exact ⟨L',by simp only [footT]; exact ⟨vs,rfl,f1⟩,f2⟩
   ·cases h
 | n + 1, .rf id off, y, ids, v, L, h, hf, hL => by
   simp only [AV.take] at h
   split at h
   ·rename_i x hid
    split at h
    ·rename_i z is hx
     simp only [Option.some.injEq,Prod.mk.injEq] at h
     obtain ⟨rfl,rfl⟩:=h
     simp only [footA] at hf
     obtain ⟨b,e1,rfl,_⟩:=hf
     obtain ⟨b',te,u,L1,k1,k2,k3,k4⟩:=hr.ob id _ hid
     rw [e1] at k1
     cases k1
     obtain ⟨L',f1,f2⟩:=take_sound hr n x hx k3 k4
     refine ⟨b :: L',by simp only [footT]; exact ⟨b,0,u,L',by rw [Nat.zero_add],f1,rfl,laid_of_heap k2⟩,fun b' hb'=>?_⟩
     rcases List.mem_cons.1 hb' with rfl | hb'
     ·exact .inr ⟨id,by simp,_,hid,by simp,.inl (by rw [e1]; rfl)⟩
     ·exact (f2 b' hb').imp (fun h=>h) fun ⟨i,hi,q⟩=>⟨i,List.mem_cons_of_mem _ hi,q⟩
    ·cases h
   ·cases h
 | 0, .rf _ _, _, _, _, _, h, _, _ => by simp [AV.take] at h
 | _, .un, _, _, _, _, h, _, _ | _, .ud, _, _, _, _, h, _, _ | _, .bw _, _, _, _, _, h, _, _ | _, .it _, _, _, _, _, h, _, _ | _, .ra _ _ _ _, _, _, _, _, h, _, _ | _, .sv _ _ _ _, _, _, _, _, h, _, _ => by simp [AV.take] at h
theorem takes_sound (hr:Rel w0 σ hv S F a w) : ∀ (n:Nat) (xs:List AV) {ys:List T} {ids:List Nat} {vs:List Value} {L:List Nat},takes σ.ob n xs=some (ys,ids)→footAs hv w xs vs L→(∀ b∈L,S b) →
 ∃ L',footTs w ys vs L' ∧ ∀ b∈L',From σ hv S F ids b
 | n, [], ys, ids, vs, L, h, hf, hL => by
   simp only [takes,Option.some.injEq,Prod.mk.injEq] at h
   obtain ⟨rfl,rfl⟩:=h
   simp only [footAs] at hf
   exact ⟨[],by simp only [footTs]; exact ⟨hf.1,trivial⟩,by simp⟩
 | n, x :: xs, ys, ids, vs, L, h, hf, hL => by
   simp only [takes] at h
   split at h
   ·rename_i y i ys' i' h1 h2
    simp only [Option.some.injEq,Prod.mk.injEq] at h
    obtain ⟨rfl,rfl⟩:=h
    simp only [footAs] at hf
    obtain ⟨v,vs',L1,L2,rfl,rfl,f1,f2⟩:=hf
    obtain ⟨M1,g1,t1⟩:=take_sound hr n x h1 f1 (fun b hb=>hL b (List.mem_append_left _ hb))
    obtain ⟨M2,g2,t2⟩:=takes_sound hr n xs h2 f2 (fun b hb=>hL b (List.mem_append_right _ hb))
    exact ⟨M1 ++ M2,by simp only [footTs]; exact ⟨v,vs',M1,M2,rfl,rfl,g1,g2⟩,fun b hb=>(List.mem_append.1 hb).elim (fun h=>(t1 b h).left) (fun h=>(t2 b h).right)⟩
   ·cases h
end
def Mine (σ:St) (hv:Hv) (F:Nat→List Nat) (ids:List Nat) (b:Nat) : Prop :=
 ∃ i∈ids,∃ o,σ.ob[i]? = some o∧o.owns=true∧(blkOf (hv i)=some b ∨ b∈F i)
theorem Mine.left {ids ids':List Nat} {b:Nat} (h:Mine σ hv F ids b) : Mine σ hv F (ids ++ ids') b:=let ⟨i,hi,q⟩:=h; ⟨i,List.mem_append_left _ hi,q⟩
theorem Mine.right {ids ids':List Nat} {b:Nat} (h:Mine σ hv F ids' b) : Mine σ hv F (ids ++ ids') b:=let ⟨i,hi,q⟩:=h; ⟨i,List.mem_append_right _ hi,q⟩
theorem owns_ne_dead {o:Ob} (h:o.owns=true) : o ≠ .dead:=by rintro rfl; cases h
theorem Mine.apart (hr:Rel w0 σ hv S F a w) {ids ids':List Nat} (hn:∀ i∈ids,∀ j∈ids',i≠j) {b:Nat} (h1:Mine σ hv F ids b) (h2:Mine σ hv F ids' b) : False:=by
 obtain ⟨i,hi,oi,q1,q2,q3⟩:=h1
 obtain ⟨j,hj,oj,q4,q5,q6⟩:=h2
 have hne:=hn i hi j hj
 rcases q3 with q3 | q3<;>rcases q6 with q6 | q6
 ·exact hr.sep i j oi oj hne q1 q4 (owns_ne_dead q2) (owns_ne_dead q5) b q3 q6
 ·exact (hr.root i oi q1 (owns_ne_dead q2) b q3).2.2 (hr.fown j oj q4 q5 b q6).2.1
 ·exact (hr.root j oj q4 (owns_ne_dead q5) b q6).2.2 (hr.fown i oi q1 q2 b q3).2.1
 ·exact hr.fsep i j oi oj hne q1 q4 q2 q5 b q3 q6
mutual
theorem fits_own : ∀ (s:Sh) (x:T) {v:Value} {L:List Nat},fits s x=true→footT w x v L→ownT w s x v []
 | .leaf, x, v, L, h, hf => by
   simp only [fits] at h
   simp only [ownT]
   exact ⟨h,(flat_foot x h hf).2 w,trivial⟩
 | .ag ss, .ag xs, v, L, h, hf => by
   simp only [fits] at h
   simp only [footT] at hf
   obtain ⟨vs,rfl,hf⟩:=hf
   simp only [ownT]
   exact ⟨vs,rfl,fitss_own ss xs h hf⟩
 | .sl _ _ _, x, _, _, h, _ => by simp [fits] at h
 | .ag ss, .b _, _, _, h, _ | .ag ss, .i _ _, _, _, h, _ | .ag ss, .s _, _, _, h, _ | .ag ss, .tp _, _, _, h, _ | .ag ss, .sl _, _, _, h, _ | .ag ss, .po _ _, _, _, h, _ | .ag ss, .np, _, _, h, _ | .ag ss, .nm, _, _, h, _ | .ag ss, .ni, _, _, h, _ | .ag ss, .ifc _ _, _, _, h, _ | .ag ss, .mp _ _, _, _, h, _ | .ag ss, .fn _ _, _, _, h, _ => by simp [fits] at h
theorem fitss_own : ∀ (ss:List Sh) (xs:List T) {vs:List Value} {L:List Nat},fitss ss xs=true→footTs w xs vs L→ownTs w ss xs vs []
 | [], [], vs, L, h, hf => by simp only [footTs] at hf; simp only [ownTs]; exact ⟨hf.1,trivial⟩
 | s :: ss, x :: xs, vs, L, h, hf => by
   simp only [fitss,Bool.and_eq_true] at h
   simp only [footTs] at hf
   obtain ⟨v,vs',L1,L2,rfl,rfl,h1,h2⟩:=hf
   simp only [ownTs]
   exact ⟨v,vs',[],[],rfl,rfl,fits_own s x h.1 h1,fitss_own ss xs h.2 h2⟩
 | [], _ :: _, _, _, h, _ => by simp [fitss] at h
 | _ :: _, [], _, _, h, _ => by simp [fitss] at h
end
theorem fitsAll_own {s:Sh} : ∀ {xs:List T} {vs:List Value} {L:List Nat},fitsAll s xs=true→footTs w xs vs L→ownEs w s xs vs []
 | [], vs, L, h, hf => by simp only [footTs] at hf; simp only [ownEs]; exact ⟨hf.1,trivial⟩
 | x :: xs, vs, L, h, hf => by
   simp only [fitsAll,Bool.and_eq_true] at h
   simp only [footTs] at hf
   obtain ⟨v,vs',L1,L2,rfl,rfl,h1,h2⟩:=hf
   simp only [ownEs]
   exact ⟨v,vs',[],[],rfl,rfl,fits_own s x h.1 h1,fitsAll_own h.2 h2⟩
mutual
theorem own_sound (hr:Rel w0 σ hv S F a w) : ∀ (s:Sh) (x:AV) {y:T} {ids:List Nat} {v:Value} {L:List Nat},x.own σ.ob s=some (y,ids)→footA hv w x v L→ids.Nodup →
 ∃ L',ownT w s y v L' ∧ L'.Nodup∧∀ b∈L',Mine σ hv F ids b
 | s, .t x, y, ids, v, L, h, hf, _ => by
   rw [AV.own] at h
   split at h
   ·rename_i hfit
    simp only [Option.some.injEq,Prod.mk.injEq] at h
    obtain ⟨rfl,rfl⟩:=h
    simp only [footA] at hf
    exact ⟨[],fits_own s x hfit hf,by simp,by simp⟩
   ·cases h
 | .ag ss, .ag cs, y, ids, v, L, h, hf, hn => by
   simp only [AV.own] at h
   split at h
   ·rename_i ys is hcs
    simp only [Option.some.injEq,Prod.mk.injEq] at h
    obtain ⟨rfl,rfl⟩:=h
    simp only [footA] at hf
    obtain ⟨vs,rfl,hf⟩:=hf
    obtain ⟨L',f1,f2,f3⟩:=ownsL_sound hr ss cs hcs hf hn
    exact ⟨L',by simp only [ownT]; exact ⟨vs,rfl,f1⟩,f2,f3⟩
   ·cases h
 | .sl e m s, .ns, y, ids, v, L, h, hf, _ => by
   simp only [AV.own,Option.some.injEq,Prod.mk.injEq] at h
   obtain ⟨rfl,rfl⟩:=h
   simp only [footA] at hf
   have:=Bd.lo
   refine ⟨[],?_,by simp,by simp⟩
   simp only [ownT,ownEs]
   exact ⟨[],[],by rw [hf.1]; exact World.ownsRow_nil w 0 e m,⟨rfl,rfl⟩,by simp,⟨by simp; omega,by simp [ones,cellsL]⟩,by rw [hf.1]; rfl⟩
 | .sl e m s, .sr id, y, ids, v, L, h, hf, _ => by
   simp only [AV.own] at h
   split at h
   ·rename_i e' m' s' es hid
    split at h
    ·rename_i hc
     obtain ⟨rfl,rfl,rfl⟩:=hc
     simp only [Option.some.injEq,Prod.mk.injEq] at h
     obtain ⟨rfl,rfl⟩:=h
     simp only [footA] at hf
     obtain ⟨rfl,_⟩:=hf
     obtain ⟨vs,k1,⟨L1,g1,g2,g3⟩,k3,k4⟩:=hr.ob id _ hid
     refine ⟨(blkOf (hv id)).toList ++ L1,by simp only [ownT]; exact ⟨vs,L1,k1,g1,k3,k4,rfl⟩,?_,fun b hb=>⟨id,by simp,_,hid,rfl,?_⟩⟩
     ·refine List.nodup_append.2 ⟨by cases blkOf (hv id)<;>simp,g2,fun b hb b' hb' e=>?_⟩
      subst e
      simp only [Option.mem_toList] at hb
      exact (hr.root id _ hid (by simp) b hb).2.2 (hr.fown id _ hid rfl b (g3 b hb')).2.1
     ·rcases List.mem_append.1 hb with hb | hb
      ·exact .inl (by simpa using hb)
      ·exact .inr (g3 b hb)
    ·cases h
   ·cases h
 | .leaf, .un, _, _, _, _, h, _, _ | .leaf, .ud, _, _, _, _, h, _, _ | .leaf, .ns, _, _, _, _, h, _, _ | .leaf, .bw _, _, _, _, _, h, _, _ | .leaf, .ag _, _, _, _, _, h, _, _ | .leaf, .tp _, _, _, _, _, h, _, _ | .leaf, .rf _ _, _, _, _, _, h, _, _ | .leaf, .ra _ _ _ _, _, _, _, _, h, _, _ | .leaf, .sv _ _ _ _, _, _, _, _, h, _, _ | .leaf, .sr _, _, _, _, _, h, _, _ | .leaf, .mr _, _, _, _, _, h, _, _ | .leaf, .it _, _, _, _, _, h, _, _ | .leaf, .fn _ _, _, _, _, _, h, _, _ => by simp [AV.own] at h
 | .ag _, .un, _, _, _, _, h, _, _ | .ag _, .ud, _, _, _, _, h, _, _ | .ag _, .ns, _, _, _, _, h, _, _ | .ag _, .bw _, _, _, _, _, h, _, _ | .ag _, .tp _, _, _, _, _, h, _, _ | .ag _, .rf _ _, _, _, _, _, h, _, _ | .ag _, .ra _ _ _ _, _, _, _, _, h, _, _ | .ag _, .sv _ _ _ _, _, _, _, _, h, _, _ | .ag _, .sr _, _, _, _, _, h, _, _ | .ag _, .mr _, _, _, _, _, h, _, _ | .ag _, .it _, _, _, _, _, h, _, _ | .ag _, .fn _ _, _, _, _, _, h, _, _ => by simp [AV.own] at h
 | .sl _ _ _, .un, _, _, _, _, h, _, _ | .sl _ _ _, .ud, _, _, _, _, h, _, _ | .sl _ _ _, .bw _, _, _, _, _, h, _, _ | .sl _ _ _, .ag _, _, _, _, _, h, _, _ | .sl _ _ _, .tp _, _, _, _, _, h, _, _ | .sl _ _ _, .rf _ _, _, _, _, _, h, _, _ | .sl _ _ _, .ra _ _ _ _, _, _, _, _, h, _, _ | .sl _ _ _, .sv _ _ _ _, _, _, _, _, h, _, _ | .sl _ _ _, .mr _, _, _, _, _, h, _, _ | .sl _ _ _, .it _, _, _, _, _, h, _, _ | .sl _ _ _, .fn _ _, _, _, _, _, h, _, _ => by simp [AV.own] at h
theorem ownsL_sound (hr:Rel w0 σ hv S F a w) : ∀ (ss:List Sh) (xs:List AV) {ys:List T} {ids:List Nat} {vs:List Value} {L:List Nat},ownsL σ.ob ss xs=some (ys,ids)→footAs hv w xs vs L→ids.Nodup →
 ∃ L',ownTs w ss ys vs L' ∧ L'.Nodup∧∀ b∈L',Mine σ hv F ids b
 | [], [], ys, ids, vs, L, h, hf, _ => by
   simp only [ownsL,Option.some.injEq,Prod.mk.injEq] at h
   obtain ⟨rfl,rfl⟩:=h
   simp only [footAs] at hf
   exact ⟨[],by simp only [ownTs]; exact ⟨hf.1,trivial⟩,by simp,by simp⟩
 | s :: ss, x :: xs, ys, ids, vs, L, h, hf, hn => by
   simp only [ownsL] at h
   split at h
   ·rename_i y i ys' i' h1 h2
    simp only [Option.some.injEq,Prod.mk.injEq] at h
    obtain ⟨rfl,rfl⟩:=h
    simp only [footAs] at hf
    obtain ⟨v,vs',L1,L2,rfl,rfl,f1,f2⟩:=hf
    obtain ⟨hn1,hn2,hn3⟩:=List.nodup_append.1 hn
    obtain ⟨M1,g1,n1,t1⟩:=own_sound hr s x h1 f1 hn1
    obtain ⟨M2,g2,n2,t2⟩:=ownsL_sound hr ss xs h2 f2 hn2
    refine ⟨M1 ++ M2,by simp only [ownTs]; exact ⟨v,vs',M1,M2,rfl,rfl,g1,g2⟩,List.nodup_append.2 ⟨n1,n2,fun b hb b' hb' e=>?_⟩,fun b hb=>(List.mem_append.1 hb).elim (fun h=>(t1 b h).left) (fun h=>(t2 b h).right)⟩
    subst e
    exact Mine.apart hr hn3 (t1 b hb) (t2 b hb')
   ·cases h
 | [], _ :: _, _, _, _, _, h, _, _ => by simp [ownsL] at h
 | _ :: _, [], _, _, _, _, h, _, _ => by simp [ownsL] at h
end
theorem ownsA_sound (hr:Rel w0 σ hv S F a w) (s:Sh) : ∀ (xs:List AV) {ys:List T} {ids:List Nat} {vs:List Value} {L:List Nat},ownsA σ.ob s xs=some (ys,ids)→footAs hv w xs vs L→ids.Nodup →
 ∃ L',ownEs w s ys vs L' ∧ L'.Nodup∧∀ b∈L',Mine σ hv F ids b
 | [], ys, ids, vs, L, h, hf, _ => by
   simp only [ownsA,Option.some.injEq,Prod.mk.injEq] at h
   obtain ⟨rfl,rfl⟩:=h
   simp only [footAs] at hf
   exact ⟨[],by simp only [ownEs]; exact ⟨hf.1,trivial⟩,by simp,by simp⟩
 | x :: xs, ys, ids, vs, L, h, hf, hn => by
   simp only [ownsA] at h
   split at h
   ·rename_i y i ys' i' h1 h2
    simp only [Option.some.injEq,Prod.mk.injEq] at h
    obtain ⟨rfl,rfl⟩:=h
    simp only [footAs] at hf
    obtain ⟨v,vs',L1,L2,rfl,rfl,f1,f2⟩:=hf
    obtain ⟨hn1,hn2,hn3⟩:=List.nodup_append.1 hn
    obtain ⟨M1,g1,n1,t1⟩:=own_sound hr s x h1 f1 hn1
    obtain ⟨M2,g2,n2,t2⟩:=ownsA_sound hr s xs h2 f2 hn2
    refine ⟨M1 ++ M2,by simp only [ownEs]; exact ⟨v,vs',M1,M2,rfl,rfl,g1,g2⟩,List.nodup_append.2 ⟨n1,n2,fun b hb b' hb' e=>?_⟩,fun b hb=>(List.mem_append.1 hb).elim (fun h=>(t1 b h).left) (fun h=>(t2 b h).right)⟩
    subst e
    exact Mine.apart hr hn3 (t1 b hb) (t2 b hb')
   ·cases h
def Free (w0:Base) (ob:List Ob) (hv:Hv) (S:Nat→Prop) (F:Nat→List Nat) (Fi:List Nat) : Prop :=
 ∀ b∈Fi,(w0.M b ∨ w0.heap.size≤b)∧hv.B b∧¬ S b∧∀ (j:Nat) oj,ob[j]? = some oj→oj.owns=true→b ∉ F j
theorem mix_sound (hr:Rel w0 σ hv S F a w) {k k':Kind} {xs:List AV} {ys:List T} {ids:List Nat} {vs:List Value} {L:List Nat} (h:mix σ.ob k xs=some (ys,ids,k')) (hn:ids.Nodup) (hf:footAs hv w xs vs L) (hL:∀ b∈L,S b) :
 ∃ (hv1:Hv) (S1:Nat→Prop),hv1.v=hv.v∧(∀ b,hv.B b→hv1.B b)∧(∀ b,S b→S1 b)∧Rel w0 { σ with ob:=BX.killAll ids σ.ob } hv1 S1 F a w ∧
   ∃ Fi,elsR hv1 S1 w Fi k' ys vs∧(k'.isOwn=true→k'=k∧Free w0 (BX.killAll ids σ.ob) hv1 S1 F Fi∧∀ b,S1 b→S b)∧∀ b,S1 b→From σ hv S F ids b:=by
 have good : ∀ {ys:List T} {ids:List Nat},takes σ.ob 5 xs=some (ys,ids)→ids.Nodup → ∃ (hv1:Hv) (S1:Nat→Prop),hv1.v=hv.v∧(∀ b,hv.B b→hv1.B b)∧(∀ b,S b→S1 b)∧Rel w0 { σ with ob:=BX.killAll ids σ.ob } hv1 S1 F a w ∧
  ∃ Fi,elsR hv1 S1 w Fi .clo ys vs∧(Kind.clo.isOwn=true→Kind.clo=k∧Free w0 (BX.killAll ids σ.ob) hv1 S1 F Fi∧∀ b,S1 b→S b)∧∀ b,S1 b→From σ hv S F ids b:=by
  intro ys ids h hn
  obtain ⟨L',f1,f2⟩:=takes_sound hr 5 xs h hf hL
  obtain ⟨hv1,S1,e1,b1,s1,s2,hr1,s3⟩:=hr.killAll ids hn
  refine ⟨hv1,S1,e1,b1,s1,hr1,[],⟨L',f1,fun b hb=>?_⟩,(fun h=>by cases h),fun b hb=>s3 b hb⟩
  rcases f2 b hb with hb | ⟨i,hi,o,q1,q2,q3⟩
  ·exact s1 b hb
  ·exact s2 i hi o q1 q2 b q3
 have while_ : ∀ {ys:List T},shutBs xs=some ys → ∃ (hv1:Hv) (S1:Nat→Prop),hv1.v=hv.v∧(∀ b,hv.B b→hv1.B b)∧(∀ b,S b→S1 b)∧Rel w0 { σ with ob:=BX.killAll [] σ.ob } hv1 S1 F a w ∧
  ∃ Fi,elsR hv1 S1 w Fi .bor ys vs∧(Kind.bor.isOwn=true→Kind.bor=k∧Free w0 (BX.killAll [] σ.ob) hv1 S1 F Fi∧∀ b,S1 b→S b)∧∀ b,S1 b→From σ hv S F [] b:=by
  intro ys h
  obtain ⟨L',f1,f2⟩:=shutBs_sound hr.SB xs h hf hL
  exact ⟨hv,S,rfl,fun b hb=>hb,fun b hb=>hb,hr,[],⟨L',f1,f2⟩,(fun h=>by cases h),fun b hb=>.inl hb⟩
 have own : ∀ {s:Sh} {ys:List T} {ids:List Nat},k = .own s→ownsA σ.ob s xs=some (ys,ids)→ids.Nodup → ∃ (hv1:Hv) (S1:Nat→Prop),hv1.v=hv.v∧(∀ b,hv.B b→hv1.B b)∧(∀ b,S b→S1 b)∧Rel w0 { σ with ob:=BX.killAll ids σ.ob } hv1 S1 F a w ∧
  ∃ Fi,elsR hv1 S1 w Fi (.own s) ys vs∧((Kind.own s).isOwn=true→Kind.own s=k∧Free w0 (BX.killAll ids σ.ob) hv1 S1 F Fi∧∀ b,S1 b→S b)∧∀ b,S1 b→From σ hv S F ids b:=by
  intro s ys ids hk h hn
  obtain ⟨L',f1,f2,f3⟩:=ownsA_sound hr s xs h hf hn
  have hr1:=hr.dropAll ids
  let B' : Nat→Prop:=fun b=>hv.B b ∨ b∈L'
  have src : ∀ b∈L',(w0.M b ∨ w0.heap.size≤b)∧b < w.heap.size∧¬ S b:=by
   intro b hb
   obtain ⟨i,hi,o,q1,q2,q3⟩:=f3 b hb
   rcases q3 with q3 | q3
   ·obtain ⟨k1,k2,k3⟩:=hr.root i o q1 (owns_ne_dead q2) b q3
    exact ⟨k1,k2,fun hS=>k3 (hr.SB b hS)⟩
   ·obtain ⟨k1,k2,k3⟩:=hr.fown i o q1 q2 b q3
    exact ⟨k1,hr.Blt b k2,k3⟩
  have hr2:=hr1.moreB (B':=B') (fun b hb=>.inl hb) (fun b hb=>hb.elim (hr.Blt b) fun hb=>(src b hb).2.1) (fun b hb=>hb.elim (hr.Bin b) fun hb=>.inr (src b hb).1)
   (fun i oi hi hdi b hb hh=>by
    obtain ⟨hi1,hi2⟩:=killAll_get ids σ.ob i oi hi hdi
    rcases hh with hh | hh
    ·exact (hr.root i oi hi2 hdi b hb).2.2 hh
    ·obtain ⟨j,hj,o,q1,q2,q3⟩:=f3 b hh
     rcases q3 with q3 | q3
     ·exact hr.sep i j oi o (by rintro rfl; exact hi1 hj) hi2 q1 hdi (owns_ne_dead q2) b hb q3
     ·exact (hr.root i oi hi2 hdi b hb).2.2 (hr.fown j o q1 q2 b q3).2.1)
  refine ⟨⟨hv.v,B'⟩,S,rfl,fun b hb=>.inl hb,fun b hb=>hb,hr2,L',⟨L',f1,f2,fun b hb=>hb⟩,fun _=>⟨hk.symm,fun b hb=>⟨(src b hb).1,.inr hb,(src b hb).2.2,fun j oj hj hoj hbj=>?_⟩,fun b hb=>hb⟩,fun b hb=>.inl hb⟩
  obtain ⟨hj1,hj2⟩:=killAll_get ids σ.ob j oj hj (owns_ne_dead hoj)
  obtain ⟨i,hi,o,q1,q2,q3⟩:=f3 b hb
  rcases q3 with q3 | q3
  ·exact (hr.root i o q1 (owns_ne_dead q2) b q3).2.2 (hr.fown j oj hj2 hoj b hbj).2.1
  ·exact hr.fsep i j o oj (by rintro rfl; exact hj1 hi) q1 hj2 q2 hoj b q3 hbj
 unfold mix at h
 split at h
 ·rename_i s
  split at h
  ·rename_i ys' ids' hh
   simp only [Option.some.injEq,Prod.mk.injEq] at h
   obtain ⟨rfl,rfl,rfl⟩:=h
   exact own rfl hh hn
  ·split at h
   ·rename_i ys' ids' hh
    simp only [Option.some.injEq,Prod.mk.injEq] at h
    obtain ⟨rfl,rfl,rfl⟩:=h
    exact good hh hn
   ·split at h
    ·rename_i ys' hh
     simp only [Option.some.injEq,Prod.mk.injEq] at h
     obtain ⟨rfl,rfl,rfl⟩:=h
     exact while_ hh
    ·cases h
 ·split at h
  ·rename_i ys' ids' hh
   simp only [Option.some.injEq,Prod.mk.injEq] at h
   obtain ⟨rfl,rfl,rfl⟩:=h
   exact good hh hn
  ·split at h
   ·rename_i ys' hh
    simp only [Option.some.injEq,Prod.mk.injEq] at h
    obtain ⟨rfl,rfl,rfl⟩:=h
    exact while_ hh
   ·cases h
 ·split at h
  ·rename_i ys' hh
   simp only [Option.some.injEq,Prod.mk.injEq] at h
   obtain ⟨rfl,rfl,rfl⟩:=h
   exact while_ hh
  ·cases h
end
end Go.Proofs.YtmgdkkhnjkepiaaGreat.BX
namespace Go.Proofs.YtmgdkkhnjkepiaaGreat.BX
open Nat renaming reduceEqDiff → zA, reduceLT → zB, reduceLeDiff → zC, reduceAdd → zD, reduceMul → zE, reduceSub → zF, reduceBEq → zG
set_option linter.unusedSectionVars false
set_option linter.unusedSimpArgs false
set_option linter.unusedVariables false
open Go Go.RowKit
variable [Bd]
section
variable {P:Program} {Q:Exit→Act→World→Prop} {w0:Base} {σ:St} {hv:Hv} {S:Nat→Prop} {F:Nat→List Nat} {a:Act} {w:World}
 {K:AV→List Ob→Prop} {next:Value→World→Prop}
theorem blk_of_ownsRow {base:Nat} {e:TypeId} {m n:Nat} {v:Value} {xs:List Value} (h:w.ownsRow base e m v n xs) : ∀ b,blkOf v=some b→base≤b∧b < w.heap.size:=by
 intro b hb
 rcases h.2 with ⟨q,_⟩ | ⟨g,cap,cur,q,hg,hh,_⟩
 ·rw [q] at hb; cases hb
 ·rw [q] at hb
  cases hb
  exact ⟨hg,heap_lt hh⟩
theorem box_sound {o:Oper} {t:TypeId} {x:Operand} (ho:o.op = .box t x) (hr:Rel w0 σ hv S F a w) (h:K (.rf σ.ob.length 0) (σ.ob ++ [.box (σ.opd x)]))
 (hn:Ans w0 σ a K next) : Does P Q o a w next:=by
 obtain ⟨⟨L,fx,hL⟩,hux⟩:=hr.arg x
 have g:=Grew.alloc w (.cells (a.eval x).cells t)
 refine does_value (v:=.pointer (some ⟨w.heap.size,0,none⟩)) (w':=w.alloc (.cells (a.eval x).cells t)) (by simp [execOp,ho,Instr.box,newVar,newRow]) ?_
 obtain ⟨hv',_,h1,h2,h3⟩:=hr.new g (o:=.box (σ.opd x)) (v:=.pointer (some ⟨w.heap.size,0,none⟩)) (Fi:=[])
  (by intro b hb; simp [blkOf] at hb; subst hb; exact ⟨Nat.le_refl _,by simp⟩) (by simpa [Ob.under] using hux) rfl (by simp) (by simp) (by
   intro hv' hB he hn'
   refine ⟨w.heap.size,t,a.eval x,L,rfl,heap_alloc_new w _,footA_hv hB he _ _ L hux (footA_mono (fun b hb=>g.block b (hr.Blt b hb)) _ _ L (fun b hb=>g.block b (hr.Slt b (hL b hb))) fx),fun b hb=>.inl (hL b hb)⟩)
 exact hn _ _ _ _ hv' _ _ [] h h3 (by simp only [footA]; exact ⟨w.heap.size,h2,rfl,trivial⟩) (by simp) (by simp [AV.under])
theorem alloc_sound {o:Oper} {t:TypeId} (ho:o.op = .alloc t) (hr:Rel w0 σ hv S F a w) {z:Value} (hz:zeroOf P t=some z) (h:K (.rf σ.ob.length 0) (σ.ob ++ [.box (ofV z)]))
 (hn:Ans w0 σ a K next) : Does P Q o a w next:=by
 have g:=Grew.alloc w (.cells z.cells t)
 have hzr : (zeroValue t).run P w = .ok z w:=by
  unfold zeroOf at hz
  cases hi : P.info? t with
  | none => simp [hi] at hz
  | some i => simp [hi] at hz; simp [zeroValue,typeInfo,hi,hz]
 refine does_value (v:=.pointer (some ⟨w.heap.size,0,none⟩)) (w':=w.alloc (.cells z.cells t)) (by simp [execOp,ho,Instr.alloc,newVar,newRow,hzr]) ?_
 obtain ⟨hv',_,h1,h2,h3⟩:=hr.new g (o:=.box (ofV z)) (v:=.pointer (some ⟨w.heap.size,0,none⟩)) (Fi:=[])
  (by intro b hb; simp [blkOf] at hb; subst hb; exact ⟨Nat.le_refl _,by simp⟩) (by simpa [Ob.under] using ofV_under _ z) rfl (by simp) (by simp) (by
   intro hv' hB he hn'
   exact ⟨w.heap.size,t,z,[],rfl,heap_alloc_new w _,ofV_foot _ _ z,by simp⟩)
 exact hn _ _ _ _ hv' _ _ [] h h3 (by simp only [footA]; exact ⟨w.heap.size,h2,rfl,trivial⟩) (by simp) (by simp [AV.under])
theorem T.one_value {x:T} {v:Value} {L:List Nat} (h:x.one=true) (hf:footT w x v L) : v.oneCell'=true:=by
 cases x with
 | ag cs => simp [T.one] at h
 | tp cs => simp [T.one] at h
 | b x => simp only [footT] at hf; rw [hf.1]; rfl
 | i k x => simp only [footT] at hf; rw [hf.1]; rfl
 | s x => simp only [footT] at hf; rw [hf.1]; rfl
 | np => simp only [footT] at hf; rw [hf.1]; rfl
 | nm => simp only [footT] at hf; rw [hf.1]; rfl
 | ni => simp only [footT] at hf; rw [hf.1]; rfl
 | sl es => simp only [footT] at hf; obtain ⟨A,c,e,_⟩:=hf; rw [e]; rfl
 | po y off => simp only [footT] at hf; obtain ⟨b,o,u,L',e,_⟩:=hf; rw [e]; rfl
 | ifc t y => simp only [footT] at hf; obtain ⟨u,e,_⟩:=hf; rw [e]; rfl
 | mp ks vs => simp only [footT] at hf; obtain ⟨r,es,c,l,L1,L2,e,_⟩:=hf; rw [e]; rfl
 | fn f cs => simp only [footT] at hf; obtain ⟨vs,e,_⟩:=hf; rw [e]; exact fnVal_one _ _
theorem one_value {x:AV} {v:Value} {L:List Nat} (hone:∀ id,(hv id).oneCell'=true) (h:x.one=true) (hf:footA hv w x v L) : v.oneCell'=true:=by
 cases x with
 | un => simp [AV.one] at h
 | ud => simp [AV.one] at h
 | ag cs => simp [AV.one] at h
 | tp cs => simp [AV.one] at h
 | ns => simp only [footA] at hf; rw [hf.1]; rfl
 | rf id off => simp only [footA] at hf; obtain ⟨b,_,e,_⟩:=hf; rw [e]; rfl
 | ra id i m off => simp only [footA] at hf; obtain ⟨b,n,c,_,e,_⟩:=hf; rw [e]; rfl
 | sv id a m n => simp only [footA] at hf; rcases hf.1 with ⟨_,A,c,e⟩ | ⟨b,k,c,c',_,e,_⟩<;>(rw [e]; rfl)
 | sr id => simp only [footA] at hf; rw [hf.1]; exact hone id
 | mr id => simp only [footA] at hf; rw [hf.1]; exact hone id
 | it id => simp only [footA] at hf; rw [hf.1]; exact hone id
 | fn f cs => simp only [footA] at hf; obtain ⟨vs,e,_⟩:=hf; rw [e]; exact fnVal_one _ _
 | t y => simp only [footA] at hf; exact T.one_value h hf
 | bw y => simp only [footA] at hf; obtain ⟨⟨L',hf,_⟩,_⟩:=hf; exact T.one_value h hf
theorem allOne_mem {xs:List AV} (h:allOne xs=true) {x:AV} (hx:x∈xs) : x.one=true:=by
 induction xs with
 | nil => cases hx
 | cons y ys ih =>
   simp only [allOne,Bool.and_eq_true] at h
   rcases List.mem_cons.1 hx with rfl | hx
   ·exact h.1
   ·exact ih h.2 hx
theorem cells_one {hv:Hv} {w:World} {x:AV} {v:Value} {L:List Nat} (hone:∀ id,(hv id).oneCell'=true) (h:allOne x.cells=true) (hk:x ≠ .un) (hf:footA hv w x v L) : ∀ u∈v.cells.toList,u.oneCell'=true:=by
 obtain ⟨h1,h2⟩:=footA_cells hf hk hone
 intro u hu
 obtain ⟨j,hj,hju⟩:=List.getElem_of_mem hu
 have hj' : j < x.cells.length:=by rw [← h1]; simpa using hj
 obtain ⟨u',L',q1,q2,_⟩:=h2 j x.cells[j] (List.getElem?_eq_getElem hj')
 have : u'=u:=by
  have : v.cells[j]? = some u:=by rw [← hju]; simp
  rw [this] at q1; exact (Option.some.inj q1).symm
 subst this
 exact one_value hone (allOne_mem h (List.getElem_mem _)) q2
theorem run_storeVar_at {t:TypeId} {g off:Nat} {te:TypeId} {cur:Array Value} {v:Value} {inf:TypeInfo} (hi:P.info? t=some inf) (hg:w.heap[g]? = some (.cells cur te (0,0))) (hs:P.cellsOf t=v.cells.size)
 (hl:off + v.cells.size≤cur.size) (h1:∀ u∈v.cells.toList,u.oneCell'=true) :
 (storeVar t ⟨g,off,none⟩ v).run P w = .ok () (w.setRow g (cur.toList.take off ++ v.cells.toList ++ cur.toList.drop (off + v.cells.size)).toArray):=by
 have:=run_storeCells_at P g off te v.cells.toList 0 cur w hg (by simpa using hl) h1
 simp only [storeVar,Sem.run_bind,run_sizeOf w hi,Result.andThen_ok,hs,ne_eq,not_true_eq_false,if_false,this]
 simp
theorem info_of_cellsOf {t:TypeId} (h:P.cellsOf t≠0) : ∃ inf,P.info? t=some inf:=by
 cases hi : P.info? t with
 | none => simp [Program.cellsOf,hi] at h
 | some i => exact ⟨i,rfl⟩
theorem heap_setRow_ne {g k:Nat} {cs:Array Value} (h:k≠g) : (w.setRow g cs).heap[k]? = w.heap[k]?:=setRow_other w g k cs h
theorem store_box_sound {o:Oper} {t:TypeId} {p x:Operand} {id off:Nat} {y:AV} (ho:o.op = .store t p x) (hr:Rel w0 σ hv S F a w) (hp:σ.opd p = .rf id off) (hy:σ.ob[id]? = some (.box y)) (hky:y ≠ .un)
 (hkx:σ.opd x ≠ .un) (h1:allOne (σ.opd x).cells=true) (hs:P.cellsOf t=(σ.opd x).cells.length) (hl:off + (σ.opd x).cells.length≤y.cells.length) (hne:(σ.opd x).cells.length≠0)
 (h:K .ud (σ.ob.set id (.box (if off=0∧y.cells.length=(σ.opd x).cells.length∧(σ.opd x).isAg=y.isAg then σ.opd x else .ag (segA y.cells off (σ.opd x).cells)))))
 (hn:Ans w0 σ a K next) : Does P Q o a w next:=by
 obtain ⟨⟨L,fx,hL⟩,hux⟩:=hr.arg x
 obtain ⟨⟨Lp,fp,_⟩,hup⟩:=hr.arg p
 rw [hp] at fp hup
 simp only [footA] at fp
 obtain ⟨b,e1,e2,_⟩:=fp
 obtain ⟨b',te,u,Lu,k1,k2,k3,k4⟩:=hr.ob id _ hy
 rw [e1] at k1
 cases k1
 obtain ⟨inf,hinf⟩:=info_of_cellsOf (P:=P) (t:=t) (by rw [hs]; exact hne)
 obtain ⟨c1,c2⟩:=footA_cells fx hkx hr.one
 obtain ⟨d1,d2⟩:=footA_cells k3 hky hr.one
 have hrun:=run_storeVar_at (P:=P) (w:=w) (off:=off) hinf k2 (by rw [hs,c1]) (by rw [c1,d1]; exact hl) (cells_one hr.one h1 hkx fx)
 obtain ⟨W,hW⟩ : ∃ W,W=w.setRow b (u.cells.toList.take off ++ (a.eval x).cells.toList ++ u.cells.toList.drop (off + (a.eval x).cells.size)).toArray:=⟨_,rfl⟩
 rw [← hW] at hrun
 refine does_skip (w':=W) (by simp [execOp,ho,e2,Instr.storeAt,Instr.sureAddr,hrun]) ?_
 clear hrun
 subst hW
 generalize hx' : σ.opd x=X at *
 generalize hv' : a.eval x=V at *
 have hold : (u.cells.toList.take off ++ V.cells.toList ++ u.cells.toList.drop (off + V.cells.size)).length=y.cells.length:=by
  simp only [List.length_append,List.length_take,List.length_drop,Array.length_toList,d1,c1]; omega
 have hru : ∀ o',ObR hv S (w.setRow b (u.cells.toList.take off ++ V.cells.toList ++ u.cells.toList.drop (off + V.cells.size)).toArray) (F id) (hv id) (.box o')→o'.under σ.ob.length=true →
  Rel w0 { σ with ob:=σ.ob.set id (.box o') } hv S F a (w.setRow b (u.cells.toList.take off ++ V.cells.toList ++ u.cells.toList.drop (off + V.cells.size)).toArray):=by
  intro o' h1 h2
  exact hr.write hy (by simp) (fun k hk=>heap_setRow_ne (by rw [e1] at hk; simp [blkOf] at hk; exact fun e=>hk e.symm)) (by simp) rfl rfl rfl (Nat.le_refl _) (by simpa [Ob.under] using h2) h1 (by intro hh; cases hh)
 have hBb : ∀ b',hv.B b'→(w.setRow b (u.cells.toList.take off ++ V.cells.toList ++ u.cells.toList.drop (off + V.cells.size)).toArray).heap[b']? = w.heap[b']?:=fun b' hb' =>
  heap_setRow_ne (fun e=>(hr.root id _ hy (by simp) b (by rw [e1]; rfl)).2.2 (e ▸ hb'))
 have hSb : ∀ b',S b'→(w.setRow b (u.cells.toList.take off ++ V.cells.toList ++ u.cells.toList.drop (off + V.cells.size)).toArray).heap[b']? = w.heap[b']?:=fun b' hb' =>
  hBb b' (hr.SB b' hb')
 have huy:=hr.uob id _ hy
 simp only [Ob.under] at huy
 refine hn _ _ _ _ hv S F [] h (hru _ ?_ ?_) (by simp [footA]) (by simp) rfl
 ·split
  ·rename_i hc
   obtain ⟨rfl,hc2,hc3⟩:=hc
   refine ⟨b,te,V,L,e1,?_,footA_mono hBb _ _ L (fun b' hb'=>hSb b' (hL b' hb')) fx,hL⟩
   rw [setRow_heap w b _ _ te _ k2]
   congr 2
   apply Array.ext'
   simp only [List.take_zero,List.nil_append,Nat.zero_add,List.toList_toArray]
   rw [List.drop_eq_nil_of_le (by simp [c1,d1,hc2]),List.append_nil]
  ·obtain ⟨L2,q1,q2⟩:=footAs_of_cells (hv:=hv) (w:=w) (segA y.cells off X.cells) (u.cells.toList.take off ++ V.cells.toList ++ u.cells.toList.drop (off + V.cells.size)) (Lu ++ L) (by
    rw [hold]; simp only [segA,List.length_append,List.length_take,List.length_drop]; omega) (fun j z hz=>by
    simp only [segA,List.append_assoc] at hz ⊢
    rw [List.getElem?_append] at hz ⊢
    simp only [List.length_take,Array.length_toList,d1] at hz ⊢
    split at hz
    ·rename_i hj
     rw [List.getElem?_take] at hz
     split at hz
     ·obtain ⟨u',L',g1,g2,g3⟩:=d2 j z hz
      refine ⟨u',L',?_,g2,fun b' hb'=>List.mem_append_left _ (g3 b' hb')⟩
      rw [if_pos hj,List.getElem?_take,if_pos (by assumption)]
      simpa using g1
     ·cases hz
    ·rename_i hj
     rw [if_neg hj]
     rw [List.getElem?_append] at hz ⊢
     simp only [Array.length_toList,c1] at hz ⊢
     split at hz
     ·rename_i hj2
      obtain ⟨u',L',g1,g2,g3⟩:=c2 _ z hz
      refine ⟨u',L',?_,g2,fun b' hb'=>List.mem_append_right _ (g3 b' hb')⟩
      rw [if_pos hj2]
      simpa using g1
     ·rename_i hj2
      rw [List.getElem?_drop] at hz
      obtain ⟨u',L',g1,g2,g3⟩:=d2 _ z hz
      refine ⟨u',L',?_,g2,fun b' hb'=>List.mem_append_left _ (g3 b' hb')⟩
      rw [if_neg hj2,List.getElem?_drop]
      simpa using g1)
   refine ⟨b,te,.agg (u.cells.toList.take off ++ V.cells.toList ++ u.cells.toList.drop (off + V.cells.size)).toArray,L2,e1,?_,?_,?_⟩
   ·rw [setRow_heap w b _ _ te _ k2]; rfl
   ·refine footA_mono hBb _ _ L2 (fun b' hb'=>hSb b' ?_) (by simp only [footA]; exact ⟨_,rfl,q1⟩)
    rcases List.mem_append.1 (q2 b' hb') with h' | h'
    ·exact k4 b' h'
    ·exact hL b' h'
   ·intro b' hb'
    rcases List.mem_append.1 (q2 b' hb') with h' | h'
    ·exact k4 b' h'
    ·exact hL b' h'
 ·split
  ·exact hux
  ·simp only [AV.under]
   refine unders_of fun z hz=>?_
   simp only [segA,List.mem_append] at hz
   rcases hz with (hz | hz) | hz
   ·exact AV.under_cells huy z (List.mem_of_mem_take hz)
   ·exact AV.under_cells hux z hz
   ·exact AV.under_cells huy z (List.mem_of_mem_drop hz)
end
end Go.Proofs.YtmgdkkhnjkepiaaGreat.BX