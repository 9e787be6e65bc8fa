/-
  Part 3 of what LFnExactPowerOrder leans on: its texts, merged by a program (prune.py), with what it needs alone.
-/
import Derived.Test.YtmgdkkhnjkepiaaGreatQ2
import Derived.Maps.RangeRun
import Derived.Laws.Build
namespace Go.Proofs.YtmgdkkhnjkepiaaGreat.BX
open Nat renaming reduceEqDiff → zA, reduceLT → zB, reduceLeDiff → zC, reduceAdd → zD, reduceMul → zE, reduceSub → zF, reduceBEq → zG
set_option linter.unusedSectionVars false
set_option linter.unusedSimpArgs false
set_option linter.unusedVariables false
open Go Go.RowKit
variable [Bd]
section
variable {P:Program} {w:World}
theorem same_cell {t:TypeId} {l:Lay} (ht:keyTy P t=some l) {x y:T} {u v:Value} {L M:List Nat} (hx:keyCell l x) (hy:keyCell l y) (fx:footT w x u L) (fy:footT w y v M) :
 ∃ d,P.underlying t=some d∧Instr.sameNow d u v=some (@decide (x=y) (Classical.propDecidable _)):=by
 rcases keyTy_spec ht with ⟨k,rfl,hu⟩ | ⟨rfl,hu⟩ | ⟨rfl,hu⟩
 ·rcases keyCell_val hx fx with ⟨k1,n1,e1,rfl,rfl⟩ | ⟨_,e1,_⟩ | ⟨_,e1,_⟩<;>cases e1
  rcases keyCell_val hy fy with ⟨k2,n2,e2,rfl,rfl⟩ | ⟨_,e2,_⟩ | ⟨_,e2,_⟩<;>cases e2
  refine ⟨_,hu,?_⟩
  simp only [Instr.sameNow,if_true]
  congr 1
  rw [Bool.eq_iff_iff]; simp
 ·rcases keyCell_val hx fx with ⟨k1,n1,e1,_⟩ | ⟨b1,e1,rfl,rfl⟩ | ⟨_,e1,_⟩<;>cases e1
  rcases keyCell_val hy fy with ⟨k2,n2,e2,_⟩ | ⟨b2,e2,rfl,rfl⟩ | ⟨_,e2,_⟩<;>cases e2
  refine ⟨_,hu,?_⟩
  simp only [Instr.sameNow]
  congr 1
  rw [Bool.eq_iff_iff]; simp
 ·rcases keyCell_val hx fx with ⟨k1,n1,e1,_⟩ | ⟨_,e1,_⟩ | ⟨s1,e1,rfl,rfl⟩<;>cases e1
  rcases keyCell_val hy fy with ⟨k2,n2,e2,_⟩ | ⟨_,e2,_⟩ | ⟨s2,e2,rfl,rfl⟩<;>cases e2
  refine ⟨_,hu,?_⟩
  simp only [Instr.sameNow]
  rw [beq_toListBytes,str_inj]
  congr 1
  rw [Bool.eq_iff_iff]; simp
open Classical in
noncomputable def placeT (x:T) : List T→Nat→Option Nat
 | [], _ => none
 | y :: ys, i => if x=y then some i else placeT x ys (i + 1)
theorem placeT_none {x:T} : ∀ {ys:List T} {i:Nat},x ∉ ys→placeT x ys i=none
 | [], _, _ => rfl
 | y :: ys, i, h => by
   simp only [List.mem_cons,not_or] at h
   rw [placeT,if_neg h.1,placeT_none h.2]
theorem placeT_some {x:T} : ∀ {ys:List T} {i j:Nat},ys.Nodup→ys[j]? = some x→placeT x ys i=some (i + j)
 | [], _, _, _, h => by simp at h
 | y :: ys, i, 0, _, h => by
   simp only [List.getElem?_cons_zero,Option.some.injEq] at h
   rw [placeT,if_pos h.symm]; rfl
 | y :: ys, i, j + 1, hn, h => by
   simp only [List.getElem?_cons_succ] at h
   obtain ⟨h1,h2⟩:=List.nodup_cons.1 hn
   rw [placeT,if_neg (by rintro rfl; exact h1 (List.mem_of_getElem? h)),placeT_some h2 h]
   congr 1; omega
theorem findNow_run {t:TypeId} {l:Lay} {d:TypeDesc} (ht:keyTy P t=some l) (hd:P.underlying t=some d) {x:T} {v:Value} (hx:keyCell l x) (fx:footT w x v []) : ∀ (ks:List T) (es:List MapEntry) (i:Nat) (L:List Nat),(∀ y∈ks,keyCell l y)→footTs w ks (es.map (·.key)) L →
 Instr.findNow d v es i=some ((placeT x ks i).bind fun j=>(es[j - i]?).map fun e=>(j,e.val))
 | [], es, i, L, _, hf => by
   simp only [footTs,List.map_eq_nil_iff] at hf
   rw [hf.1]; rfl
 | y :: ks, [], i, L, _, hf => by
   simp only [footTs] at hf
   obtain ⟨v,vs',L1,L2,e,_⟩:=hf
   simp at e
 | y :: ks, e :: es, i, L, hk, hf => by
   simp only [List.map_cons,footTs] at hf
   obtain ⟨v',vs',L1,L2,e1,_,f1,f2⟩:=hf
   simp only [List.cons.injEq] at e1
   obtain ⟨rfl,rfl⟩:=e1
   obtain ⟨d',hd',hs⟩:=same_cell ht hx (hk y (List.mem_cons_self ..)) fx f1
   rw [hd] at hd'
   cases hd'
   simp only [Instr.findNow,hs]
   by_cases hxy : x=y
   ·rw [placeT,if_pos hxy,@decide_eq_true _ (Classical.propDecidable _) hxy]
    simp
   ·rw [placeT,if_neg hxy,@decide_eq_false _ (Classical.propDecidable _) hxy]
    simp only
    rw [findNow_run ht hd hx fx ks es (i + 1) L2 (fun y hy=>hk y (List.mem_cons_of_mem _ hy)) f2]
    congr 1
    have hge : ∀ {ks:List T} {i j:Nat},placeT x ks i=some j→i≤j:=by
     intro ks
     induction ks with
     | nil => intro i j h; cases h
     | cons z zs ih =>
       intro i j h
       rw [placeT] at h
       split at h
       ·simp only [Option.some.injEq] at h; omega
       ·have:=ih h; omega
    cases hp : placeT x ks (i + 1) with
    | none => rfl
    | some j =>
      have:=hge hp
      simp only [Option.bind_some]
      rw [show j - i=(j - (i + 1)) + 1 by omega,List.getElem?_cons_succ]
theorem findAsk_run {t:TypeId} {s:Bool × List Lay} (hs:keyLay P t=some s) {x:T} {v:Value} (hx:isKey s x) (fx:footT w x v []) (W:World) : ∀ (ks:List T) (es:List MapEntry) (i:Nat) (L:List Nat),(∀ y∈ks,isKey s y)→footTs w ks (es.map (·.key)) L →
 (Instr.findAsking t v es i).run P W = .ok ((placeT x ks i).bind fun j=>(es[j - i]?).map fun e=>(j,e.val)) W
 | [], es, i, L, _, hf => by
   simp only [footTs,List.map_eq_nil_iff] at hf
   rw [hf.1]; simp [Instr.findAsking,placeT]
 | y :: ks, [], i, L, _, hf => by
   simp only [footTs] at hf
   obtain ⟨v,vs',L1,L2,e,_⟩:=hf
   simp at e
 | y :: ks, e :: es, i, L, hk, hf => by
   simp only [List.map_cons,footTs] at hf
   obtain ⟨v',vs',L1,L2,e1,_,f1,f2⟩:=hf
   simp only [List.cons.injEq] at e1
   obtain ⟨rfl,rfl⟩:=e1
   have heq:=eq_key hs hx (hk y (List.mem_cons_self ..)) fx f1 W
   simp only [Instr.findAsking,Sem.run_bind,heq,Result.andThen_ok]
   by_cases hxy : x=y
   ·rw [placeT,if_pos hxy,@decide_eq_true _ (Classical.propDecidable _) hxy]
    simp
   ·rw [placeT,if_neg hxy,@decide_eq_false _ (Classical.propDecidable _) hxy]
    simp only [Bool.false_eq_true,if_false]
    rw [findAsk_run hs hx fx W ks es (i + 1) L2 (fun y hy=>hk y (List.mem_cons_of_mem _ hy)) f2]
    congr 1
    have hge : ∀ {ks:List T} {i j:Nat},placeT x ks i=some j→i≤j:=by
     intro ks
     induction ks with
     | nil => intro i j h; cases h
     | cons z zs ih =>
       intro i j h
       rw [placeT] at h
       split at h
       ·simp only [Option.some.injEq] at h; omega
       ·have:=ih h; omega
    cases hp : placeT x ks (i + 1) with
    | none => rfl
    | some j =>
      have:=hge hp
      simp only [Option.bind_some]
      rw [show j - i=(j - (i + 1)) + 1 by omega,List.getElem?_cons_succ]
theorem findKey_run {t:TypeId} {s:Bool × List Lay} (hs:keyLay P t=some s) {x:T} {v:Value} (hx:isKey s x) (fx:footT w x v []) (W:World) {ks:List T} {es:List MapEntry} {L:List Nat} (hk:∀ y∈ks,isKey s y) (hf:footTs w ks (es.map (·.key)) L) :
 (Instr.findKey t v es).run P W = .ok ((placeT x ks 0).bind fun j=>(es[j]?).map fun e=>(j,e.val)) W:=by
 have hs':=hs
 unfold keyLay at hs'
 split at hs'
 ·rename_i fs hu
  rw [run_findKey_eq W (by simp [hu]),findAsk_run hs hx fx W ks es 0 L hk hf]
  rfl
 ·simp only [Option.map_eq_some_iff] at hs'
  obtain ⟨l,hl,rfl⟩:=hs'
  simp only [isKey] at hx hk
  obtain ⟨d,hd,_⟩:=same_cell hl hx hx fx fx
  simp only [Instr.findKey,Sem.run_bind,run_underlying hd,Result.andThen_ok,findNow_run hl hd hx fx ks es 0 L hk hf,Sem.run_pure]
  rfl
theorem perm_pairs {α β:Type} {l l':List β} (h:List.Perm l l') : ∀ (ks:List α),ks.length=l.length → ∃ ks' : List α,ks'.length=l'.length∧List.Perm (ks.zip l) (ks'.zip l'):=by
 induction h with
 | nil => intro ks h; exact ⟨ks,h,.refl _⟩
 | cons x _ ih =>
   intro ks h
   cases ks with
   | nil => simp at h
   | cons k ks =>
     obtain ⟨ks',h1,h2⟩:=ih ks (by simpa using h)
     exact ⟨k :: ks',by simp [h1],by simpa using h2.cons (k,x)⟩
 | swap x y l =>
   intro ks h
   match ks,h with
   | a :: b :: ks, h => exact ⟨b :: a :: ks,by simpa using h,by simpa using List.Perm.swap (b,x) (a,y) (ks.zip l)⟩
 | trans _ _ ih1 ih2 =>
   intro ks h
   obtain ⟨ks1,h1,h2⟩:=ih1 ks h
   obtain ⟨ks2,h3,h4⟩:=ih2 ks1 h1
   exact ⟨ks2,h3,h2.trans h4⟩
theorem footTs_of_mem : ∀ (ks:List T) (vs:List Value),vs.length=ks.length→(∀ p∈ks.zip vs,footT w p.1 p.2 [])→footTs w ks vs []
 | [], vs, h, _ => by simp only [footTs]; exact ⟨by simpa using h,trivial⟩
 | k :: ks, [], h, _ => by simp at h
 | k :: ks, v :: vs, h, hm => by
   simp only [footTs]
   exact ⟨v,vs,[],[],rfl,rfl,hm (k,v) (by simp),footTs_of_mem ks vs (by simpa using h) (fun p hp=>hm p (by simp [hp]))⟩
theorem footTs_mem : ∀ {ks:List T} {vs:List Value},footTs w ks vs [] → ∀ p∈ks.zip vs,footT w p.1 p.2 []
 | [], vs, _, p, hp => by simp at hp
 | k :: ks, vs, h, p, hp => by
   simp only [footTs] at h
   obtain ⟨v,vs',L1,L2,rfl,hL,h1,h2⟩:=h
   obtain ⟨rfl,rfl⟩:=List.append_eq_nil_iff.1 hL.symm
   simp only [List.zip_cons_cons,List.mem_cons] at hp
   rcases hp with rfl | hp
   ·exact h1
   ·exact footTs_mem h2 p hp
theorem ents_stand {ks:List T} {es:Array MapEntry} {l:List MapEntry} (hperm:List.Perm l es.toList) (hkeys:footTs w ks (l.map (·.key)) []) (hnd:ks.Nodup) :
 ∃ ks',footTs w ks' (es.toList.map (·.key)) []∧ks'.Nodup∧(∀ y,y∈ks' ↔ y∈ks)∧∀ (i:Nat) (x:T),ks[i]? = some x → ∃ (j:Nat) (e:MapEntry),l[i]? = some e∧ks'[j]? = some x∧es.toList[j]? = some e:=by
 have hlen : ks.length=l.length:=by have:=footTs_length hkeys; rw [List.length_map] at this; exact this.symm
 obtain ⟨ks',h1,h2⟩:=perm_pairs hperm ks hlen
 have hk : List.Perm ks ks':=by
  have:=h2.map Prod.fst
  rwa [List.map_fst_zip (by omega),List.map_fst_zip (by omega)] at this
 refine ⟨ks',footTs_of_mem _ _ (by rw [List.length_map]; exact h1.symm) (fun p hp=>?_),hk.nodup_iff.1 hnd,fun y=>(hk.mem_iff).symm,fun i x hx=>?_⟩
 ·rw [List.zip_map_right,List.mem_map] at hp
  obtain ⟨q,hq,rfl⟩:=hp
  have hq2:=h2.mem_iff.2 hq
  exact footTs_mem hkeys (q.1,q.2.key) (by rw [List.zip_map_right,List.mem_map]; exact ⟨q,hq2,rfl⟩)
 ·have hi : i < l.length:=by have:=get_lt hx; omega
  have hm : (x,l[i])∈ks.zip l:=by
   refine List.mem_of_getElem? (i:=i) ?_
   rw [List.getElem?_zip_eq_some]
   exact ⟨hx,List.getElem?_eq_getElem hi⟩
  obtain ⟨j,hj⟩:=List.getElem?_of_mem (h2.mem_iff.1 hm)
  rw [List.getElem?_zip_eq_some] at hj
  exact ⟨j,l[i],List.getElem?_eq_getElem hi,hj.1,hj.2⟩
theorem find_plain {t:TypeId} {s:Bool × List Lay} (hs:keyLay P t=some s) {ks:List T} {es:Array MapEntry} {l:List MapEntry} (hperm:List.Perm l es.toList) (hkeys:footTs w ks (l.map (·.key)) []) (hnd:ks.Nodup) (hk:∀ y∈ks,isKey s y) {x:T} {v:Value} (hx:isKey s x) (fx:footT w x v []) (W:World) :
 (∃ (i j:Nat) (e:MapEntry),ks[i]? = some x∧l[i]? = some e∧es.toList[j]? = some e∧footT w x e.key []∧(Instr.findKey t v es.toList).run P W = .ok (some (j,e.val)) W) ∨
 (x ∉ ks∧(Instr.findKey t v es.toList).run P W = .ok none W):=by
 obtain ⟨ks',h1,h2,h3,h4⟩:=ents_stand hperm hkeys hnd
 have hrun:=findKey_run hs hx fx W (fun y hy=>hk y ((h3 y).1 hy)) h1
 by_cases hm : x∈ks
 ·obtain ⟨i,hi⟩:=List.getElem?_of_mem hm
  obtain ⟨j,e,g1,g2,g3⟩:=h4 i x hi
  refine .inl ⟨i,j,e,hi,g1,g3,?_,?_⟩
  ·obtain ⟨u,L',a1,a2,a3⟩:=footTs_get hkeys hi
   rw [List.getElem?_map,g1,Option.map_some,Option.some.injEq] at a1
   subst a1
   have : L'=[]:=List.eq_nil_iff_forall_not_mem.2 fun b hb=>by cases a3 b hb
   rwa [this] at a2
  ·rw [hrun,placeT_some h2 g2,Nat.zero_add]
   simp only [Option.bind_some]
   rw [g3]; rfl
 ·exact .inr ⟨hm,by rw [hrun,placeT_none (fun hh=>hm ((h3 x).1 hh))]; rfl⟩
theorem Ents.find {t:TypeId} {s:Bool × List Lay} (hs:keyLay P t=some s) {h:Value} {ks:List T} {r:Nat} {es:Array MapEntry} {clock:Nat} {l:List MapEntry} (he:Ents w h ks r es clock l) (hk:∀ y∈ks,isKey s y) {x:T} {v:Value} (hx:isKey s x) (fx:footT w x v []) (W:World) :
 (∃ (i j:Nat) (e:MapEntry),ks[i]? = some x∧l[i]? = some e∧es.toList[j]? = some e∧footT w x e.key []∧(Instr.findKey t v es.toList).run P W = .ok (some (j,e.val)) W) ∨
 (x ∉ ks∧(Instr.findKey t v es.toList).run P W = .ok none W):=find_plain hs he.perm he.keys he.nodup hk hx fx W
mutual
theorem flat_val : ∀ (x:T) {u v:Value} {L M:List Nat},x.flat=true→footT w x u L→footT w x v M→u=v
 | .b _, _, _, _, _, _, h, k | .i _ _, _, _, _, _, _, h, k | .s _, _, _, _, _, _, h, k | .np, _, _, _, _, _, h, k | .nm, _, _, _, _, _, h, k | .ni, _, _, _, _, _, h, k => by
   simp only [footT] at h k; rw [h.1,k.1]
 | .ag cs, _, _, _, _, hf, h, k => by
   simp only [T.flat] at hf
   simp only [footT] at h k
   obtain ⟨us,rfl,h⟩:=h
   obtain ⟨vs,rfl,k⟩:=k
   rw [flats_val cs hf h k]
 | .tp cs, _, _, _, _, hf, h, k => by
   simp only [T.flat] at hf
   simp only [footT] at h k
   obtain ⟨us,rfl,h⟩:=h
   obtain ⟨vs,rfl,k⟩:=k
   rw [flats_val cs hf h k]
 | .sl _, _, _, _, _, hf, _, _ | .po _ _, _, _, _, _, hf, _, _ | .ifc _ _, _, _, _, _, hf, _, _ | .mp _ _, _, _, _, _, hf, _, _ | .fn _ _, _, _, _, _, hf, _, _ => by simp [T.flat] at hf
theorem flats_val : ∀ (xs:List T) {us vs:List Value} {L M:List Nat},flats xs=true→footTs w xs us L→footTs w xs vs M→us=vs
 | [], _, _, _, _, _, h, k => by simp only [footTs] at h k; rw [h.1,k.1]
 | x :: xs, _, _, _, _, hf, h, k => by
   simp only [flats,Bool.and_eq_true] at hf
   simp only [footTs] at h k
   obtain ⟨u,us,L1,L2,rfl,_,h1,h2⟩:=h
   obtain ⟨v,vs,M1,M2,rfl,_,k1,k2⟩:=k
   rw [flat_val x hf.1 h1 k1,flats_val xs hf.2 h2 k2]
end
theorem keyCell_flat {l:Lay} {x:T} (h:keyCell l x) : x.flat=true:=by
 rcases keyCell_cases h with ⟨k,n,rfl,rfl⟩ | ⟨b,rfl,rfl⟩ | ⟨s,rfl,rfl⟩<;>rfl
theorem keyCells_flat : ∀ {ls:List Lay} {xs:List T},keyCells ls xs→flats xs=true
 | [], [], _ => rfl
 | _ :: _, _ :: _, h => by simp only [keyCells] at h; simp only [flats,keyCell_flat h.1,keyCells_flat h.2,Bool.and_self]
 | [], _ :: _, h => by simp only [keyCells] at h
 | _ :: _, [], h => by simp only [keyCells] at h
theorem isKey_flat {s:Bool × List Lay} {x:T} (h:isKey s x) : x.flat=true:=by
 unfold isKey at h
 split at h
 ·exact keyCell_flat h
 ·exact keyCells_flat h
 ·cases h
theorem sameBits_cell {l:Lay} {x:T} {v:Value} {L:List Nat} (h:keyCell l x) (hf:footT w x v L) (n:Nat) : Instr.sameBits (n + 1) v v=true:=by
 rcases keyCell_val h hf with ⟨k,m,rfl,rfl,rfl⟩ | ⟨b,rfl,rfl,rfl⟩ | ⟨s,rfl,rfl,rfl⟩<;>simp [Instr.sameBits]
 all_goals (rw [beq_toListBytes]; simp)
theorem sameBits_cells : ∀ {ls:List Lay} {xs:List T} {vs:List Value} {L:List Nat},keyCells ls xs→footTs w xs vs L → ∀ n,(vs.zip vs).all (fun (x,y)=>Instr.sameBits (n + 1) x y)=true
 | [], [], vs, L, _, hf, n => by simp only [footTs] at hf; simp [hf.1]
 | l :: ls, x :: xs, vs, L, h, hf, n => by
   simp only [keyCells] at h
   simp only [footTs] at hf
   obtain ⟨v,vs',L1,L2,rfl,_,f1,f2⟩:=hf
   simp only [List.zip_cons_cons,List.all_cons,sameBits_cell h.1 f1 n,sameBits_cells h.2 f2 n,Bool.and_self]
 | [], _ :: _, _, _, h, _, _ => by simp only [keyCells] at h
 | _ :: _, [], _, _, h, _, _ => by simp only [keyCells] at h
theorem keyStays {s:Bool × List Lay} {x:T} {v:Value} {L:List Nat} (h:isKey s x) (hf:footT w x v L) (W:World) : (Instr.keyThatStays v v).run P W = .ok v W:=by
 have : Instr.sameBits 10000 v v=true:=by
  unfold isKey at h
  split at h
  ·exact sameBits_cell h hf 9999
  ·simp only [footT] at hf
   obtain ⟨vs,rfl,hf⟩:=hf
   show Instr.sameBits (9998 + 1 + 1) _ _=true
   rw [Instr.sameBits]
   simpa using sameBits_cells h hf 9998
  ·cases h
 simp [Instr.keyThatStays,this]
end
def vcLookup (P:Program) (t:TypeId) (m k:AV) (ok:Bool) (ob:List Ob) (K:AV→Prop) : Prop :=
 match lay P t,k.shut with
 | .map kt et, some kx => match keyLay P kt,zeroOf P et with
   | some s, some z => isKey s kx ∧
     let hit (c:T→AV) (ks vs:List T) : Prop:=(∀ y∈ks,isKey s y)∧(∀ (i:Nat) (v:T),ks[i]? = some kx→vs[i]? = some v→K (if ok=true then .tp [c v,.t (.b true)] else c v))∧(kx ∉ ks→K (if ok=true then .tp [ofV z,.t (.b false)] else ofV z))
     match m with
     | .t (.mp ks vs) => hit .t ks vs
     | .bw (.mp ks vs) => hit .bwc ks vs
     | .mr id => match ob[id]? with
       | some (.map _ _ kd ks vs _) => hit kd.look ks vs
       | _ => False
     | .t .nm => K (if ok=true then .tp [ofV z,.t (.b false)] else ofV z)
     | _ => False
   | _, _ => False
 | _, _ => False
section
variable {P:Program} {Q:Exit→Act→World→Prop} {w0:Base} {σ:St} {hv:Hv} {S:Nat→Prop} {F:Nat→List Nat} {a:Act} {w:World}
 {K:AV→List Ob→Prop} {next:Value→World→Prop} {ob:List Ob} {e:Operand→AV}
theorem val_at {k:Kind} {Fi:List Nat} {vs:List T} {l:List MapEntry} (h:elsR hv S w Fi k vs (l.map (·.val))) (hF:k.isOwn=true → ∀ b∈Fi,hv.B b) {i:Nat} {en:MapEntry} (hi:l[i]? = some en) {n:Nat} :
 ∃ v,vs[i]? = some v∧Arg hv S w n (k.look v) en.val:=by
 obtain ⟨L,h1,h2⟩:=elsR_foot h hF
 have hlen:=footTs_length h1
 rw [List.length_map] at hlen
 obtain ⟨v,hvi⟩ : ∃ v,vs[i]? = some v:=⟨vs[i]'(by have:=get_lt hi; omega),List.getElem?_eq_getElem _⟩
 obtain ⟨u,L',g1,g2,g3⟩:=footTs_get h1 hvi
 rw [List.getElem?_map,hi,Option.map_some,Option.some.injEq] at g1
 subst g1
 exact ⟨v,hvi,look_arg g2 (fun b hb=>h2 b (g3 b hb))⟩
theorem Arg.shut_inv {n:Nat} {x:AV} {y:T} {v:Value} (h:Arg hv S w n x v) (hs:x.shut=some y) : ∃ L,footT w y v L∧∀ b∈L,S b:=by
 obtain ⟨⟨L,h1,h2⟩,_⟩:=h
 exact ⟨L,shut_sound x hs h1,h2⟩
theorem ofV_arg (z:Value) {n:Nat} : Arg hv S w n (ofV z) z:=⟨⟨[],ofV_foot hv w z,by simp⟩,ofV_under n z⟩
theorem tp2_arg {n:Nat} {x y:AV} {u v:Value} (hx:Arg hv S w n x u) (hy:Arg hv S w n y v) : Arg hv S w n (.tp [x,y]) (.tuple #[u,v]):=by
 obtain ⟨⟨L1,h1,h2⟩,h3⟩:=hx
 obtain ⟨⟨L2,k1,k2⟩,k3⟩:=hy
 refine ⟨⟨L1 ++ (L2 ++ []),?_,fun b hb=>?_⟩,by simp [AV.under,unders,h3,k3]⟩
 ·simp only [footA,footAs]
  exact ⟨[u,v],rfl,u,[v],L1,L2 ++ [],rfl,rfl,h1,v,[],L2,[],rfl,rfl,k1,rfl,rfl⟩
 ·rw [List.append_nil] at hb
  exact (List.mem_append.1 hb).elim (h2 b) (k2 b)
theorem nodup_at {α:Type} {l:List α} (h:l.Nodup) {i j:Nat} {x:α} (hi:l[i]? = some x) (hj:l[j]? = some x) : i=j:=by
 have a:=get_lt hi
 have b:=get_lt hj
 rw [List.getElem?_eq_getElem a,Option.some.injEq] at hi
 rw [List.getElem?_eq_getElem b,Option.some.injEq] at hj
 exact (List.getElem_inj h).1 (hi.trans hj.symm)
def withOk (ok:Bool) (v:Value) (b:Bool) : Value:=if ok=true then .tuple #[v,.bool b] else v
def withOkA (ok:Bool) (v:AV) (b:Bool) : AV:=if ok=true then .tp [v,.t (.b b)] else v
theorem withOk_arg {n:Nat} {ok b:Bool} {x:AV} {v:Value} (h:Arg hv S w n x v) : Arg hv S w n (withOkA ok x b) (withOk ok v b):=by
 cases ok
 ·exact h
 ·exact tp2_arg h (arg_b b)
theorem lookup_sound {o:Oper} {t:TypeId} {m k:Operand} {ok:Bool} {K:AV→Prop} (ho:o.op = .lookup t m k ok) {ρ:Operand→Value} (hob:Obs ob hv S F w) (harg:∀ y∈o.op.operands,Arg hv S w ob.length (e y) (ρ y)) (h:vcLookup P t (e m) (e k) ok ob K) :
 ∃ r,K r∧Yields1 P ob e o r:=by
 unfold vcLookup at h
 split at h
 case h_2=>cases h
 rename_i kt et kx hl hk
 split at h
 case h_2=>cases h
 rename_i s z hs hz
 obtain ⟨hkx,h⟩:=h
 have hu:=lay_map hl
 have run0 : ∀ {ρ:Operand→Value} {w:World} {v:Value},(Instr.lookup t (ρ m) (ρ k) ok).run P w = .ok v w→(execOp ρ o).run P w = .ok (.value v) w:=fun h=>by simp [execOp,ho,h]
 have key : ∀ {hv:Hv} {S:Nat→Prop} {w:World} {ρ:Operand→Value},(∀ y∈o.op.operands,Arg hv S w ob.length (e y) (ρ y))→footT w kx (ρ k) []:=by
  intro hv S w ρ harg
  have ak:=harg k (by rw [ho]; simp [Op.operands])
  obtain ⟨Lk,fk,_⟩:=ak.shut_inv hk
  exact (flat_foot kx (isKey_flat hkx) fk).2 w
 have zero : ∀ {w:World} {ρ:Operand→Value} {r:Nat} {es:Array MapEntry} {c:Nat},footT w kx (ρ k) []→ρ m = .map (some r)→w.heap[r]? = some (.map es c)→(Instr.findKey kt (ρ k) es.toList).run P w = .ok none w→(execOp ρ o).run P w = .ok (.value (withOk ok z false)) w:=by
  intro w ρ r es c fk hmr hheap hfind
  refine run0 ?_
  simp only [Instr.lookup,Sem.run_bind,run_underlying hu,Result.andThen_ok,hmr,getObj_run hheap,Sem.run_pure,checkKey_run hs hkx fk,hfind,zero_run hz]
  cases ok<;>rfl
 have some' : ∀ {w:World} {ρ:Operand→Value} {r:Nat} {es:Array MapEntry} {c j:Nat} {v:Value},footT w kx (ρ k) []→ρ m = .map (some r)→w.heap[r]? = some (.map es c)→(Instr.findKey kt (ρ k) es.toList).run P w = .ok (some (j,v)) w→(execOp ρ o).run P w = .ok (.value (withOk ok v true)) w:=by
  intro w ρ r es c j v fk hmr hheap hfind
  refine run0 ?_
  simp only [Instr.lookup,Sem.run_bind,run_underlying hu,Result.andThen_ok,hmr,getObj_run hheap,Sem.run_pure,checkKey_run hs hkx fk,hfind]
  cases ok<;>rfl
 have fin : ∀ (k':Kind) (ks vs:List T),(∀ {hv:Hv} {S:Nat→Prop} {F:Nat→List Nat} {w:World} {ρ:Operand→Value},Obs ob hv S F w→(∀ y∈o.op.operands,Arg hv S w ob.length (e y) (ρ y)) →
  ks.Nodup∧(kx∈ks → ∃ (i:Nat) (v:T) (val:Value),ks[i]? = some kx∧vs[i]? = some v∧(execOp ρ o).run P w = .ok (.value (withOk ok val true)) w∧Arg hv S w ob.length (k'.look v) val)∧(kx ∉ ks→(execOp ρ o).run P w = .ok (.value (withOk ok z false)) w)) →
  ((∀ y∈ks,isKey s y)∧(∀ (i:Nat) (v:T),ks[i]? = some kx→vs[i]? = some v→K (if ok=true then .tp [k'.look v,.t (.b true)] else k'.look v))∧(kx ∉ ks→K (if ok=true then .tp [ofV z,.t (.b false)] else ofV z))) →
  ∃ r,K r∧Yields1 P ob e o r:=by
  intro k' ks vs H ⟨_,h2,h3⟩
  by_cases hm : kx∈ks
  ·obtain ⟨hnd,H1,_⟩:=H hob harg
   obtain ⟨i,v,val,g1,g2,_⟩:=H1 hm
   refine ⟨_,h2 i v g1 g2,fun {hv S F w ρ} hob harg=>?_⟩
   obtain ⟨_,H1,_⟩:=H hob harg
   obtain ⟨i',v',val',q1,q2,q3,q4⟩:=H1 hm
   obtain rfl:=nodup_at hnd g1 q1
   rw [g2] at q2
   cases q2
   exact ⟨_,q3,withOk_arg q4⟩
  ·refine ⟨_,h3 hm,fun {hv S F w ρ} hob harg=>?_⟩
   obtain ⟨_,_,H2⟩:=H hob harg
   exact ⟨_,H2 hm,withOk_arg (ofV_arg z)⟩
 have hit : ∀ {hv:Hv} {S:Nat→Prop} {F:Nat→List Nat} {w:World} {ρ:Operand→Value} (k':Kind) (ks vs:List T) (r:Nat) (es:Array MapEntry) (clock:Nat) (l:List MapEntry) (Fi:List Nat),(∀ y∈o.op.operands,Arg hv S w ob.length (e y) (ρ y))→(∀ y∈ks,isKey s y) →
  w.heap[r]? = some (.map es clock)→List.Perm l es.toList→footTs w ks (l.map (·.key)) []→ks.Nodup→ρ m = .map (some r)→elsR hv S w Fi k' vs (l.map (·.val))→(k'.isOwn=true → ∀ b∈Fi,hv.B b) →
  ks.Nodup∧(kx∈ks → ∃ (i:Nat) (v:T) (val:Value),ks[i]? = some kx∧vs[i]? = some v∧(execOp ρ o).run P w = .ok (.value (withOk ok val true)) w∧Arg hv S w ob.length (k'.look v) val)∧(kx ∉ ks→(execOp ρ o).run P w = .ok (.value (withOk ok z false)) w):=by
  intro hv S F w ρ k' ks vs r es clock l Fi harg h1 hheap hperm hkeys hnd hm hels hF
  have fk:=key harg
  refine ⟨hnd,fun hin=>?_,fun hin=>?_⟩
  ·rcases find_plain hs hperm hkeys hnd h1 hkx fk w with ⟨i,j,en,g1,g2,g3,_,g4⟩ | ⟨g1,g4⟩
   ·obtain ⟨v,hvi,hav⟩:=val_at hels hF g2 (n:=ob.length)
    exact ⟨i,v,en.val,g1,hvi,some' fk hm hheap g4,hav⟩
   ·exact absurd hin g1
  ·rcases find_plain hs hperm hkeys hnd h1 hkx fk w with ⟨i,j,en,g1,g2,g3,_,g4⟩ | ⟨g1,g4⟩
   ·exact absurd (List.mem_of_getElem? g1) hin
   ·exact zero fk hm hheap g4
 have closed : ∀ (k':Kind) (ks vs:List T),k'.isOwn=false→e m=k'.look (.mp ks vs)→((∀ y∈ks,isKey s y)∧(∀ (i:Nat) (v:T),ks[i]? = some kx→vs[i]? = some v→K (if ok=true then .tp [k'.look v,.t (.b true)] else k'.look v))∧(kx ∉ ks→K (if ok=true then .tp [ofV z,.t (.b false)] else ofV z))) →
  ∃ r,K r∧Yields1 P ob e o r:=by
  intro k' ks vs hk' hm h
  refine fin k' ks vs (fun {hv S F w ρ} hob harg=>?_) h
  have am:=harg m (by rw [ho]; simp [Op.operands])
  rw [hm] at am
  obtain ⟨Lm,fm,hLm⟩:=am.look_inv
  simp only [footT] at fm
  obtain ⟨r,es,clock,l,L1,L2,e1,e2,⟨p1,p2,p3,p4,p5⟩,f1,f2,rfl⟩:=fm
  have hflat : flats ks=true:=by
   clear f1 f2 p4 p5 hLm hm am
   have h1:=h.1
   clear h
   induction ks with
   | nil => rfl
   | cons y ks ih => simp only [flats,isKey_flat (h1 y (List.mem_cons_self ..)),ih (fun y hy=>h1 y (List.mem_cons_of_mem _ hy)),Bool.and_self]
  have f1':=(flats_foot ks hflat f1).2 w
  have hels : elsR hv S w [] k' vs (l.map (·.val)):=by
   cases k' with
   | own s => cases hk'
   | clo => exact ⟨L2,f2,fun b hb=>hLm b (List.mem_cons_of_mem _ (List.mem_append_right _ hb))⟩
   | bor => exact ⟨L2,f2,fun b hb=>hLm b (List.mem_cons_of_mem _ (List.mem_append_right _ hb))⟩
  exact hit (F:=F) k' ks vs r es clock l [] harg h.1 e2 p1 f1' p4 e1 hels (fun hh=>by rw [hk'] at hh; cases hh)
 dsimp only at h
 split at h
 ·rename_i ks vs hm; exact closed .clo ks vs rfl hm h
 ·rename_i ks vs hm; exact closed .bor ks vs rfl hm h
 ·rename_i id hm
  split at h
  ·rename_i a' b' kd ks vs p hid
   refine fin kd ks vs (fun {hv S F w ρ} hob harg=>?_) h
   have am:=harg m (by rw [ho]; simp [Op.operands])
   rw [hm] at am
   obtain ⟨⟨L,fm,_⟩,_⟩:=am
   simp only [footA] at fm
   obtain ⟨r,es,clock,l,k1,k2,k3,k4⟩:=hob.ob id _ hid
   exact hit (F:=F) kd ks vs r es clock l (F id) harg h.1 k1.heap k1.perm k1.keys k1.nodup (fm.1.trans k1.val) k2 (fun hk b hb=>hob.own id _ hid (by cases kd<;>first | rfl | cases hk) b hb)
  ·cases h
 ·rename_i hm
  refine ⟨_,h,fun {hv S F w ρ} hob harg=>?_⟩
  have am:=harg m (by rw [ho]; simp [Op.operands])
  rw [hm] at am
  obtain ⟨L,fm,_⟩:=am.t_inv
  simp only [footT] at fm
  have fk:=key harg
  refine ⟨withOk ok z false,run0 ?_,withOk_arg (ofV_arg z)⟩
  have hfk:=findKey_run hs hkx fk w (ks:=[]) (es:=[]) (L:=[]) (by simp) (by simp [footTs])
  have : (Instr.findKey kt (ρ k) (#[] : Array MapEntry).toList).run P w = .ok none w:=by simpa [placeT] using hfk
  simp only [Instr.lookup,Sem.run_bind,run_underlying hu,Result.andThen_ok,fm.1,Sem.run_pure,checkKey_run hs hkx fk,this,zero_run hz]
  cases ok<;>rfl
 ·cases h
end
end Go.Proofs.YtmgdkkhnjkepiaaGreat.BX
namespace Go.Proofs.YtmgdkkhnjkepiaaGreat.BX
open Nat renaming reduceEqDiff → zA, reduceLT → zB, reduceLeDiff → zC, reduceAdd → zD, reduceMul → zE, reduceSub → zF, reduceBEq → zG
set_option linter.unusedSectionVars false
set_option linter.unusedSimpArgs false
set_option linter.unusedVariables false
open Go Go.RowKit
variable [Bd]
open Classical in
noncomputable def updK (ks:List T) (kx:T) : List T:=match placeT kx ks 0 with
 | some _ => ks
 | none => ks ++ [kx]
noncomputable def updV (ks vs:List T) (kx z:T) : List T:=match placeT kx ks 0 with
 | some i => vs.set i z
 | none => vs ++ [z]
noncomputable def delK (ks:List T) (kx:T) : List T:=match placeT kx ks 0 with
 | some i => ks.eraseIdx i
 | none => ks
noncomputable def delV (ks vs:List T) (kx:T) : List T:=match placeT kx ks 0 with
 | some i => vs.eraseIdx i
 | none => vs
noncomputable def vcMapUpd (P:Program) (t:TypeId) (m k v:AV) (ob:List Ob) (K:AV→List Ob→Prop) : Prop :=
 match lay P t,k.shut,m,v.shut with
 | .map kt _, some kx, .mr id, some z => match keyLay P kt with
   | some s => isKey s kx∧z.flat=true∧z.one=true∧match ob[id]? with
     | some (.map a b (.own .leaf) ks vs _) => (∀ y∈ks,isKey s y)∧(kx ∉ ks→ks.length + 1 < Bd.B)∧K .ud (ob.set id (.map a b (.own .leaf) (updK ks kx) (updV ks vs kx z) none))
     | _ => False
   | none => False
 | _, _, _, _ => False
noncomputable def vcDelete (P:Program) (t:TypeId) (m k:AV) (ob:List Ob) (K:AV→List Ob→Prop) : Prop :=
 match lay P t,k.shut,m with
 | .map kt _, some kx, .mr id => match keyLay P kt with
   | some s => isKey s kx∧match ob[id]? with
     | some (.map a b (.own .leaf) ks vs _) => (∀ y∈ks,isKey s y)∧K (.tp []) (ob.set id (.map a b (.own .leaf) (delK ks kx) (delV ks vs kx) none))
     | _ => False
   | none => False
 | _, _, _ => False
noncomputable def getV (ks vs:List T) (kx z:T) : Option T:=match placeT kx ks 0 with
 | some i => vs[i]?
 | none => some z
noncomputable def vcMapEnt (P:Program) (t:TypeId) (m k:AV) (ob:List Ob) (K:AV→List Ob→Prop) : Prop :=
 match lay P t,k.shut,m with
 | .map kt et, some kx, .mr id => match keyLay P kt,(zeroOf P et).map ofV with
   | some s, some (.t z) => isKey s kx∧z.flat=true∧z.one=true∧match ob[id]? with
     | some (.map a b (.own .leaf) ks vs _) => (∀ y∈ks,isKey s y)∧(kx ∉ ks→ks.length + 1 < Bd.B)∧∀ (n:Int) (v:T),getV ks vs kx z=some v→K (.tp [.t v,.t (.i .i64 n)]) (ob.set id (.map a b (.own .leaf) (updK ks kx) (updV ks vs kx v) (some (n,kx))))
     | _ => False
   | _, _ => False
 | _, _, _ => False
noncomputable def vcEntSt (m n v:AV) (ob:List Ob) (K:AV→List Ob→Prop) : Prop :=
 match m,n,v.shut with
 | .mr id, .t (.i _ n), some z => z.flat=true∧z.one=true∧match ob[id]? with
   | some (.map a b (.own .leaf) ks vs (some (n', kx))) => n=n' ∧ K .ud (ob.set id (.map a b (.own .leaf) ks (updV ks vs kx z) none))
   | _ => False
 | _, _, _ => False
def vcMakeMap (P:Program) (t:TypeId) (r:Option AV) (ob:List Ob) (K:AV→List Ob→Prop) : Prop :=
 match lay P t,r with
 | .map kt et, none => K (.mr ob.length) (ob ++ [.map kt et (.own .leaf) [] [] none])
 | .map kt et, some (.t (.i _ _)) => K (.mr ob.length) (ob ++ [.map kt et (.own .leaf) [] [] none])
 | _, _ => False
section
variable {P:Program} {Q:Exit→Act→World→Prop} {w0:Base} {σ:St} {hv:Hv} {S:Nat→Prop} {F:Nat→List Nat} {a:Act} {w:World}
 {K:AV→List Ob→Prop} {next:Value→World→Prop}
theorem leaf_els {Fi:List Nat} {vs:List T} {us:List Value} (h:elsR hv S w Fi (.own .leaf) vs us) : flats vs=true∧footTs w vs us []:=by
 obtain ⟨L,h1,_,_⟩:=h
 have hL:=plainEs_own (s:=.leaf) rfl h1
 subst hL
 have : ∀ {vs:List T} {us:List Value},ownEs w .leaf vs us []→flats vs=true∧footTs w vs us []:=by
  intro vs
  induction vs with
  | nil => intro us h; simp only [ownEs] at h; simp [footTs,flats,h.1]
  | cons x xs ih =>
    intro us h
    simp only [ownEs,ownT] at h
    obtain ⟨v,vs',L1,L2,rfl,hL,⟨q1,q2,rfl⟩,q4⟩:=h
    have hL2 : L2=[]:=by simpa using hL.symm
    subst hL2
    obtain ⟨i1,i2⟩:=ih q4
    refine ⟨by simp only [flats,q1,i1,Bool.and_self],?_⟩
    simp only [footTs]
    exact ⟨v,vs',[],[],rfl,rfl,q2,i2⟩
 exact this h1
theorem els_leaf {Fi:List Nat} {vs:List T} {us:List Value} (h1:flats vs=true) (h2:footTs w vs us []) : elsR hv S w Fi (.own .leaf) vs us:=by
 refine ⟨[],?_,by simp,by simp⟩
 have : ∀ {vs:List T} {us:List Value},flats vs=true→footTs w vs us []→ownEs w .leaf vs us []:=by
  intro vs
  induction vs with
  | nil => intro us _ h; simp only [footTs] at h; simp [ownEs,h.1]
  | cons x xs ih =>
    intro us hf h
    simp only [flats,Bool.and_eq_true] at hf
    simp only [footTs] at h
    obtain ⟨v,vs',L1,L2,rfl,hL,q1,q2⟩:=h
    obtain ⟨rfl,rfl⟩:=List.append_eq_nil_iff.1 hL.symm
    simp only [ownEs,ownT]
    exact ⟨v,vs',[],[],rfl,rfl,⟨hf.1,q1,rfl⟩,ih hf.2 q2⟩
 exact this h1 h2
theorem flats_append : ∀ {xs ys:List T},flats (xs ++ ys)=(flats xs && flats ys)
 | [], ys => by simp [flats]
 | x :: xs, ys => by simp only [List.cons_append,flats,flats_append,Bool.and_assoc]
theorem placeT_mem {x:T} {ks:List T} (hn:ks.Nodup) {i:Nat} (h:ks[i]? = some x) : placeT x ks 0=some i:=by
 rw [placeT_some hn h,Nat.zero_add]
theorem heap_setMap {r:Nat} {o o':Obj} (h:w.heap[r]? = some o) : (w.heap.setIfInBounds r o')[r]? = some o' ∧ ∀ i,i≠r→(w.heap.setIfInBounds r o')[i]? = w.heap[i]?:=by
 have hlt : r < w.heap.size:=heap_lt h
 refine ⟨by simp [hlt],fun i hi=>?_⟩
 rw [Array.getElem?_setIfInBounds_ne (Ne.symm hi)]
theorem set_perm {α:Type} {l l':List α} (h:List.Perm l l') {i j:Nat} {x y:α} (hi:l[i]? = some x) (hj:l'[j]? = some x) : List.Perm (l.set i y) (l'.set j y):=by
 have e : ∀ (l:List α) (i:Nat) (x:α),l[i]? = some x→List.Perm l (x :: l.eraseIdx i)∧List.Perm (l.set i y) (y :: l.eraseIdx i):=by
  intro l
  induction l with
  | nil => intro i x h; simp at h
  | cons z zs ih =>
    intro i x h
    cases i with
    | zero => simp at h; subst h; simp
    | succ i =>
      simp only [List.getElem?_cons_succ] at h
      obtain ⟨h1,h2⟩:=ih i x h
      simp only [List.eraseIdx_cons_succ,List.set_cons_succ]
      exact ⟨(h1.cons z).trans (List.Perm.swap ..),(h2.cons z).trans (List.Perm.swap ..)⟩
 obtain ⟨a1,a2⟩:=e l i x hi
 obtain ⟨b1,b2⟩:=e l' j x hj
 have:=(a1.symm.trans (h.trans b1)).cons_inv
 exact a2.trans ((this.cons y).trans b2.symm)
theorem erase_perm {α:Type} {l l':List α} (h:List.Perm l l') {i j:Nat} {x:α} (hi:l[i]? = some x) (hj:l'[j]? = some x) : List.Perm (l.eraseIdx i) (l'.eraseIdx j):=by
 have e : ∀ (l:List α) (i:Nat) (x:α),l[i]? = some x→List.Perm l (x :: l.eraseIdx i):=by
  intro l
  induction l with
  | nil => intro i x h; simp at h
  | cons z zs ih =>
    intro i x h
    cases i with
    | zero => simp at h; subst h; simp
    | succ i =>
      simp only [List.getElem?_cons_succ] at h
      simp only [List.eraseIdx_cons_succ]
      exact ((ih i x h).cons z).trans (List.Perm.swap ..)
 exact ((e l i x hi).symm.trans (h.trans (e l' j x hj))).cons_inv
theorem map_key_set {l:List MapEntry} {i:Nat} {en en':MapEntry} {α:Type} {f:MapEntry→α} (h:l[i]? = some en) (hf:f en'=f en) : (l.set i en').map f=l.map f:=by
 rw [List.map_set,hf]
 refine List.ext_getElem? fun j=>?_
 rw [List.getElem?_set]
 split
 ·rename_i hij
  subst hij
  rw [List.getElem?_map,h]
  have:=get_lt h
  simp [this]
 ·rfl
theorem erase_map {α β:Type} {f:α→β} : ∀ (l:List α) (i:Nat),(l.map f).eraseIdx i=(l.eraseIdx i).map f
 | [], i => by simp
 | x :: xs, 0 => by simp
 | x :: xs, i + 1 => by simp [erase_map xs i]
theorem footTs_erase : ∀ {xs:List T} {vs:List Value} (_:footTs w xs vs []) (i:Nat),footTs w (xs.eraseIdx i) (vs.eraseIdx i) []
 | [], vs, h, i => by simp only [footTs] at h; simp [footTs,h.1]
 | x :: xs, vs, h, i => by
   simp only [footTs] at h
   obtain ⟨v,vs',L1,L2,rfl,hL,h1,h2⟩:=h
   obtain ⟨rfl,rfl⟩:=List.append_eq_nil_iff.1 hL.symm
   cases i with
   | zero => simpa using h2
   | succ i =>
     simp only [List.eraseIdx_cons_succ,footTs]
     exact ⟨v,vs'.eraseIdx i,[],[],rfl,rfl,h1,footTs_erase h2 i⟩
theorem flats_erase : ∀ {xs:List T} (_:flats xs=true) (i:Nat),flats (xs.eraseIdx i)=true
 | [], _, i => by simp [flats]
 | x :: xs, h, i => by
   simp only [flats,Bool.and_eq_true] at h
   cases i with
   | zero => simpa using h.2
   | succ i => simp only [List.eraseIdx_cons_succ,flats,h.1,flats_erase h.2 i,Bool.and_self]
theorem Ents.move {w':World} {h:Value} {ks:List T} {r:Nat} {es:Array MapEntry} {clock:Nat} {l:List MapEntry} {ks':List T} {es':Array MapEntry} {clock':Nat} {l':List MapEntry} (he:Ents w h ks r es clock l)
 (h1:w'.heap[r]? = some (.map es' clock')) (h2:List.Perm l' es'.toList) (h3:(l'.map (·.born)).Nodup) (h4:∀ e∈l',e.born < clock') (h5:footTs w ks' (l'.map (·.key)) []) (h6:flats ks'=true) (h7:ks'.Nodup) (h8:ks'.length < Bd.B) (h9:∀ e∈l',e.val.oneCell'=true) : Ents w' h ks' r es' clock' l' :=
 ⟨he.val,h1,h2,h3,h4,(flats_foot ks' h6 h5).2 w',h6,h7,h8,h9⟩
theorem mapUpd_sound {o:Oper} {t:TypeId} {m k x:Operand} (ho:o.op = .mapUpdate t m k x) (hr:Rel w0 σ hv S F a w) (h:vcMapUpd P t (σ.opd m) (σ.opd k) (σ.opd x) σ.ob K) (hn:Ans w0 σ a K next) : Does P Q o a w next:=by
 unfold vcMapUpd at h
 split at h
 case h_2=>cases h
 rename_i kt et kx id z hl hk hm hx
 split at h
 case h_2=>cases h
 rename_i s hs
 obtain ⟨hkx,hzf,hz1,h⟩:=h
 split at h
 case h_2=>cases h
 rename_i a' b' ks vs p hid
 obtain ⟨hks,hlen,hK⟩:=h
 have hu:=lay_map hl
 obtain ⟨r,es,clock,l,hE,hels,hlv,_⟩:=hr.ob id _ hid
 obtain ⟨⟨Lm,fm,_⟩,_⟩:=hr.arg m
 rw [hm] at fm
 simp only [footA] at fm
 have hmr : a.eval m = .map (some r):=fm.1.trans hE.val
 have ak:=hr.arg k
 obtain ⟨Lk,fk,_⟩:=ak.shut_inv hk
 have fk:=(flat_foot kx (isKey_flat hkx) fk).2 w
 have ax:=hr.arg x
 obtain ⟨Lx,fx,_⟩:=ax.shut_inv hx
 have fx:=(flat_foot z hzf fx).2 w
 obtain ⟨hvf,hvs⟩:=leaf_els hels
 have hlk : ks.length=l.length:=by have:=footTs_length hE.keys; rw [List.length_map] at this; exact this.symm
 have hroot : blkOf (hv id)=some r:=by rw [hE.val]; rfl
 have fin : ∀ (es':Array MapEntry) (clock':Nat) (ks' vs':List T) (l':List MapEntry),(execOp a.eval o).run P w = .ok .skip { w with heap:=w.heap.setIfInBounds r (.map es' clock') }→K .ud (σ.ob.set id (.map a' b' (.own .leaf) ks' vs' none)) →
  List.Perm l' es'.toList→(l'.map (·.born)).Nodup→(∀ e∈l',e.born < clock')→footTs w ks' (l'.map (·.key)) []→flats ks'=true→ks'.Nodup→ks'.length < Bd.B→(∀ e∈l',e.val.oneCell'=true)→flats vs'=true→footTs w vs' (l'.map (·.val)) []→ks'.length=vs'.length→Does P Q o a w next:=by
  intro es' clock' ks' vs' l' hrun hK' g1 g2 g3 g4 g5 g6 g7 g8 g9 g10 g11
  obtain ⟨q1,q2⟩:=heap_setMap (o':=.map es' clock') hE.heap
  refine does_skip hrun ?_
  have hr3:=hr.write hid (by simp) (w':={ w with heap:=w.heap.setIfInBounds r (.map es' clock') }) (o':=.map a' b' (.own .leaf) ks' vs' none) (fun k hk=>q2 k (fun e=>hk (by rw [hroot,e]))) (by simp) rfl rfl rfl (Nat.le_refl _) rfl
   ⟨r,es',clock',l',hE.move q1 g1 g2 g3 g4 g5 g6 g7 g8,els_leaf g9 ((flats_foot vs' g9 g10).2 _),g11,by simp⟩ (fun _=>rfl)
  exact hn _ _ _ _ hv S F [] hK' hr3 (by simp [footA]) (by simp) rfl
 have hgo:=getObj_run (P:=P) hE.heap
 have hck:=checkKey_run (w:=w) hs hkx fk
 have hx1:=T.one_value hz1 fx
 rcases hE.find hs hks hkx fk w with ⟨i,j,en,g1,g2,g3,g4,g5⟩ | ⟨g1,g5⟩
 ·have hkey : en.key=a.eval k:=flat_val kx (isKey_flat hkx) g4 fk
  have hpl:=placeT_mem hE.nodup g1
  have hj : es[j]? = some en:=by simpa using g3
  have hrun : (execOp a.eval o).run P w = .ok .skip { w with heap:=w.heap.setIfInBounds r (.map (es.modify j fun e=>{ e with key:=a.eval k,val:=a.eval x }) clock) }:=by
   have hst:=keyStays (P:=P) hkx fk w
   simp only [execOp,ho,Instr.mapUpdate,Sem.run_bind,run_underlying hu,Result.andThen_ok,hmr,hgo,hck,g5,hj,Option.map_some,Option.getD_some,hkey,hst]
   simp [setObj,Sem.run,hE.heap]
  have hmod : (es.modify j fun e=>{ e with key:=a.eval k,val:=a.eval x }).toList=es.toList.set j { en with key:=a.eval k,val:=a.eval x }:=by
   refine List.ext_getElem? fun i=>?_
   rw [Array.getElem?_toList,Array.getElem?_modify,List.getElem?_set]
   have hjl : j < es.toList.length:=get_lt g3
   by_cases hij : j=i
   ·subst hij
    simp only [if_true,hj,Option.map_some]
    rw [if_pos hjl]
   ·simp [hij]
  have hen' : (⟨a.eval k,a.eval x,en.born⟩ : MapEntry) = { en with key:=a.eval k,val:=a.eval x }:=rfl
  unfold updK updV at hK
  rw [hpl] at hK
  have hil : i < l.length:=get_lt g2
  refine fin _ clock ks (vs.set i z) (l.set i { en with key:=a.eval k,val:=a.eval x }) hrun hK (by rw [hmod]; exact set_perm hE.perm g2 g3) (by rw [map_key_set (en':={ en with key:=a.eval k,val:=a.eval x }) (f:=fun x=>x.born) g2 rfl]; exact hE.born) (fun e he=>?_) (by rw [map_key_set (en':={ en with key:=a.eval k,val:=a.eval x }) (f:=fun x=>x.key) g2 hkey.symm]; exact hE.keys) hE.flat hE.nodup hE.small (fun e he=>?_) (flats_set hvf hzf) ?_ (by simpa using hlv)
  ·rcases List.mem_or_eq_of_mem_set he with he | rfl
   ·exact hE.lt e he
   ·exact hE.lt en (List.mem_of_getElem? g2)
  ·rcases List.mem_or_eq_of_mem_set he with he | rfl
   ·exact hE.ones e he
   ·exact hx1
  ·rw [List.map_set]
   obtain ⟨L',q1,q2⟩:=footTs_setflat hvs fx (by omega:i < vs.length)
   have : L'=[]:=List.eq_nil_iff_forall_not_mem.2 fun b hb=>by cases q2 b hb
   rwa [this] at q1
 ·have hpl:=placeT_none (i:=0) g1
  have hrun : (execOp a.eval o).run P w = .ok .skip { w with heap:=w.heap.setIfInBounds r (.map (es.push { key:=a.eval k,val:=a.eval x,born:=clock }) (clock + 1)) }:=by
   simp only [execOp,ho,Instr.mapUpdate,Sem.run_bind,run_underlying hu,Result.andThen_ok,hmr,hgo,hck,g5]
   simp [setObj,Sem.run,hE.heap]
  unfold updK updV at hK
  rw [hpl] at hK
  refine fin _ (clock + 1) (ks ++ [kx]) (vs ++ [z]) (l ++ [{ key:=a.eval k,val:=a.eval x,born:=clock }]) hrun hK (by rw [Array.toList_push]; exact hE.perm.append_right _) ?_ (fun e he=>?_) ?_ (by rw [flats_append,hE.flat]; simp [flats,isKey_flat hkx]) ?_ (by simpa using hlen g1) (fun e he=>?_) (by rw [flats_append,hvf]; simp [flats,hzf]) ?_ (by simp [hlv])
  ·rw [List.map_append,List.nodup_append]
   refine ⟨hE.born,by simp,fun b hb c hc=>?_⟩
   simp only [List.map_cons,List.map_nil,List.mem_singleton] at hc
   subst hc
   obtain ⟨e,he,rfl⟩:=List.mem_map.1 hb
   exact Nat.ne_of_lt (hE.lt e he)
  ·rcases List.mem_append.1 he with he | he
   ·exact Nat.lt_succ_of_lt (hE.lt e he)
   ·simp only [List.mem_singleton] at he; subst he; exact Nat.lt_succ_self _
  ·rw [List.map_append]
   have:=footTs_append hE.keys (ys:=[kx]) (us:=[a.eval k]) (M:=[]) (by simp only [footTs]; exact ⟨_,[],[],[],rfl,rfl,fk,rfl,rfl⟩)
   simpa using this
  ·rw [List.nodup_append]
   exact ⟨hE.nodup,by simp,fun b hb c hc=>by simp only [List.mem_singleton] at hc; subst hc; rintro rfl; exact g1 hb⟩
  ·rcases List.mem_append.1 he with he | he
   ·exact hE.ones e he
   ·simp only [List.mem_singleton] at he; subst he; exact hx1
  ·rw [List.map_append]
   have:=footTs_append hvs (ys:=[z]) (us:=[a.eval x]) (M:=[]) (by simp only [footTs]; exact ⟨_,[],[],[],rfl,rfl,fx,rfl,rfl⟩)
   simpa using this
theorem ins_sound {o:Oper} {t:TypeId} {m k x:Operand} (ho:o.op = .insert t m k x) (hr:Rel w0 σ hv S F a w) (h:vcMapUpd P t (σ.opd m) (σ.opd k) (σ.opd x) σ.ob K) (hn:Ans w0 σ a K next) : Does P Q o a w next:=by
 have h1 : execOp a.eval o=execOp a.eval { o with op:=.mapUpdate t m k x }:=by simp [execOp,ho]
 have h2:=mapUpd_sound (Q:=Q) (o:={ o with op:=.mapUpdate t m k x }) rfl hr h hn
 unfold Does Oper.wp at h2 ⊢
 rw [h1]
 exact h2
theorem flats_mem : ∀ {xs:List T},flats xs=true → ∀ {x:T},x∈xs→x.flat=true
 | y :: ys, h, x, hx => by
   simp only [flats,Bool.and_eq_true] at h
   rcases List.mem_cons.1 hx with rfl | hx
   ·exact h.1
   ·exact flats_mem h.2 hx
theorem find_born : ∀ {l:List MapEntry} (_:(l.map (·.born)).Nodup) {j:Nat} {e0:MapEntry} (_:l[j]? = some e0),l.findIdx? (fun e=>((e.born : Nat) : Int) == ((e0.born : Nat) : Int))=some j
 | [], _, _, _, h => by simp at h
 | a :: r, hn, 0, e0, h => by
   simp only [List.getElem?_cons_zero,Option.some.injEq] at h
   subst h
   simp [List.findIdx?_cons]
 | a :: r, hn, j + 1, e0, h => by
   simp only [List.map_cons,List.nodup_cons] at hn
   simp only [List.getElem?_cons_succ] at h
   have hne : ¬ (a.born : Int)=(e0.born : Int):=fun e=>hn.1 (List.mem_map.2 ⟨e0,List.mem_of_getElem? h,by omega⟩)
   rw [List.findIdx?_cons,find_born hn.2 h]
   simp [hne]
theorem mapEnt_sound {o:Oper} {t:TypeId} {m k:Operand} (ho:o.op = .mapEntry t m k) (hr:Rel w0 σ hv S F a w) (h:vcMapEnt P t (σ.opd m) (σ.opd k) σ.ob K) (hn:Ans w0 σ a K next) : Does P Q o a w next:=by
 unfold vcMapEnt at h
 split at h
 case h_2=>cases h
 rename_i kt et kx id hl hk hm
 split at h
 case h_2=>cases h
 rename_i s z hs hz
 obtain ⟨hkx,hzf,hz1,h⟩:=h
 split at h
 case h_2=>cases h
 rename_i a' b' ks vs p hid
 obtain ⟨hks,hlen,hK⟩:=h
 obtain ⟨zv,hzv,hz⟩:=Option.map_eq_some_iff.1 hz
 have fz : footT w z zv []:=by
  have:=ofV_foot hv w zv
  rw [hz] at this
  simpa only [footA] using this
 have hu:=lay_map hl
 obtain ⟨r,es,clock,l,hE,hels,hlv,_⟩:=hr.ob id _ hid
 obtain ⟨⟨Lm,fm,_⟩,_⟩:=hr.arg m
 rw [hm] at fm
 simp only [footA] at fm
 have hmr : a.eval m = .map (some r):=fm.1.trans hE.val
 have ak:=hr.arg k
 obtain ⟨Lk,fk,_⟩:=ak.shut_inv hk
 have fk:=(flat_foot kx (isKey_flat hkx) fk).2 w
 obtain ⟨hvf,hvs⟩:=leaf_els hels
 have hlk : ks.length=l.length:=by have:=footTs_length hE.keys; rw [List.length_map] at this; exact this.symm
 have hroot : blkOf (hv id)=some r:=by rw [hE.val]; rfl
 have fin : ∀ (es':Array MapEntry) (clock':Nat) (ks' vs':List T) (l':List MapEntry) (v:T) (u:Value) (n:Nat),(execOp a.eval o).run P w = .ok (.value (.tuple #[u,.int .i64 n])) { w with heap:=w.heap.setIfInBounds r (.map es' clock') }→K (.tp [.t v,.t (.i .i64 n)]) (σ.ob.set id (.map a' b' (.own .leaf) ks' vs' (some ((n:Int),kx)))) →
  List.Perm l' es'.toList→(l'.map (·.born)).Nodup→(∀ e∈l',e.born < clock')→footTs w ks' (l'.map (·.key)) []→flats ks'=true→ks'.Nodup→ks'.length < Bd.B→(∀ e∈l',e.val.oneCell'=true)→flats vs'=true→footTs w vs' (l'.map (·.val)) []→ks'.length=vs'.length→(∃ i : Nat,ks'[i]? = some kx∧∃ e : MapEntry,l'[i]? = some e∧e.born=n)→v.flat=true→footT w v u []→Does P Q o a w next:=by
  intro es' clock' ks' vs' l' v u n hrun hK' g1 g2 g3 g4 g5 g6 g7 g8 g9 g10 g11 g12 g13 g14
  obtain ⟨q1,q2⟩:=heap_setMap (o':=.map es' clock') hE.heap
  refine does_value hrun ?_
  have hr3:=hr.write hid (by simp) (w':={ w with heap:=w.heap.setIfInBounds r (.map es' clock') }) (o':=.map a' b' (.own .leaf) ks' vs' (some ((n:Int),kx))) (fun k hk=>q2 k (fun e=>hk (by rw [hroot,e]))) (by simp) rfl rfl rfl (Nat.le_refl _) rfl
   ⟨r,es',clock',l',hE.move q1 g1 g2 g3 g4 g5 g6 g7 g8,els_leaf g9 ((flats_foot vs' g9 g10).2 _),g11,by
    intro n' x hx
    simp only [Option.some.injEq,Prod.mk.injEq] at hx
    obtain ⟨rfl,rfl⟩:=hx
    obtain ⟨i,i1,e,i2,i3⟩:=g12
    exact ⟨i,i1,e,i2,by rw [i3]⟩⟩ (fun _=>rfl)
  have fu:=(flat_foot v g13 g14).2 { w with heap:=w.heap.setIfInBounds r (.map es' clock') }
  refine hn _ _ _ _ hv S F [] hK' hr3 ?_ (by simp) rfl
  simp only [footA,footAs]
  exact ⟨[u,.int .i64 n],rfl,u,[.int .i64 n],[],[],rfl,rfl,fu,.int .i64 n,[],[],[],rfl,rfl,by simp [footT],rfl,rfl⟩
 have hgo:=getObj_run (P:=P) hE.heap
 have hck:=checkKey_run (w:=w) hs hkx fk
 rcases hE.find hs hks hkx fk w with ⟨i,j,en,g1,g2,g3,g4,g5⟩ | ⟨g1,g5⟩
 ·have hkey : en.key=a.eval k:=flat_val kx (isKey_flat hkx) g4 fk
  have hpl:=placeT_mem hE.nodup g1
  have hj : es[j]? = some en:=by simpa using g3
  have hil : i < l.length:=get_lt g2
  obtain ⟨u,L2,q1,q2,_⟩:=footTs_get hvs (i:=i) (x:=vs[i]'(by omega)) (List.getElem?_eq_getElem (by omega))
  rw [List.getElem?_map,g2] at q1
  have q1 : en.val=u:=by simpa using q1
  subst q1
  have hvfl : (vs[i]'(by omega)).flat=true:=flats_mem hvf (List.getElem_mem _)
  have q2:=(flat_foot _ hvfl q2).2 w
  have hrun : (execOp a.eval o).run P w = .ok (.value (.tuple #[en.val,.int .i64 en.born])) { w with heap:=w.heap.setIfInBounds r (.map (es.modify j fun e=>{ e with key:=a.eval k }) clock) }:=by
   have hst:=keyStays (P:=P) hkx fk w
   simp only [execOp,ho,Instr.mapEntry,Sem.run_bind,run_underlying hu,Result.andThen_ok,hmr,hgo,hck,g5,hj,Option.map_some,Option.getD_some,hkey,hst]
   simp [setObj,Sem.run,hE.heap,goInt]
  have hmod : (es.modify j fun e=>{ e with key:=a.eval k }).toList=es.toList.set j { en with key:=a.eval k }:=by
   refine List.ext_getElem? fun i=>?_
   rw [Array.getElem?_toList,Array.getElem?_modify,List.getElem?_set]
   have hjl : j < es.toList.length:=get_lt g3
   by_cases hij : j=i
   ·subst hij
    simp only [if_true,hj,Option.map_some]
    rw [if_pos hjl]
   ·simp [hij]
  have hK2:=hK en.born (vs[i]'(by omega)) (by unfold getV; rw [hpl]; exact List.getElem?_eq_getElem (by omega))
  unfold updK updV at hK2
  rw [hpl] at hK2
  have hset : vs.set i (vs[i]'(by omega))=vs:=by simp
  dsimp only at hK2
  rw [hset] at hK2
  refine fin _ clock ks vs (l.set i { en with key:=a.eval k }) _ en.val en.born hrun hK2 (by rw [hmod]; exact set_perm hE.perm g2 g3) (by rw [map_key_set (en':={ en with key:=a.eval k }) (f:=fun x=>x.born) g2 rfl]; exact hE.born) (fun e he=>?_) (by rw [map_key_set (en':={ en with key:=a.eval k }) (f:=fun x=>x.key) g2 hkey.symm]; exact hE.keys) hE.flat hE.nodup hE.small (fun e he=>?_) hvf (by rw [map_key_set (en':={ en with key:=a.eval k }) (f:=fun x=>x.val) g2 rfl]; exact hvs) hlv ⟨i,g1,{ en with key:=a.eval k },by rw [List.getElem?_set_self hil],rfl⟩ hvfl q2
  ·rcases List.mem_or_eq_of_mem_set he with he | rfl
   ·exact hE.lt e he
   ·exact hE.lt en (List.mem_of_getElem? g2)
  ·rcases List.mem_or_eq_of_mem_set he with he | rfl
   ·exact hE.ones e he
   ·exact hE.ones en (List.mem_of_getElem? g2)
 ·have hpl:=placeT_none (i:=0) g1
  have hzr : (zeroValue et).run P w = .ok zv w:=by
   obtain ⟨inf,hinf,hzz⟩ : ∃ inf,P.info? et=some inf∧inf.zero=some zv:=by
    unfold zeroOf at hzv
    cases hi : P.info? et with
    | none => simp [hi] at hzv
    | some inf => exact ⟨inf,rfl,by simpa [hi] using hzv⟩
   simp [zeroValue,typeInfo,hinf,hzz]
  have hrun : (execOp a.eval o).run P w = .ok (.value (.tuple #[zv,.int .i64 clock])) { w with heap:=w.heap.setIfInBounds r (.map (es.push { key:=a.eval k,val:=zv,born:=clock }) (clock + 1)) }:=by
   simp only [execOp,ho,Instr.mapEntry,Sem.run_bind,run_underlying hu,Result.andThen_ok,hmr,hgo,hck,g5,hzr]
   simp [setObj,Sem.run,hE.heap,goInt]
  have hx1:=T.one_value hz1 fz
  have hK2:=hK clock z (by unfold getV; rw [hpl])
  unfold updK updV at hK2
  rw [hpl] at hK2
  refine fin _ (clock + 1) (ks ++ [kx]) (vs ++ [z]) (l ++ [{ key:=a.eval k,val:=zv,born:=clock }]) z zv clock hrun hK2 (by rw [Array.toList_push]; exact hE.perm.append_right _) ?_ (fun e he=>?_) ?_ (by rw [flats_append,hE.flat]; simp [flats,isKey_flat hkx]) ?_ (by simpa using hlen g1) (fun e he=>?_) (by rw [flats_append,hvf]; simp [flats,hzf]) ?_ (by simp [hlv]) ⟨l.length,by rw [← hlk]; simp,{ key:=a.eval k,val:=zv,born:=clock },by simp,rfl⟩ hzf fz
  ·rw [List.map_append,List.nodup_append]
   refine ⟨hE.born,by simp,fun b hb c hc=>?_⟩
   simp only [List.map_cons,List.map_nil,List.mem_singleton] at hc
   subst hc
   obtain ⟨e,he,rfl⟩:=List.mem_map.1 hb
   exact Nat.ne_of_lt (hE.lt e he)
  ·rcases List.mem_append.1 he with he | he
   ·exact Nat.lt_succ_of_lt (hE.lt e he)
   ·simp only [List.mem_singleton] at he; subst he; exact Nat.lt_succ_self _
  ·rw [List.map_append]
   have:=footTs_append hE.keys (ys:=[kx]) (us:=[a.eval k]) (M:=[]) (by simp only [footTs]; exact ⟨_,[],[],[],rfl,rfl,fk,rfl,rfl⟩)
   simpa using this
  ·rw [List.nodup_append]
   exact ⟨hE.nodup,by simp,fun b hb c hc=>by simp only [List.mem_singleton] at hc; subst hc; rintro rfl; exact g1 hb⟩
  ·rcases List.mem_append.1 he with he | he
   ·exact hE.ones e he
   ·simp only [List.mem_singleton] at he; subst he; exact hx1
  ·rw [List.map_append]
   have:=footTs_append hvs (ys:=[z]) (us:=[zv]) (M:=[]) (by simp only [footTs]; exact ⟨_,[],[],[],rfl,rfl,fz,rfl,rfl⟩)
   simpa using this
theorem entSt_sound {o:Oper} {t:TypeId} {m k x:Operand} (ho:o.op = .entryStore t m k x) (hr:Rel w0 σ hv S F a w) (h:vcEntSt (σ.opd m) (σ.opd k) (σ.opd x) σ.ob K) (hn:Ans w0 σ a K next) : Does P Q o a w next:=by
 unfold vcEntSt at h
 split at h
 case h_2=>cases h
 rename_i id kd n z hm hk hx
 obtain ⟨hzf,hz1,h⟩:=h
 split at h
 case h_2=>cases h
 rename_i a' b' ks vs n' kx hid
 obtain ⟨rfl,hK⟩:=h
 obtain ⟨r,es,clock,l,hE,hels,hlv,hp⟩:=hr.ob id _ hid
 obtain ⟨i,g1,en,g2,g3⟩:=hp n kx rfl
 obtain ⟨⟨Lm,fm,_⟩,_⟩:=hr.arg m
 rw [hm] at fm
 simp only [footA] at fm
 have hmr : a.eval m = .map (some r):=fm.1.trans hE.val
 have ak:=hr.arg k
 rw [hk] at ak
 have ek:=ak.i_inv
 have ax:=hr.arg x
 obtain ⟨Lx,fx,_⟩:=ax.shut_inv hx
 have fx:=(flat_foot z hzf fx).2 w
 obtain ⟨hvf,hvs⟩:=leaf_els hels
 have hlk : ks.length=l.length:=by have:=footTs_length hE.keys; rw [List.length_map] at this; exact this.symm
 have hroot : blkOf (hv id)=some r:=by rw [hE.val]; rfl
 have hgo:=getObj_run (P:=P) hE.heap
 have hx1:=T.one_value hz1 fx
 have hpl:=placeT_mem hE.nodup g1
 have hil : i < l.length:=get_lt g2
 obtain ⟨j,hjm⟩:=List.getElem?_of_mem (hE.perm.mem_iff.1 (List.mem_of_getElem? g2))
 have hj : es[j]? = some en:=by simpa using hjm
 have hbn : (es.toList.map (·.born)).Nodup:=(hE.perm.map _).nodup_iff.1 hE.born
 have hfind : es.findIdx? (fun e=>((e.born : Nat) : Int) == n)=some j:=by
  rw [← g3,← find_born hbn hjm]
  cases es
  simp
 have hrun : (execOp a.eval o).run P w = .ok .skip { w with heap:=w.heap.setIfInBounds r (.map (es.modify j fun e=>{ e with val:=a.eval x }) clock) }:=by
  simp only [execOp,ho,Instr.entryStore,Sem.run_bind,Result.andThen_ok,hmr,hgo,ek]
  simp [asInt,asIntOf,hfind,setObj,Sem.run,hE.heap]
 have hmod : (es.modify j fun e=>{ e with val:=a.eval x }).toList=es.toList.set j { en with val:=a.eval x }:=by
  refine List.ext_getElem? fun i=>?_
  rw [Array.getElem?_toList,Array.getElem?_modify,List.getElem?_set]
  have hjl : j < es.toList.length:=get_lt hjm
  by_cases hij : j=i
  ·subst hij
   simp only [if_true,hj,Option.map_some]
   rw [if_pos hjl]
  ·simp [hij]
 unfold updV at hK
 rw [hpl] at hK
 obtain ⟨q1,q2⟩:=heap_setMap (o':=.map (es.modify j fun e=>{ e with val:=a.eval x }) clock) hE.heap
 refine does_skip hrun ?_
 have hr3:=hr.write hid (by simp) (w':={ w with heap:=w.heap.setIfInBounds r (.map (es.modify j fun e=>{ e with val:=a.eval x }) clock) }) (o':=.map a' b' (.own .leaf) ks (vs.set i z) none) (fun k hk=>q2 k (fun e=>hk (by rw [hroot,e]))) (by simp) rfl rfl rfl (Nat.le_refl _) rfl
  ⟨r, _,clock,l.set i { en with val:=a.eval x },hE.move q1 (by rw [hmod]; exact set_perm hE.perm g2 hjm) (by rw [map_key_set (en':={ en with val:=a.eval x }) (f:=fun x=>x.born) g2 rfl]; exact hE.born) (fun e he=>by
      rcases List.mem_or_eq_of_mem_set he with he | rfl
      ·exact hE.lt e he
      ·exact hE.lt en (List.mem_of_getElem? g2)) (by rw [map_key_set (en':={ en with val:=a.eval x }) (f:=fun x=>x.key) g2 rfl]; exact hE.keys) hE.flat hE.nodup hE.small (fun e he=>by
      rcases List.mem_or_eq_of_mem_set he with he | rfl
      ·exact hE.ones e he
      ·exact hx1),els_leaf (flats_set hvf hzf) (by
       rw [List.map_set]
       obtain ⟨L',q1,q2⟩:=footTs_setflat hvs fx (by omega:i < vs.length)
       have : L'=[]:=List.eq_nil_iff_forall_not_mem.2 fun b hb=>by cases q2 b hb
       rw [this] at q1
       exact (flats_foot _ (flats_set hvf hzf) q1).2 _),by simpa using hlv,by simp⟩ (fun _=>rfl)
 exact hn _ _ _ _ hv S F [] hK hr3 (by simp [footA]) (by simp) rfl
theorem delete_sound {o:Oper} {c:Call} {t:TypeId} {ts:List TypeId} {m k:Operand} (ho:o.op = .call c) (hc:c.callee = .builtin .delete) (ha:c.args.toList=[m,k]) (ht:c.argTypes.toList=t :: ts) (hr:Rel w0 σ hv S F a w) (h:vcDelete P t (σ.opd m) (σ.opd k) σ.ob K) (hn:Ans w0 σ a K next) : Does P Q o a w next:=by
 unfold vcDelete at h
 split at h
 case h_2=>cases h
 rename_i kt et kx id hl hk hm
 split at h
 case h_2=>cases h
 rename_i s hs
 obtain ⟨hkx,h⟩:=h
 split at h
 case h_2=>cases h
 rename_i a' b' ks vs p hid
 obtain ⟨hks,hK⟩:=h
 have hu:=lay_map hl
 obtain ⟨r,es,clock,l,hE,hels,hlv,_⟩:=hr.ob id _ hid
 obtain ⟨⟨Lm,fm,_⟩,_⟩:=hr.arg m
 rw [hm] at fm
 simp only [footA] at fm
 have hmr : a.eval m = .map (some r):=fm.1.trans hE.val
 have ak:=hr.arg k
 obtain ⟨Lk,fk,_⟩:=ak.shut_inv hk
 have fk:=(flat_foot kx (isKey_flat hkx) fk).2 w
 obtain ⟨hvf,hvs⟩:=leaf_els hels
 have hlk : ks.length=l.length:=by have:=footTs_length hE.keys; rw [List.length_map] at this; exact this.symm
 have hroot : blkOf (hv id)=some r:=by rw [hE.val]; rfl
 have hargs : c.args.map a.eval = #[a.eval m,a.eval k]:=by
  rw [← Array.toList_inj,Array.toList_map,ha]; rfl
 have hts : c.argTypes[0]? = some t:=by rw [← Array.getElem?_toList,ht]; rfl
 have ha' : c.args = #[m,k]:=by rw [← Array.toList_inj,ha]
 have fin : ∀ (es':Array MapEntry) (ks' vs':List T) (l':List MapEntry),(Builtin.delete_ c.argTypes o.type #[a.eval m,a.eval k]).run P w = .ok (.tuple #[]) { w with heap:=w.heap.setIfInBounds r (.map es' clock) }→K (.tp []) (σ.ob.set id (.map a' b' (.own .leaf) ks' vs' none)) →
  List.Perm l' es'.toList→(l'.map (·.born)).Nodup→(∀ e∈l',e.born < clock)→footTs w ks' (l'.map (·.key)) []→flats ks'=true→ks'.Nodup→ks'.length < Bd.B→(∀ e∈l',e.val.oneCell'=true)→flats vs'=true→footTs w vs' (l'.map (·.val)) []→ks'.length=vs'.length→Does P Q o a w next:=by
  intro es' ks' vs' l' hrun hK' g1 g2 g3 g4 g5 g6 g7 g8 g9 g10 g11
  obtain ⟨q1,q2⟩:=heap_setMap (o':=.map es' clock) hE.heap
  refine does_value (v:=.tuple #[]) (w':={ w with heap:=w.heap.setIfInBounds r (.map es' clock) }) (by simp [execOp,ho,resolve,hc,ha',invoke,builtin,hrun]) ?_
  have hr3:=hr.write hid (by simp) (w':={ w with heap:=w.heap.setIfInBounds r (.map es' clock) }) (o':=.map a' b' (.own .leaf) ks' vs' none) (fun k hk=>q2 k (fun e=>hk (by rw [hroot,e]))) (by simp) rfl rfl rfl (Nat.le_refl _) rfl
   ⟨r,es',clock,l',hE.move q1 g1 g2 g3 g4 g5 g6 g7 g8,els_leaf g9 ((flats_foot vs' g9 g10).2 _),g11,by simp⟩ (fun _=>rfl)
  exact hn _ _ _ _ hv S F [] hK' hr3 (by simp [footA,footAs]) (by simp) rfl
 have hgo:=getObj_run (P:=P) hE.heap
 have hck:=fun e=>checkKey_run (w:=w) hs hkx fk e w
 rcases hE.find hs hks hkx fk w with ⟨i,j,en,g1,g2,g3,g4,g5⟩ | ⟨g1,g5⟩
 ·have hpl:=placeT_mem hE.nodup g1
  have hj : es[j]? = some en:=by simpa using g3
  have hrun : (Builtin.delete_ c.argTypes o.type #[a.eval m,a.eval k]).run P w = .ok (.tuple #[]) { w with heap:=w.heap.setIfInBounds r (.map (es.eraseIdxIfInBounds j) clock) }:=by
   simp only [Builtin.delete_,hts,Sem.run_bind,run_underlying hu,Result.andThen_ok,hmr,hgo,hck,g5,List.getElem?_toArray,List.getElem?_cons_zero,List.getElem?_cons_succ]
   simp [setObj,Sem.run,hE.heap]
  unfold delK delV at hK
  rw [hpl] at hK
  have hil : i < l.length:=get_lt g2
  have herase : (es.eraseIdxIfInBounds j).toList=es.toList.eraseIdx j:=by simp
  refine fin _ (ks.eraseIdx i) (vs.eraseIdx i) (l.eraseIdx i) hrun hK (by rw [herase]; exact erase_perm hE.perm g2 g3) ?_ (fun e he=>hE.lt e ((List.eraseIdx_sublist l i).subset he)) ?_ (flats_erase hE.flat i) (hE.nodup.sublist (List.eraseIdx_sublist ks i)) ?_ (fun e he=>hE.ones e ((List.eraseIdx_sublist l i).subset he)) (flats_erase hvf i) ?_ ?_
  ·exact hE.born.sublist ((List.eraseIdx_sublist l i).map _)
  ·have:=footTs_erase hE.keys i; rwa [erase_map] at this
  ·have:=(List.eraseIdx_sublist ks i).length_le; have:=hE.small; omega
  ·have:=footTs_erase hvs i; rwa [erase_map] at this
  ·rw [List.length_eraseIdx,List.length_eraseIdx,hlv]
 ·have hpl:=placeT_none (i:=0) g1
  have hrun : (Builtin.delete_ c.argTypes o.type #[a.eval m,a.eval k]).run P w = .ok (.tuple #[]) { w with heap:=w.heap.setIfInBounds r (.map es clock) }:=by
   simp only [Builtin.delete_,hts,Sem.run_bind,run_underlying hu,Result.andThen_ok,hmr,hgo,hck,g5,List.getElem?_toArray,List.getElem?_cons_zero,List.getElem?_cons_succ]
   simp [setObj,Sem.run,hE.heap]
  unfold delK delV at hK
  rw [hpl] at hK
  exact fin es ks vs l hrun hK hE.perm hE.born hE.lt hE.keys hE.flat hE.nodup hE.small hE.ones hvf hvs hlv
theorem makeMap_sound {o:Oper} {t:TypeId} {r:Option Operand} (ho:o.op = .makeMap t r) (hr:Rel w0 σ hv S F a w) (h:vcMakeMap P t (r.map σ.opd) σ.ob K) (hn:Ans w0 σ a K next) : Does P Q o a w next:=by
 have g:=Grew.alloc w (.map #[] 0)
 have main : ∀ kt et,(execOp a.eval o).run P w = .ok (.value (.map (some w.heap.size))) (w.alloc (.map #[] 0))→K (.mr σ.ob.length) (σ.ob ++ [.map kt et (.own .leaf) [] [] none])→Does P Q o a w next:=by
  intro kt et hrun hK
  refine does_value hrun ?_
  obtain ⟨hv',_,h1,h2,h3⟩:=hr.new g (o:=.map kt et (.own .leaf) [] [] none) (v:=.map (some w.heap.size)) (Fi:=[])
   (by intro b hb; simp [blkOf] at hb; subst hb; exact ⟨Nat.le_refl _,by simp⟩) rfl rfl (by simp) (by simp) (by
    intro hv' hB he hn'
    refine ⟨w.heap.size,#[],0,[],⟨rfl,heap_alloc_new w _,List.Perm.refl _,by simp,by simp,by simp [footTs],rfl,by simp,by have:=Bd.lo; simp; omega,by simp⟩,els_leaf rfl (by simp [footTs]),rfl,by simp⟩)
  exact hn _ _ _ _ hv' _ _ [] hK h3 (by simp only [footA]; exact ⟨h2.symm,trivial⟩) (by simp) (by simp [AV.under])
 unfold vcMakeMap at h
 split at h
 ·rename_i kt et hl hrn
  have hr0 : r=none:=by cases r<;>first | rfl | (simp at hrn)
  subst hr0
  exact main _ _ (by simp [execOp,ho,Instr.makeMap,newObj]; rfl) h
 ·rename_i kt et k n hl hrn
  cases r with
  | none => simp at hrn
  | some x =>
    simp only [Option.map_some,Option.some.injEq] at hrn
    have ax:=hr.arg x
    rw [hrn] at ax
    have hx:=ax.i_inv
    exact main _ _ (by simp [execOp,ho,Instr.makeMap,newObj,hx,run_underlying (lay_map hl),asInt,asIntOf]; rfl) h
 ·cases h
end
end Go.Proofs.YtmgdkkhnjkepiaaGreat.BX
namespace Go.Proofs.YtmgdkkhnjkepiaaGreat.BX
open Nat renaming reduceEqDiff → zA, reduceLT → zB, reduceLeDiff → zC, reduceAdd → zD, reduceMul → zE, reduceSub → zF, reduceBEq → zG
set_option linter.unusedSectionVars false
set_option linter.unusedSimpArgs false
set_option linter.unusedVariables false
open Go Go.RowKit
variable [Bd]
section
variable {P:Program} {Q:Exit→Act→World→Prop} {w0:Base} {σ:St} {hv:Hv} {S:Nat→Prop} {F:Nat→List Nat} {a:Act} {w:World}
theorem set_same {α:Type} : ∀ {l:List α} {i:Nat} {x:α},l[i]? = some x→l.set i x=l
 | [], _, _, h => by simp at h
 | y :: l, 0, x, h => by simp at h; subst h; rfl
 | y :: l, i + 1, x, h => by simp only [List.set_cons_succ]; rw [set_same (by simpa using h)]
theorem setV_same {v u:Value} {j:Nat} (h:v.cells[j]? = some u) : setV v j u=v:=by
 unfold setV
 split
 ·rename_i us
  have h : us[j]? = some u:=h
  congr 1
  apply Array.ext'
  rw [List.toList_toArray]
  exact set_same (by rw [Array.getElem?_toList]; exact h)
 ·rename_i hn
  cases v with
  | agg us => exact absurd rfl (hn us)
  | _ => cases j with
    | zero => simpa [Value.cells] using h.symm
    | succ j => simp [Value.cells] at h
theorem ownTs_cell : ∀ {ss:List Sh} {cs:List T} {vs:List Value} {L:List Nat} {j:Nat} {sj:Sh},ownTs w ss cs vs L→ss[j]? = some sj →
 ∃ c u Lj L1,cs[j]? = some c∧vs[j]? = some u∧ownT w sj c u Lj∧List.Perm L (Lj ++ L1) ∧
   ∀ (w':World) (c':T) (Lj':List Nat) (u':Value),(∀ b∈L1,w'.heap[b]? = w.heap[b]?)→ownT w' sj c' u' Lj' → ∃ L',ownTs w' ss (cs.set j c') (vs.set j u') L' ∧ List.Perm L' (Lj' ++ L1)
 | [], _, _, _, _, _, _, h => by simp at h
 | s :: ss, [], _, _, _, _, h, _ => by simp only [ownTs] at h
 | s :: ss, c :: cs, vs, L, 0, sj, h, hs => by
   simp only [List.getElem?_cons_zero,Option.some.injEq] at hs
   subst hs
   simp only [ownTs] at h
   obtain ⟨v,vs',L1,L2,rfl,rfl,h1,h2⟩:=h
   refine ⟨c,v,L1,L2,rfl,rfl,h1,List.Perm.refl _,fun w' c' Lj' u' ha hx=>⟨Lj' ++ L2,?_,List.Perm.refl _⟩⟩
   simp only [List.set_cons_zero,ownTs]
   exact ⟨u',vs',Lj',L2,rfl,rfl,hx,ownTs_mono ss cs vs' L2 ha h2⟩
 | s :: ss, c :: cs, vs, L, j + 1, sj, h, hs => by
   simp only [List.getElem?_cons_succ] at hs
   simp only [ownTs] at h
   obtain ⟨v,vs',L1,L2,rfl,rfl,h1,h2⟩:=h
   obtain ⟨c',u,Lj,L3,q1,q2,q3,q4,q5⟩:=ownTs_cell h2 hs
   refine ⟨c',u,Lj,L1 ++ L3,by simpa using q1,by simpa using q2,q3,?_,fun w' c'' Lj' u' ha hx=>?_⟩
   ·refine (q4.append_left L1).trans ?_
    rw [← List.append_assoc,← List.append_assoc]
    exact (List.perm_append_comm).append_right L3
   ·obtain ⟨L',r1,r2⟩:=q5 w' c'' Lj' u' (fun b hb=>ha b (List.mem_append_right _ hb)) hx
    refine ⟨L1 ++ L',?_,?_⟩
    ·simp only [List.set_cons_succ,ownTs]
     exact ⟨v,_,L1,L',rfl,rfl,ownT_mono s c v L1 (fun b hb=>ha b (List.mem_append_left _ hb)) h1,r1⟩
    ·refine (r2.append_left L1).trans ?_
     rw [← List.append_assoc,← List.append_assoc]
     exact (List.perm_append_comm).append_right L3
theorem ownEs_cell {s:Sh} : ∀ {es:List T} {vs:List Value} {L:List Nat} {i:Nat} {y:T},ownEs w s es vs L→es[i]? = some y →
 ∃ v Li L1,vs[i]? = some v∧ownT w s y v Li∧List.Perm L (Li ++ L1) ∧
   ∀ (w':World) (y':T) (Li':List Nat) (v':Value),(∀ b∈L1,w'.heap[b]? = w.heap[b]?)→ownT w' s y' v' Li' → ∃ L',ownEs w' s (es.set i y') (vs.set i v') L' ∧ List.Perm L' (Li' ++ L1)
 | [], _, _, _, _, _, h => by simp at h
 | c :: cs, vs, L, 0, y, h, hs => by
   simp only [List.getElem?_cons_zero,Option.some.injEq] at hs
   subst hs
   simp only [ownEs] at h
   obtain ⟨v,vs',L1,L2,rfl,rfl,h1,h2⟩:=h
   refine ⟨v,L1,L2,rfl,h1,List.Perm.refl _,fun w' c' Lj' u' ha hx=>⟨Lj' ++ L2,?_,List.Perm.refl _⟩⟩
   simp only [List.set_cons_zero,ownEs]
   exact ⟨u',vs',Lj',L2,rfl,rfl,hx,ownEs_mono s cs vs' L2 ha h2⟩
 | c :: cs, vs, L, i + 1, y, h, hs => by
   simp only [List.getElem?_cons_succ] at hs
   simp only [ownEs] at h
   obtain ⟨v,vs',L1,L2,rfl,rfl,h1,h2⟩:=h
   obtain ⟨u,Lj,L3,q2,q3,q4,q5⟩:=ownEs_cell h2 hs
   refine ⟨u,Lj,L1 ++ L3,by simpa using q2,q3,?_,fun w' c'' Lj' u' ha hx=>?_⟩
   ·refine (q4.append_left L1).trans ?_
    rw [← List.append_assoc,← List.append_assoc]
    exact (List.perm_append_comm).append_right L3
   ·obtain ⟨L',r1,r2⟩:=q5 w' c'' Lj' u' (fun b hb=>ha b (List.mem_append_right _ hb)) hx
    refine ⟨L1 ++ L',?_,?_⟩
    ·simp only [List.set_cons_succ,ownEs]
     exact ⟨v,_,L1,L',rfl,rfl,ownT_mono s c v L1 (fun b hb=>ha b (List.mem_append_left _ hb)) h1,r1⟩
    ·refine (r2.append_left L1).trans ?_
     rw [← List.append_assoc,← List.append_assoc]
     exact (List.perm_append_comm).append_right L3
theorem ownsRow_slice {base:Nat} {e:TypeId} {m n:Nat} {v:Value} {xs:List Value} (h:w.ownsRow base e m v n xs) : ∃ A n c,v = .slice A n c:=by
 rcases h.2 with ⟨h,_⟩ | ⟨g,cap,cur,h,_⟩
 ·exact ⟨_,_,_,h⟩
 ·exact ⟨_,_,_,h⟩
theorem own_cell {s:Sh} {y:T} {v:Value} {L:List Nat} {j:Nat} {e1:TypeId} {m1:Nat} {s1:Sh} (h:ownT w s y v L) (hs:s.cells[j]? = some (.sl e1 m1 s1)) :
 ∃ xs u Lj L1,y.cells[j]? = some (.sl xs)∧v.cells[j]? = some u∧ownT w (.sl e1 m1 s1) (.sl xs) u Lj∧List.Perm L (Lj ++ L1) ∧
   ∀ (w':World) (xs':List T) (Lj':List Nat) (u':Value),(∀ b∈L1,w'.heap[b]? = w.heap[b]?)→ownT w' (.sl e1 m1 s1) (.sl xs') u' Lj' → ∃ L',ownT w' s (y.setCell j (.sl xs')) (setV v j u') L' ∧ List.Perm L' (Lj' ++ L1):=by
 cases s with
 | leaf => cases j<;>simp [Sh.cells] at hs
 | sl e m s' =>
   cases j with
   | succ j => simp [Sh.cells] at hs
   | zero =>
     simp only [Sh.cells,List.getElem?_cons_zero,Option.some.injEq,Sh.sl.injEq] at hs
     obtain ⟨rfl,rfl,rfl⟩:=hs
     cases y<;>simp only [ownT] at h
     rename_i es
     have hsl : ∃ A n c,v = .slice A n c:=by obtain ⟨vs,L',h1,_⟩:=h; exact ownsRow_slice h1
     obtain ⟨A,n,c,rfl⟩:=hsl
     refine ⟨es,_,L,[],rfl,rfl,by simp only [ownT]; exact h,by simp,fun w' xs' Lj' u' _ hx=>⟨Lj',?_,by simp⟩⟩
     simp only [T.setCell,setV]
     exact hx
 | ag ss =>
   simp only [Sh.cells] at hs
   cases y<;>simp only [ownT] at h
   rename_i cs
   obtain ⟨vs,rfl,h⟩:=h
   obtain ⟨c,u,Lj,L1,q1,q2,q3,q4,q5⟩:=ownTs_cell h hs
   obtain ⟨xs,rfl⟩ : ∃ xs,c = .sl xs:=by cases c<;>simp only [ownT] at q3; exact ⟨_,rfl⟩
   refine ⟨xs,u,Lj,L1,by simpa [T.cells] using q1,by simpa [Value.cells] using q2,q3,q4,fun w' xs' Lj' u' ha hx=>?_⟩
   obtain ⟨L',r1,r2⟩:=q5 w' _ Lj' u' ha hx
   exact ⟨L',by simp only [T.setCell,ownT,setV]; exact ⟨vs.set j u',rfl,r1⟩,r2⟩
theorem Rel.openRow (hr:Rel w0 σ hv S F a w) {id i j:Nat} {e:TypeId} {m:Nat} {s:Sh} {es:List T} {y:T} {e1:TypeId} {m1:Nat} {s1:Sh} {xs:List T} (hid:σ.ob[id]? = some (.arr e m (.own s) es)) (hs:s.cells[j]? = some (.sl e1 m1 s1)) (hi:es[i]? = some y) (hy:y.cells[j]? = some (.sl xs))
 (hnt:∀ t,(getL σ.tm t).noBw=true) (hno:∀ (k:Nat) o,σ.ob[k]? = some o→o.noBw=true) :
 ∃ (hv':Hv) (F':Nat→List Nat) (vs:List Value) (v:Value),(∀ k,k < σ.ob.length→hv' k=hv k)∧w.ownsRow 0 e m (hv id) es.length (cellsL vs)∧(∀ v∈vs,v.cells.size=m)∧vs[i]? = some v∧v.cells[j]? = some (hv' σ.ob.length) ∧
   Rel w0 { σ with ob:=σ.ob.set id (.hole e m s es i j σ.ob.length) ++ [.arr e1 m1 (.own s1) xs] } hv' S F' a w:=by
 obtain ⟨vs,h1,⟨L,h2,h3,h4⟩,h5,h6⟩:=hr.ob id _ hid
 obtain ⟨v,Li,LA,a1,a2,a3,a4⟩:=ownEs_cell h2 hi
 obtain ⟨xs0,u,Lj,LB,b1,b2,b3,b4,b5⟩:=own_cell a2 hs
 rw [hy] at b1
 simp only [Option.some.injEq,T.sl.injEq] at b1
 subst b1
 have hperm : List.Perm L (Lj ++ (LB ++ LA)):=by
  rw [← List.append_assoc]; exact a3.trans (b4.append_right LA)
 have hnd : (Lj ++ (LB ++ LA)).Nodup:=hperm.nodup_iff.1 h3
 have b3':=b3
 simp only [ownT] at b3
 obtain ⟨us,L',c1,c2,c3,c4,rfl⟩:=b3
 have hin : ∀ b,b∈((blkOf u).toList ++ L') ++ (LB ++ LA)→b∈F id:=fun b hb=>h4 b (hperm.mem_iff.2 hb)
 have hlt : id < σ.ob.length:=get_lt hid
 obtain ⟨hnd1,hnd2,hnd3⟩:=List.nodup_append.1 hnd
 obtain ⟨hnd4,hnd5,hnd6⟩:=List.nodup_append.1 hnd1
 have own:=hr.fown id _ hid rfl
 have uF : ∀ b,blkOf u=some b→b∈F id:=fun b hb=>hin b (by simp [hb])
 have hu1 : u.oneCell'=true:=by obtain ⟨A,n,c,rfl⟩:=ownsRow_slice c1; rfl
 let n:=σ.ob.length
 let B' : Nat→Prop:=fun b=>hv.B b∧blkOf u≠some b
 let hv' : Hv:=⟨fun k=>if k=σ.ob.length then u else hv k,B'⟩
 have he : ∀ k,k < σ.ob.length→hv' k=hv k:=fun k hk=>by show (if k=σ.ob.length then u else hv k)=_; rw [if_neg (by omega)]
 have hn : hv' σ.ob.length=u:=by show (if σ.ob.length=σ.ob.length then u else _)=_; rw [if_pos rfl]
 let F' : Nat→List Nat:=fun k=>if k=σ.ob.length then L' else if k=id then LB ++ LA else F k
 have hFn : F' σ.ob.length=L':=by show (if _ then _ else _)=_; rw [if_pos rfl]
 have hFid : F' id=LB ++ LA:=by show (if _ then _ else _)=_; rw [if_neg (by omega),if_pos rfl]
 have hFk : ∀ k,k < σ.ob.length→k≠id→F' k=F k:=fun k h1 h2=>by show (if _ then _ else _)=_; rw [if_neg (by omega),if_neg h2]
 have get : ∀ (k:Nat) o,(σ.ob.set id (Ob.hole e m s es i j σ.ob.length) ++ [Ob.arr e1 m1 (.own s1) xs])[k]? = some o→(k < σ.ob.length∧k≠id∧σ.ob[k]? = some o) ∨ (k=id∧o = .hole e m s es i j σ.ob.length) ∨ (k=σ.ob.length∧o = .arr e1 m1 (.own s1) xs):=by
  intro k o hk
  rcases app_get hk with ⟨h,hk⟩ | ⟨h,rfl⟩
  ·rw [List.length_set] at h
   rcases set_get hk with ⟨rfl,rfl⟩ | ⟨hne,hk⟩
   ·exact .inr (.inl ⟨rfl,rfl⟩)
   ·exact .inl ⟨h,hne,hk⟩
  ·rw [List.length_set] at h
   exact .inr (.inr ⟨h,rfl⟩)
 have hlen : (σ.ob.set id (Ob.hole e m s es i j σ.ob.length) ++ [Ob.arr e1 m1 (.own s1) xs]).length=σ.ob.length + 1:=by simp
 refine ⟨hv',F',vs,v,he,h1,h5,a1,by rw [hn]; exact b2,?_⟩
 have hag : ∀ (w':World) (xs':List T) (Lj':List Nat) (u':Value),(∀ b∈LB ++ LA,w'.heap[b]? = w.heap[b]?)→ownT w' (.sl e1 m1 s1) (.sl xs') u' Lj' → ∃ L',ownEs w' s (es.set i (y.setCell j (.sl xs'))) (vs.set i (setV v j u')) L' ∧ List.Perm L' (Lj' ++ (LB ++ LA)):=by
  intro w' xs' Lj' u' ha hx
  obtain ⟨L2,r1,r2⟩:=b5 w' xs' Lj' u' (fun b hb=>ha b (List.mem_append_left _ hb)) hx
  obtain ⟨L3,r3,r4⟩:=a4 w' _ L2 _ (fun b hb=>ha b (List.mem_append_right _ hb)) r1
  refine ⟨L3,r3,r4.trans ?_⟩
  rw [← List.append_assoc]
  exact r2.append_right LA
 have rootk : ∀ (k:Nat) o,k < σ.ob.length→σ.ob[k]? = some o→o ≠ .dead → ∀ b,blkOf (hv k)=some b→blkOf u≠some b:=fun k o _ hk hd b hb hh=>(hr.root k o hk hd b hb).2.2 (own b (uF b hh)).2.1
 refine { size:=hr.size,defs:=hr.defs,tm:=fun t=>?_,utm:=fun t=>?_,ob:=fun k o hk=>?_,uob:=fun k o hk=>?_,root:=fun k o hk hd b hb=>?_,sep:=fun k l ok ol hkl hk hl dk dl b hb=>?_,SB:=fun b hb=>⟨hr.SB b hb,fun hh=>(own b (uF b hh)).2.2 hb⟩,Blt:=fun b hb=>hr.Blt b hb.1,Bin:=fun b hb=>hr.Bin b hb.1,fown:=fun k o hk hown b hb=>?_,fsep:=fun k l ok ol hkl hk hl hok hol b hb=>?_,below:=hr.below,one:=fun k=>?_,an:=by rw [hlen]; have:=hr.an; omega,av:=fun k hk=>by rw [he k (by have:=hr.an; omega)]; exact hr.av k hk }
 ·obtain ⟨Lt,q1,q2⟩:=hr.tm t
  exact ⟨Lt,footA_anyB he _ _ Lt (hnt t) (hr.utm t) q1,q2⟩
 ·rw [hlen]; exact AV.under_mono (by omega) _ (hr.utm t)
 ·rcases get k o hk with ⟨hk1,hk2,hk3⟩ | ⟨rfl,rfl⟩ | ⟨rfl,rfl⟩
  ·rw [hFk k hk1 hk2,he k hk1]
   by_cases hd : o = .dead
   ·subst hd; trivial
   ·have hu:=hr.uob k o hk3
    have ho:=hr.ob k o hk3
    -- the map on values: fixed on all that stand
    have hv2 : ObR ⟨fun k=>if k < σ.ob.length then hv k else hv k,B'⟩ S w (F k) (hv k) (o.ren fun i=>i):=ho.anyB (hno k o hk3) (fun i=>by dsimp only; split<;>rfl)
    have hid' : o.ren (fun i=>i)=o:=by
     cases o<;>simp only [Ob.ren]
     rename_i x
     congr 1
     exact ren_id x
    rw [hid'] at hv2
    exact hv2.mono hu (hv':=hv') (fun i hi=>by rw [he i hi]; dsimp only; split<;>rfl) (fun b hb=>⟨hb,rfl⟩) (fun b hb=>⟨hb,rfl⟩) (fun _ b _=>rfl) (fun b _=>rfl)
  ·rw [hFid,he k hlt]
   exact ⟨vs,v,y,LB ++ LA,e1,m1,s1,h1,h5,h6,hi,a1,by rw [hn]; exact b2,hs,hnd2,fun b hb=>hb,hag⟩
  ·rw [hFn,hn]
   exact ⟨us,c1,⟨L',c2,hnd5,fun b hb=>hb⟩,c3,c4⟩
 ·rw [hlen]
  rcases get k o hk with ⟨hk1,hk2,hk3⟩ | ⟨rfl,rfl⟩ | ⟨rfl,rfl⟩
  ·exact Ob.under_mono (by omega) _ (hr.uob k o hk3)
  ·simp [Ob.under]
  ·rfl
 ·rcases get k o hk with ⟨hk1,hk2,hk3⟩ | ⟨rfl,rfl⟩ | ⟨rfl,rfl⟩
  ·rw [he k hk1] at hb
   obtain ⟨q1,q2,q3⟩:=hr.root k o hk3 hd b hb
   exact ⟨q1,q2,fun hh=>q3 hh.1⟩
  ·rw [he k hlt] at hb
   obtain ⟨q1,q2,q3⟩:=hr.root k _ hid (by simp) b hb
   exact ⟨q1,q2,fun hh=>q3 hh.1⟩
  ·rw [hn] at hb
   obtain ⟨q1,q2,q3⟩:=own b (uF b hb)
   exact ⟨q1,hr.Blt b q2,fun hh=>hh.2 hb⟩
 ·rcases get k ok hk with ⟨hk1,hk2,hk3⟩ | ⟨rfl,rfl⟩ | ⟨rfl,rfl⟩<;>rcases get l ol hl with ⟨hl1,hl2,hl3⟩ | ⟨rfl,rfl⟩ | ⟨rfl,rfl⟩
  ·rw [he k hk1] at hb; rw [he l hl1]; exact hr.sep k l ok ol hkl hk3 hl3 dk dl b hb
  ·rw [he k hk1] at hb; rw [he l hlt]; exact hr.sep k l ok _ hkl hk3 hid dk (by simp) b hb
  ·rw [he k hk1] at hb; rw [hn]; exact rootk k ok hk1 hk3 dk b hb
  ·rw [he k hlt] at hb; rw [he l hl1]; exact hr.sep k l _ ol hkl hid hl3 (by simp) dl b hb
  ·exact absurd rfl hkl
  ·rw [he k hlt] at hb; rw [hn]; exact rootk k _ hlt hid (by simp) b hb
  ·rw [hn] at hb; rw [he l hl1]; exact fun hh=>rootk l ol hl1 hl3 dl b hh hb
  ·rw [hn] at hb; rw [he l hlt]; exact fun hh=>rootk l _ hlt hid (by simp) b hh hb
  ·exact absurd rfl hkl
 ·rcases get k o hk with ⟨hk1,hk2,hk3⟩ | ⟨rfl,rfl⟩ | ⟨rfl,rfl⟩
  ·rw [hFk k hk1 hk2] at hb
   obtain ⟨q1,q2,q3⟩:=hr.fown k o hk3 hown b hb
   exact ⟨q1,⟨q2,fun hh=>hr.fsep k id o _ hk2 hk3 hid hown rfl b hb (uF b hh)⟩,q3⟩
  ·rw [hFid] at hb
   obtain ⟨q1,q2,q3⟩:=own b (hin b (List.mem_append_right _ hb))
   exact ⟨q1,⟨q2,fun hh=>hnd3 b (List.mem_append_left _ (by simp [hh])) b hb rfl⟩,q3⟩
  ·rw [hFn] at hb
   obtain ⟨q1,q2,q3⟩:=own b (hin b (List.mem_append_left _ (List.mem_append_right _ hb)))
   exact ⟨q1,⟨q2,fun hh=>hnd6 b (by simp [hh]) b hb rfl⟩,q3⟩
 ·rcases get k ok hk with ⟨hk1,hk2,hk3⟩ | ⟨rfl,rfl⟩ | ⟨rfl,rfl⟩<;>rcases get l ol hl with ⟨hl1,hl2,hl3⟩ | ⟨rfl,rfl⟩ | ⟨rfl,rfl⟩
  ·rw [hFk k hk1 hk2] at hb; rw [hFk l hl1 hl2]; exact hr.fsep k l ok ol hkl hk3 hl3 hok hol b hb
  ·rw [hFk k hk1 hk2] at hb; rw [hFid]; exact fun hh=>hr.fsep k l ok _ hkl hk3 hid hok rfl b hb (hin b (List.mem_append_right _ hh))
  ·rw [hFk k hk1 hk2] at hb; rw [hFn]; exact fun hh=>hr.fsep k id ok _ hk2 hk3 hid hok rfl b hb (hin b (List.mem_append_left _ (List.mem_append_right _ hh)))
  ·rw [hFid] at hb; rw [hFk l hl1 hl2]; exact hr.fsep k l _ ol hkl hid hl3 rfl hol b (hin b (List.mem_append_right _ hb))
  ·exact absurd rfl hkl
  ·rw [hFid] at hb; rw [hFn]; exact fun hh=>hnd3 b (List.mem_append_right _ hh) b hb rfl
  ·rw [hFn] at hb; rw [hFk l hl1 hl2]; exact hr.fsep id l _ ol (Ne.symm hl2) hid hl3 rfl hol b (hin b (List.mem_append_left _ (List.mem_append_right _ hb)))
  ·rw [hFn] at hb; rw [hFid]; exact fun hh=>hnd3 b (List.mem_append_right _ hb) b hh rfl
  ·exact absurd rfl hkl
 ·show (if k=σ.ob.length then u else hv k).oneCell'=true
  split
  ·exact hu1
  ·exact hr.one k
theorem Rel.closeRow (hr:Rel w0 σ hv S F a w) {id i j n:Nat} {e:TypeId} {m:Nat} {s:Sh} {es:List T} {y:T} {e1:TypeId} {m1:Nat} {s1:Sh} {xs:List T} (hid:σ.ob[id]? = some (.hole e m s es i j n)) (hn:σ.ob[n]? = some (.arr e1 m1 (.own s1) xs)) (hs:s.cells[j]? = some (.sl e1 m1 s1)) (hi:es[i]? = some y) :
 ∃ (hv':Hv) (F':Nat→List Nat),Rel w0 { σ with ob:=(σ.ob.set n .dead).set id (.arr e m (.own s) (es.set i (y.setCell j (.sl xs)))) } hv' S F' a w:=by
 have hne : id≠n:=by rintro rfl; rw [hid] at hn; cases hn
 obtain ⟨vs,v,y',L0,e1',m1',s1',h1,h2,h3,h4,h5,h6,h7,h8,h9,h10⟩:=hr.ob id _ hid
 rw [hi] at h4; cases h4
 rw [hs] at h7; cases h7
 obtain ⟨us,c1,⟨L',c2,c2n,c2F⟩,c3,c4⟩:=hr.ob n _ hn
 have hsub : ownT w (.sl e1 m1 s1) (.sl xs) (hv n) ((blkOf (hv n)).toList ++ L'):=by
  simp only [ownT]
  exact ⟨us,L',c1,c2,c3,c4,rfl⟩
 obtain ⟨LL,g1,g2⟩:=h10 w xs _ _ (fun b _=>rfl) hsub
 rw [setV_same h6,set_same h5] at g1
 have ownn:=hr.fown n _ hn rfl
 have ownid:=hr.fown id _ hid rfl
 have rootn:=hr.root n _ hn (by simp)
 have hLmem : ∀ b,b∈LL→blkOf (hv n)=some b ∨ b∈L' ∨ b∈L0:=by
  intro b hb
  have:=g2.mem_iff.1 hb
  simp only [List.mem_append,Option.mem_toList,Option.mem_def] at this
  rcases this with (h | h) | h
  ·exact .inl h
  ·exact .inr (.inl h)
  ·exact .inr (.inr h)
 have hLL : LL.Nodup:=by
  rw [g2.nodup_iff,List.nodup_append,List.nodup_append]
  refine ⟨⟨by cases blkOf (hv n)<;>simp,c2n,fun b hb c hc=>?_⟩,h8,fun b hb c hc=>?_⟩
  ·rintro rfl
   simp only [Option.mem_toList,Option.mem_def] at hb
   exact (rootn b hb).2.2 (ownn b (c2F b hc)).2.1
  ·rintro rfl
   simp only [List.mem_append,Option.mem_toList,Option.mem_def] at hb
   rcases hb with hb | hb
   ·exact (rootn b hb).2.2 (ownid b (h9 b hc)).2.1
   ·exact hr.fsep n id _ _ (Ne.symm hne) hn hid rfl rfl b (c2F b hb) (h9 b hc)
 let B' : Nat→Prop:=fun b=>hv.B b ∨ blkOf (hv n)=some b
 let hv' : Hv:=⟨hv.v,B'⟩
 let F' : Nat→List Nat:=fun k=>if k=id then LL else F k
 have hFid : F' id=LL:=by show (if _ then _ else _)=_; rw [if_pos rfl]
 have hFk : ∀ k,k≠id→F' k=F k:=fun k h=>by show (if _ then _ else _)=_; rw [if_neg h]
 have get : ∀ (k:Nat) o,((σ.ob.set n .dead).set id (.arr e m (.own s) (es.set i (y.setCell j (.sl xs)))))[k]? = some o→o = .dead ∨ (k≠id∧k≠n∧σ.ob[k]? = some o) ∨ (k=id∧o = .arr e m (.own s) (es.set i (y.setCell j (.sl xs)))):=by
  intro k o hk
  rcases set_get hk with ⟨rfl,rfl⟩ | ⟨h1,hk⟩
  ·exact .inr (.inr ⟨rfl,rfl⟩)
  ·rcases set_get hk with ⟨rfl,rfl⟩ | ⟨h2,hk⟩
   ·exact .inl rfl
   ·exact .inr (.inl ⟨h1,h2,hk⟩)
 have hlen : ((σ.ob.set n .dead).set id (.arr e m (.own s) (es.set i (y.setCell j (.sl xs))))).length=σ.ob.length:=by simp
 have base : ∀ b,b∈LL→(w0.M b ∨ w0.heap.size≤b)∧B' b∧¬ S b:=by
  intro b hb
  rcases hLmem b hb with h | h | h
  ·exact ⟨(rootn b h).1,.inr h,hr.rootS hn (by simp) h⟩
  ·obtain ⟨q1,q2,q3⟩:=ownn b (c2F b h); exact ⟨q1,.inl q2,q3⟩
  ·obtain ⟨q1,q2,q3⟩:=ownid b (h9 b h); exact ⟨q1,.inl q2,q3⟩
 refine ⟨hv',F',?_⟩
 refine { size:=hr.size,defs:=hr.defs,tm:=fun t=>?_,utm:=fun t=>by rw [hlen]; exact hr.utm t,ob:=fun k o hk=>?_,uob:=fun k o hk=>?_,root:=fun k o hk hd b hb=>?_,sep:=fun k l ok ol hkl hk hl dk dl b hb=>?_,SB:=fun b hb=>.inl (hr.SB b hb),Blt:=fun b hb=>hb.elim (hr.Blt b) (fun h=>(rootn b h).2.1),Bin:=fun b hb=>hb.elim (hr.Bin b) (fun h=>.inr (rootn b h).1),fown:=fun k o hk hown b hb=>?_,fsep:=fun k l ok ol hkl hk hl hok hol b hb=>?_,below:=hr.below,one:=hr.one,an:=by rw [hlen]; exact hr.an,av:=hr.av }
 ·obtain ⟨Lt,q1,q2⟩:=hr.tm t
  exact ⟨Lt,footA_hv (hv':=hv') (n:=σ.ob.length) (fun b hb=>.inl hb) (fun _ _=>rfl) _ _ Lt (hr.utm t) q1,q2⟩
 ·rcases get k o hk with rfl | ⟨hk1,hk2,hk3⟩ | ⟨rfl,rfl⟩
  ·trivial
  ·rw [hFk k hk1]
   exact (hr.ob k o hk3).mono (hr.uob k o hk3) (hv':=hv') (fun _ _=>rfl) (fun b hb=>⟨hb,rfl⟩) (fun b hb=>⟨.inl hb,rfl⟩) (fun _ b _=>rfl) (fun b _=>rfl)
  ·rw [hFid]
   exact ⟨vs,by rw [List.length_set]; exact h1,⟨LL,g1,hLL,fun b hb=>hb⟩,h2,by rw [List.length_set]; exact h3⟩
 ·rw [hlen]
  rcases get k o hk with rfl | ⟨hk1,hk2,hk3⟩ | ⟨rfl,rfl⟩
  ·rfl
  ·exact hr.uob k o hk3
  ·rfl
 ·rcases get k o hk with rfl | ⟨hk1,hk2,hk3⟩ | ⟨rfl,rfl⟩
  ·exact absurd rfl hd
  ·obtain ⟨q1,q2,q3⟩:=hr.root k o hk3 hd b hb
   exact ⟨q1,q2,fun hh=>hh.elim q3 (fun h=>hr.sep k n o _ hk2 hk3 hn hd (by simp) b hb h)⟩
  ·obtain ⟨q1,q2,q3⟩:=hr.root k _ hid (by simp) b hb
   exact ⟨q1,q2,fun hh=>hh.elim q3 (fun h=>hr.sep k n _ _ hne hid hn (by simp) (by simp) b hb h)⟩
 ·rcases get k ok hk with rfl | ⟨hk1,hk2,hk3⟩ | ⟨rfl,rfl⟩
  ·exact absurd rfl dk
  ·rcases get l ol hl with rfl | ⟨hl1,hl2,hl3⟩ | ⟨rfl,rfl⟩
   ·exact absurd rfl dl
   ·exact hr.sep k l ok ol hkl hk3 hl3 dk dl b hb
   ·exact hr.sep k l ok _ hkl hk3 hid dk (by simp) b hb
  ·rcases get l ol hl with rfl | ⟨hl1,hl2,hl3⟩ | ⟨rfl,rfl⟩
   ·exact absurd rfl dl
   ·exact hr.sep k l _ ol hkl hid hl3 (by simp) dl b hb
   ·exact absurd rfl hkl
 ·rcases get k o hk with rfl | ⟨hk1,hk2,hk3⟩ | ⟨rfl,rfl⟩
  ·cases hown
  ·rw [hFk k hk1] at hb
   obtain ⟨q1,q2,q3⟩:=hr.fown k o hk3 hown b hb
   exact ⟨q1,.inl q2,q3⟩
  ·rw [hFid] at hb; exact base b hb
 ·have other : ∀ (k:Nat) o,k≠id→k≠n→σ.ob[k]? = some o→o.owns=true → ∀ b,b∈F k→b ∉ LL:=by
   intro k o h1 h2 h3 h4 b hb hL
   rcases hLmem b hL with h | h | h
   ·exact (rootn b h).2.2 (hr.fown k o h3 h4 b hb).2.1
   ·exact hr.fsep k n o _ h2 h3 hn h4 rfl b hb (c2F b h)
   ·exact hr.fsep k id o _ h1 h3 hid h4 rfl b hb (h9 b h)
  rcases get k ok hk with rfl | ⟨hk1,hk2,hk3⟩ | ⟨rfl,rfl⟩
  ·cases hok
  ·rw [hFk k hk1] at hb
   rcases get l ol hl with rfl | ⟨hl1,hl2,hl3⟩ | ⟨rfl,rfl⟩
   ·cases hol
   ·rw [hFk l hl1]; exact hr.fsep k l ok ol hkl hk3 hl3 hok hol b hb
   ·rw [hFid]; exact other k ok hk1 hk2 hk3 hok b hb
  ·rw [hFid] at hb
   rcases get l ol hl with rfl | ⟨hl1,hl2,hl3⟩ | ⟨rfl,rfl⟩
   ·cases hol
   ·rw [hFk l hl1]; exact fun hh=>other l ol hl1 hl2 hl3 hol b hh hb
   ·exact absurd rfl hkl
def onSl (o:Option T) (K:List T→Prop) : Prop:=match o with
 | some (.sl xs) => K xs
 | _ => False
def onShSl (o:Option Sh) (K:TypeId→Nat→Sh→Prop) : Prop:=match o with
 | some (.sl e m s) => K e m s
 | _ => False
def opn (P:Program) (t:TypeId) (id i m off:Nat) (tm:List (Nat × AV)) (ob:List Ob) (K:AV→List Ob→Prop) (e:TypeId) (m':Nat) (s:Sh) (es:List T) : Prop :=
 onShSl s.cells[off]? fun e1 m1 s1=>m=m' ∧ i < es.length∧(lay P t).sc=true∧tmNoBw tm=true∧obsNoBw ob=true∧allAt es i fun y=>onSl y.cells[off]? fun xs=>K (.sr ob.length) (ob.set id (.hole e m' s es i off ob.length) ++ [.arr e1 m1 (.own s1) xs])
def vcOpen (P:Program) (t:TypeId) (p:AV) (tm:List (Nat × AV)) (ob:List Ob) (K:AV→List Ob→Prop) : Prop :=
 match p with
 | .ra id i m off => match ob[id]? with
   | some (.arr e m' (.own s) es) => opn P t id i m off tm ob K e m' s es
   | _ => False
 | _ => False
theorem open_sound {K:AV→List Ob→Prop} {next:Value→World→Prop} {o:Oper} {t:TypeId} {x:Operand} (ho:o.op = .load t x) (hr:Rel w0 σ hv S F a w) (h:vcOpen P t (σ.opd x) σ.tm σ.ob K) (hn:Ans w0 σ a K next) : Does P Q o a w next:=by
 unfold vcOpen at h
 split at h
 case h_2=>cases h
 rename_i id i m off hx
 split at h
 case h_2=>cases h
 rename_i e m' s es hid
 unfold opn onShSl at h
 split at h
 case h_2=>cases h
 rename_i e1 m1 s1 hs
 obtain ⟨rfl,hil,hsc,htm,hob,h⟩:=h
 have hi : es[i]? = some es[i]:=List.getElem?_eq_getElem hil
 have h:=h _ hi
 dsimp only at h
 unfold onSl at h
 split at h
 case h_2=>cases h
 rename_i xs hy
 obtain ⟨hv',F',vs,v,q1,q2,q3,q4,q5,q6⟩:=hr.openRow hid hs hi hy (fun t=>tmNoBw_get htm t) (fun k o hk=>obsNoBw_get hob hk)
 obtain ⟨⟨Lx,fx,_⟩,_⟩:=hr.arg x
 rw [hx] at fx
 simp only [footA] at fx
 obtain ⟨b,n,c,p1,p2,_⟩:=fx
 have hl:=laid_elem q3 (ownsRow_laid q2 p1) q4
 rw [Nat.zero_add] at hl
 have hc:=hl off _ (by simpa using q5)
 refine does_value (v:=hv' σ.ob.length) (w':=w) ?_ ?_
 ·have:=run_load_sc (P:=P) hsc hc
  simp [execOp,ho,p2,Instr.loadAt,Instr.sureAddr,this]
 ·exact hn _ _ _ _ hv' S F' [] h q6 (by simp only [footA]; exact ⟨trivial,trivial⟩) (by simp) (by simp [AV.under])
theorem Wk.close {N:Nat} {σ:St} {id i j n:Nat} {e:TypeId} {m:Nat} {s:Sh} {es:List T} {y:T} {e1:TypeId} {m1:Nat} {s1:Sh} {xs:List T} (hid:σ.ob[id]? = some (.hole e m s es i j n)) (hn:σ.ob[n]? = some (.arr e1 m1 (.own s1) xs)) (hs:s.cells[j]? = some (.sl e1 m1 s1)) (hi:es[i]? = some y) :
 Wk N σ { σ with ob:=(σ.ob.set n .dead).set id (.arr e m (.own s) (es.set i (y.setCell j (.sl xs)))) }:=by
 intro w0 hv S F a w _ hr
 obtain ⟨hv',F',h⟩:=hr.closeRow hid hn hs hi
 exact ⟨hv',S,F',h⟩
theorem setV_cell {v u:Value} {j:Nat} (h:j < v.cells.size) : (setV v j u).cells.toList=v.cells.toList.set j u ∨ (setV v j u=u∧j=0∧v.cells.size=1):=by
 cases v with
 | agg us => left; simp [setV,Value.cells]
 | _ => right; simp only [Value.cells,List.size_toArray,List.length_singleton] at h ⊢; exact ⟨rfl,by omega,by simp⟩
theorem setV_set {v u z:Value} {j:Nat} (hu:u.oneCell'=true) : setV (setV v j u) j z=setV v j z:=by
 cases v with
 | agg us => simp [setV]
 | _ => cases u<;>first | rfl | (simp [Value.oneCell'] at hu)
theorem store_hole_sound {K:AV→List Ob→Prop} {next:Value→World→Prop} {o:Oper} {t:TypeId} {p x:Operand} {id i m off:Nat} {e:TypeId} {m':Nat} {s:Sh} {es:List T} {i' j n0:Nat} (ho:o.op = .store t p x) (hr:Rel w0 σ hv S F a w) (hp:σ.opd p = .ra id i m off) (hid:σ.ob[id]? = some (.hole e m' s es i' j n0)) (h:vcStore P t (.ra id i m off) (σ.opd x) σ.ob K)
 (hn:Ans w0 σ a K next) : Does P Q o a w next:=by
 obtain ⟨⟨L,fx,hL⟩,hux⟩:=hr.arg x
 obtain ⟨⟨Lp,fp,_⟩,hup⟩:=hr.arg p
 rw [hp] at fp
 simp only [footA] at fp
 obtain ⟨g,nn,cap,e1,e2,_⟩:=fp
 simp only [vcStore,hid] at h
 obtain ⟨⟨rfl,rfl,rfl⟩,h⟩:=h
 split at h
 case h_2=>cases h
 rename_i n hx
 split at h
 case h_2=>cases h
 rename_i e1' m1 s1 xs hob
 obtain ⟨⟨hs,hc,hoff⟩,h⟩:=h
 have hrun0 : ∀ {W:World},(storeVar t ⟨g,i * m + off,none⟩ (a.eval x)).run P w = .ok () W→(execOp a.eval o).run P w = .ok .skip W:=fun h=>by simp [execOp,ho,e2,Instr.storeAt,Instr.sureAddr,h]
 obtain ⟨vs,v,y,L0,f1,m2,s2,h1,h2,h3,h4,h5,h6,h7,h8,h9,h10⟩:=hr.ob id _ hid
 rw [hs] at h7; cases h7
 have hk:=h y h4
 rw [hx] at fx
 simp only [footA] at fx
 obtain ⟨fx1,fx2⟩:=fx
 have hV : a.eval x=hv n:=fx1
 have hone:=hr.one n
 have hVc : (hv n).cells = #[hv n]:=cells_of_one hone
 obtain ⟨us,c1,⟨L',c2,c2n,c2F⟩,c3,c4⟩:=hr.ob n _ hob
 have hsub : ownT w (.sl e1' m1 s1) (.sl xs) (hv n) ((blkOf (hv n)).toList ++ L'):=by
  simp only [ownT]
  exact ⟨us,L',c1,c2,c3,c4,rfl⟩
 obtain ⟨LL,g1,_⟩:=h10 w xs _ _ (fun b _=>rfl) hsub
 have hvl : vs.length=es.length:=by have:=ownEs_length g1; simpa using this
 have hsz:=h2 v (List.mem_of_getElem? h5)
 have hcu : (setV v off (hv n)).cells.toList=v.cells.toList.take off ++ (hv n).cells.toList ++ v.cells.toList.drop (off + (hv n).cells.size):=by
  rw [hVc]
  rcases setV_cell (u:=hv n) (show off < v.cells.size by omega) with hh | ⟨q1,q2,q3⟩
  ·rw [hh]
   exact List.set_eq_take_append_cons_drop .. |>.trans (by rw [if_pos (by simpa using (show off < v.cells.size by omega))]; simp)
  ·rw [q1,hVc,q2,List.take_zero,List.nil_append,List.drop_eq_nil_of_le (by simp; omega),List.append_nil]
 obtain ⟨cs,r1,r2,r3,r4⟩:=row_write (P:=P) (w:=w) (t:=t) (off:=off) (V:=hv n) (u':=setV v off (hv n)) h1 e1 hvl.symm h2 h3.2 h5 (by rw [hVc]; simpa [ones] using hone) (by rw [hVc,hc]; rfl) (by rw [hVc]; simp) (by rw [hVc]; simp; omega) hcu
 refine does_skip (w':=w.setRow g cs) (hrun0 (by rw [hV]; exact r1)) ?_
 have hroot : blkOf (hv id)=some g:=by rw [e1]; rfl
 have hB2 : ∀ b,hv.B b→(w.setRow g cs).heap[b]? = w.heap[b]?:=fun b hb=>setRow_other w g b _ (fun e=>(hr.root id _ hid (by simp) g hroot).2.2 (e ▸ hb))
 have hil : i < vs.length:=get_lt h5
 have hr3:=hr.write hid (by simp) (w':=w.setRow g cs) (o':=.hole e m s es i off n) (fun k hk=>setRow_other w g k _ (fun e=>hk (by rw [hroot,e]))) (by simp) rfl rfl rfl (Nat.le_refl _) (by simp only [Ob.under,decide_eq_true_eq]; exact get_lt hob)
  ⟨vs.set i (setV v off (hv n)),setV v off (hv n),y,L0,_,_,_,r2,r3,⟨h3.1,r4⟩,h4,by rw [List.getElem?_set_self hil],(by
   rw [← Array.getElem?_toList,hcu,hVc,List.append_assoc,List.getElem?_append_right (by simp; omega)]
   simp only [List.length_take,Array.length_toList]
   rw [Nat.min_eq_left (by omega),Nat.sub_self]
   rfl),hs,h8,h9,fun w' xs' Lj u' ha hx'=>(by
   rw [List.set_set,setV_set hone]
   exact h10 w' xs' Lj u' (fun b hb=>(ha b hb).trans (hB2 b (hr.fown id _ hid rfl b (h9 b hb)).2.1)) hx')⟩
  (fun _=>rfl)
 have hne : id≠n:=by rintro rfl; rw [hid] at hob; cases hob
 obtain ⟨hv',F',hr4⟩:=hr3.closeRow (id:=id) (n:=n) (by rw [List.getElem?_set_self (get_lt hid)]) (by rw [List.getElem?_set_ne hne]; exact hob) hs h4
 have hset : ((σ.ob.set id (.hole e m s es i off n)).set n .dead).set id (.arr e m (.own s) (es.set i (y.setCell off (.sl xs))))=(σ.ob.set n .dead).set id (.arr e m (.own s) (es.set i (y.setCell off (.sl xs)))):=by
  rw [List.set_comm _ _ hne,List.set_set]
 dsimp only at hr4
 rw [hset] at hr4
 exact hn _ _ _ _ hv' S F' [] hk hr4 (by simp [footA]) (by simp) rfl
end
end Go.Proofs.YtmgdkkhnjkepiaaGreat.BX
namespace Go.Proofs.YtmgdkkhnjkepiaaGreat.BX
open Nat renaming reduceEqDiff → zA, reduceLT → zB, reduceLeDiff → zC, reduceAdd → zD, reduceMul → zE, reduceSub → zF, reduceBEq → zG
set_option linter.unusedSectionVars false
set_option linter.unusedSimpArgs false
set_option linter.unusedVariables false
open Go Go.RowKit
variable [Bd]
def vcRange (P:Program) (t:TypeId) (x:AV) (ob:List Ob) (K:AV→List Ob→Prop) : Prop :=
 match lay P t,x with
 | .map _ _, .t (.mp ks vs) => K (.it ob.length) (ob ++ [.iter none (ks.zip vs)])
 | .map _ _, .mr id => match ob[id]? with
   | some (.map _ _ (.own _) ks vs _) => K (.it ob.length) (ob.set id .dead ++ [.iter none (ks.zip vs)])
   | _ => False
 | _, _ => False
def vcNext (x:AV) (ob:List Ob) (K:AV→List Ob→Prop) : Prop :=
 match x with
 | .it id => match ob[id]? with
   | some (.iter _ xs) => (xs=[]→K (.t (.tp [.b false])) ob)∧∀ (i:Nat) (p:T × T),xs[i]? = some p→K (.tp [.t (.b true),.t p.1,.t p.2]) (ob.set id (.iter (some p) (xs.eraseIdx i)))
   | _ => False
 | _ => False
def vcEntry (x:AV) (ob:List Ob) (K:AV→List Ob→Prop) : Prop :=
 match x with
 | .it id => match ob[id]? with
   | some (.iter (some p) _) => K (.tp [.t p.1,.t p.2]) ob
   | _ => False
 | _ => False
section
variable {P:Program} {Q:Exit→Act→World→Prop} {w0:Base} {σ:St} {hv:Hv} {S:Nat→Prop} {F:Nat→List Nat} {a:Act} {w:World}
 {K:AV→List Ob→Prop} {next:Value→World→Prop}
theorem footTs_iff {S:Nat→Prop} : ∀ {xs:List T} {vs:List Value},(∃ L,footTs w xs vs L∧∀ b∈L,S b) ↔ vs.length=xs.length∧∀ (i:Nat) (x:T) (v:Value),xs[i]? = some x→vs[i]? = some v → ∃ L,footT w x v L∧∀ b∈L,S b
 | [], vs => by
   refine ⟨fun ⟨L,h,_⟩=>?_,fun ⟨h,_⟩=>?_⟩
   ·simp only [footTs] at h
    simp [h.1]
   ·have : vs=[]:=List.eq_nil_of_length_eq_zero (by simpa using h)
    subst this
    exact ⟨[],by simp [footTs],by simp⟩
 | x :: xs, vs => by
   refine ⟨fun ⟨L,h,hL⟩=>?_,fun ⟨h,hi⟩=>?_⟩
   ·refine ⟨footTs_length h,fun i y v hy hv=>?_⟩
    obtain ⟨v',L',q1,q2,q3⟩:=footTs_get h hy
    rw [hv] at q1
    cases q1
    exact ⟨L',q2,fun b hb=>hL b (q3 b hb)⟩
   ·cases vs with
    | nil => simp at h
    | cons v vs =>
      obtain ⟨L1,a1,a2⟩:=hi 0 x v rfl rfl
      obtain ⟨L2,b1,b2⟩:=footTs_iff.2 (⟨by simpa using h,fun i y u hy hu=>hi (i + 1) y u (by simpa using hy) (by simpa using hu)⟩ : vs.length=xs.length∧∀ (i:Nat) (x:T) (v:Value),xs[i]? = some x→vs[i]? = some v → ∃ L,footT w x v L∧∀ b∈L,S b)
      refine ⟨L1 ++ L2,by simp only [footTs]; exact ⟨v,vs,L1,L2,rfl,rfl,a1,b1⟩,fun b hb=>?_⟩
      exact (List.mem_append.1 hb).elim (a2 b) (b2 b)
theorem iter_does {o:Oper} {t kt et:TypeId} {x:Operand} {r:Nat} {es:Array MapEntry} {clock:Nat} {l:List MapEntry} {L1 L2:List Nat} {ks vs:List T} (ho:o.op = .range t x) (hr:Rel w0 σ hv S F a w) (hl:lay P t = .map kt et) (e1:a.eval x = .map (some r)) (e2:w.heap[r]? = some (.map es clock))
 (p1:List.Perm l es.toList) (p2:(l.map (·.born)).Nodup) (p3:∀ e∈l,e.born < clock) (f1:footTs w ks (l.map (·.key)) L1) (f2:footTs w vs (l.map (·.val)) L2) (hSr:S r) (hS1:∀ b∈L1,S b) (hS2:∀ b∈L2,S b)
 (hn:∀ v w' (hv':Hv) S' F' L,Rel w0 { σ with ob:=σ.ob ++ [.iter none (ks.zip vs)] } hv' S' F' a w'→footA hv' w' (.it σ.ob.length) v L→(∀ b∈L,S' b)→next v w') : Does P Q o a w next:=by
 have hu:=lay_map hl
 have hrun : (execOp a.eval o).run P w = .ok (.value (.pointer (some ⟨w.heap.size,0,none⟩))) (w.alloc (.mapIter (some r) clock #[] clock)):=by
  have:=run_range_map (P:=P) w t kt et r es clock hu e2
  simp only [execOp,ho,e1,Sem.run_bind,this,Result.andThen_ok]
  rfl
 refine does_value hrun ?_
 have g:=Grew.alloc w (.mapIter (some r) clock #[] clock)
 have hlr:=footTs_length f1
 have hlv:=footTs_length f2
 rw [List.length_map] at hlr hlv
 obtain ⟨hv',_,h1,h2,h3⟩:=hr.new g (o:=.iter none (ks.zip vs)) (v:=.pointer (some ⟨w.heap.size,0,none⟩)) (Fi:=[])
  (by intro b hb; simp [blkOf] at hb; subst hb; exact ⟨Nat.le_refl _,by simp⟩) rfl rfl (by intro hh; cases hh) (by intro hh; cases hh) (by
   intro hv' hB he hn'
   refine ⟨w.heap.size,r,es,clock,#[],clock,[],l,L1,L2,rfl,heap_alloc_new w _,.inl hSr,(g.block r (hr.Slt r hSr)).trans e2,Nat.le_refl _,.inl rfl,?_,?_,⟨?_,rfl,by simp⟩,?_,?_,?_⟩
   ·intro e he; exact p3 e (p1.mem_iff.2 he)
   ·exact (p1.map _).nodup_iff.1 p2
   ·rw [List.filter_eq_self.2 (by simp)]; exact p1
   ·simp only [Option.toList_none,List.nil_append]
    rw [List.map_fst_zip (by omega)]
    exact footTs_mono _ _ _ (fun b hb=>g.block b (hr.Slt b (hS1 b hb))) f1
   ·simp only [Option.toList_none,List.nil_append]
    rw [List.map_snd_zip (by omega)]
    exact footTs_mono _ _ _ (fun b hb=>g.block b (hr.Slt b (hS2 b hb))) f2
   ·intro b hb
    refine .inl ?_
    rcases List.mem_append.1 hb with hb | hb
    ·exact hS1 b hb
    ·exact hS2 b hb)
 exact hn _ _ hv' _ _ [] h3 (by simp only [footA]; exact ⟨h2.symm,trivial⟩) (by simp)
theorem range_sound {o:Oper} {t:TypeId} {x:Operand} (ho:o.op = .range t x) (hr:Rel w0 σ hv S F a w) (h:vcRange P t (σ.opd x) σ.ob K) (hn:Ans w0 σ a K next) : Does P Q o a w next:=by
 unfold vcRange at h
 split at h
 case h_3=>cases h
 ·rename_i kt et ks vs hl hx
  obtain ⟨⟨Lm,fm,hLm⟩,_⟩:=hr.arg x
  rw [hx] at fm
  simp only [footA,footT] at fm
  obtain ⟨r,es,clock,l,L1,L2,e1,e2,⟨p1,p2,p3,p4,p5⟩,f1,f2,rfl⟩:=fm
  refine iter_does ho hr hl e1 e2 p1 p2 p3 f1 f2 (hLm r (by simp)) (fun b hb=>hLm b (by simp [hb])) (fun b hb=>hLm b (by simp [hb])) fun v w' hv' S' F' L q1 q2 q3=>?_
  exact hn _ _ _ _ hv' _ _ L h q1 q2 q3 (by simp [AV.under])
 ·rename_i kt et id hl hx
  split at h
  ·rename_i a' b' sh ks vs p hid
   obtain ⟨⟨Lm,fm,_⟩,_⟩:=hr.arg x
   rw [hx] at fm
   simp only [footA] at fm
   obtain ⟨r,es,clock,l,hE,hels,hlv,_⟩:=hr.ob id _ hid
   have e1 : a.eval x = .map (some r):=fm.1.trans hE.val
   obtain ⟨hv1,S1,q1,b1,s1,s2,hr1,_⟩:=hr.kill id
   have hroot : blkOf (hv id)=some r:=by rw [hE.val]; rfl
   have h2S : ∃ L2,footTs w vs (l.map (·.val)) L2∧∀ b∈L2,S1 b:=by
    obtain ⟨L',c1,c2,c3⟩:=hels
    obtain ⟨L3,c4,c5⟩:=ownEs_foot sh vs c1
    exact ⟨L3,c4,fun b hb=>s2 _ hid (by simp) b (.inr ⟨rfl,c3 b (c5 b hb)⟩)⟩
   obtain ⟨L3,f2,hS2⟩:=h2S
   refine iter_does (σ:={ σ with ob:=σ.ob.set id .dead }) ho hr1 hl e1 hE.heap hE.perm hE.born hE.lt hE.keys f2 (s2 _ hid (by simp) r (.inl hroot)) (by simp) hS2 fun v w' hv' S' F' L q1 q2 q3=>?_
   exact hn _ _ _ _ hv' _ _ L h q1 (by simpa using q2) q3 (by simp [AV.under])
  ·cases h
theorem entry_sound {o:Oper} {x:Operand} (ho:o.op = .entry x) (hr:Rel w0 σ hv S F a w) (h:vcEntry (σ.opd x) σ.ob K) (hn:Ans w0 σ a K next) : Does P Q o a w next:=by
 unfold vcEntry at h
 split at h
 case h_2=>cases h
 rename_i id hx
 split at h
 case h_2=>cases h
 rename_i p xs hid
 obtain ⟨⟨Lm,fm,_⟩,_⟩:=hr.arg x
 rw [hx] at fm
 simp only [footA] at fm
 obtain ⟨b,m,es,clock,seen,last,lc,l,L1,L2,h1,h2,h3,h4,h5,h6,h7,h8,⟨h9,h9',h9''⟩,h10,h11,h12⟩:=hr.ob id _ hid
 cases lc with
 | nil => simp at h9'
 | cons e lc =>
   have : lc=[]:=List.eq_nil_of_length_eq_zero (by simpa using h9')
   subst this
   obtain ⟨q1,q2,q3⟩:=h9'' e (List.mem_cons_self ..)
   subst q3
   obtain ⟨s0,hs0⟩ : ∃ s0 : Array Nat,seen=s0.push e.born:=by
    obtain ⟨ys,c0,hys⟩:=Array.eq_push_of_size_ne_zero (xs:=seen) (by intro h0; rw [Array.eq_empty_of_size_eq_zero h0] at q2; simp at q2)
    subst hys
    rw [Array.back?_push] at q2
    cases q2
    exact ⟨ys,rfl⟩
   subst hs0
   have hev : a.eval x = .pointer (some ⟨b,0,none⟩):=fm.1.trans h1
   have hrun : (execOp a.eval o).run P w = .ok (.value (.tuple #[e.key,e.val])) w:=by
    have:=run_entry_at (P:=P) w b m last s0 es last e h2 h4 q1 h8
    simp only [execOp,ho,hev,Sem.run_bind,this,Result.andThen_ok]
    rfl
   refine does_value hrun ?_
   simp only [Option.toList_some,List.cons_append,List.nil_append,List.map_cons,footTs] at h10 h11
   obtain ⟨_,_,A1,A2,a1,rfl,a2,_⟩:=h10
   obtain ⟨_,_,B1,B2,b1,rfl,b2,_⟩:=h11
   cases a1; cases b1
   refine hn _ _ _ _ hv S F (A1 ++ B1) h hr ?_ (fun b' hb'=>h12 b' ?_) rfl
   ·simp only [footA,footAs]
    exact ⟨[e.key,e.val],rfl,_,[e.val],A1,B1,rfl,rfl,a2,_,[],B1,[],rfl,by simp,b2,rfl,rfl⟩
   ·rcases List.mem_append.1 hb' with hb' | hb'<;>simp [hb']
theorem left_less {es l:List MapEntry} {seen:Array Nat} (hn:(es.map (·.born)).Nodup) (hp:List.Perm l (es.filter fun e=>!seen.contains e.born)) {j:Nat} {e:MapEntry} (hj:l[j]? = some e) :
 List.Perm (l.eraseIdx j) (es.filter fun x=>!(seen.push e.born).contains x.born):=by
 have he : e∈es:=(List.mem_filter.1 (hp.mem_iff.1 (List.mem_of_getElem? hj))).1
 have h2 : (es.filter fun x=>!(seen.push e.born).contains x.born)=(es.filter fun e=>!seen.contains e.born).filter fun x=>decide (x.born≠e.born):=by
  rw [List.filter_filter]
  refine List.filter_congr fun x hx=>?_
  simp only [Array.contains_push]
  by_cases hxe : x.born=e.born
  ·simp [hxe]
  ·simp [hxe,beq_eq_false_iff_ne.2 hxe]
 have hnd : (l.map (·.born)).Nodup:=(hp.map _).nodup_iff.2 (List.Nodup.sublist (List.filter_sublist.map _) hn)
 have h3 : l.eraseIdx j=l.filter fun x=>decide (x.born≠e.born):=by
  clear hp h2
  induction l generalizing j with
  | nil => simp at hj
  | cons x l ih =>
    simp only [List.map_cons,List.nodup_cons] at hnd
    cases j with
    | zero =>
      simp at hj; subst hj
      rw [List.filter_cons_of_neg (by simp)]
      simp only [List.eraseIdx_cons_zero]
      exact (List.filter_eq_self.2 fun y hy=>by simp; intro hh; exact hnd.1 (hh ▸ List.mem_map_of_mem hy)).symm
    | succ j =>
      simp only [List.getElem?_cons_succ] at hj
      have hne : x.born≠e.born:=by intro hh; exact hnd.1 (hh ▸ List.mem_map_of_mem (List.mem_of_getElem? hj))
      rw [List.filter_cons_of_pos (by simpa using hne),List.eraseIdx_cons_succ,ih hj hnd.2]
 rw [h2,h3]
 exact hp.filter _
theorem next_sound {o:Oper} {x:Operand} (ho:o.op = .next x false) (hr:Rel w0 σ hv S F a w) (h:vcNext (σ.opd x) σ.ob K) (hn:Ans w0 σ a K next) : Does P Q o a w next:=by
 unfold vcNext at h
 split at h
 case h_2=>cases h
 rename_i id hx
 split at h
 case h_2=>cases h
 rename_i c xs hid
 obtain ⟨hover,hmore⟩:=h
 obtain ⟨⟨Lm,fm,_⟩,_⟩:=hr.arg x
 rw [hx] at fm
 simp only [footA] at fm
 obtain ⟨b,m,es,clock,seen,last,lc,l,L1,L2,h1,h2,h3,h4,h5,h6,h7,h8,⟨h9,h9',h9''⟩,h10,h11,h12⟩:=hr.ob id _ hid
 have hev : a.eval x = .pointer (some ⟨b,0,none⟩):=fm.1.trans h1
 have hroot : blkOf (hv id)=some b:=by rw [h1]; rfl
 have k1:=(footTs_iff (S:=S)).1 ⟨L1,h10,fun b hb=>h12 b (List.mem_append_left _ hb)⟩
 have k2:=(footTs_iff (S:=S)).1 ⟨L2,h11,fun b hb=>h12 b (List.mem_append_right _ hb)⟩
 have hlx : l.length=xs.length:=by have:=k1.1; simp only [List.length_map,List.length_append] at this; omega
 rcases run_next_at (P:=P) w o.type b m clock last seen es clock h2 h4 h7 h5 with ⟨z1,z2⟩ | ⟨e,z1,w1,z2,z3⟩
 ·have hl0 : l=[]:=by
   have : (leftOf es seen).toList=es.toList.filter fun e=>!seen.contains e.born:=by unfold leftOf; simp
   have h0 : (leftOf es seen).toList=[]:=by rw [Array.eq_empty_of_size_eq_zero z1]
   rw [← this,h0] at h9
   exact h9.eq_nil
  subst hl0
  have hx0 : xs=[]:=List.eq_nil_of_length_eq_zero (by simpa using hlx.symm)
  have hrun : (execOp a.eval o).run P w = .ok (.value (.tuple #[.bool false])) w:=by
   simp only [execOp,ho,hev,Sem.run_bind,z2,Result.andThen_ok]
   rfl
  refine does_value hrun (hn _ _ _ _ hv S F [] (hover hx0) hr ?_ (by simp) rfl)
  simp only [footA,footT,footTs]
  exact ⟨[.bool false],rfl,_,[],[],[],rfl,rfl,⟨rfl,rfl⟩,rfl,rfl⟩
 ·have hel : e∈l:=by
   have : (leftOf es seen).toList=es.toList.filter fun e=>!seen.contains e.born:=by unfold leftOf; simp
   rw [this] at z1
   exact h9.mem_iff.2 z1
  have hee : e∈es.toList:=(List.mem_filter.1 (h9.mem_iff.1 hel)).1
  obtain ⟨j,hj⟩:=List.getElem?_of_mem hel
  have hjl:=(List.getElem?_eq_some_iff.1 hj).1
  obtain ⟨p,hp⟩ : ∃ p,xs[j]? = some p:=⟨_,List.getElem?_eq_getElem (by omega)⟩
  have hw1 : w1.heap=w.heap∧w1.os=w.os∧w1.tape=w.tape∧w1.output=w.output∧w.drawn≤w1.drawn:=by
   rcases z2 with rfl | rfl
   ·exact ⟨rfl,rfl,rfl,rfl,Nat.le_refl _⟩
   ·exact ⟨rfl,rfl,rfl,rfl,Nat.le_succ _⟩
  obtain ⟨u1,u2,u3,u4,u5⟩:=hw1
  generalize hw' : Go.ChangeMaps.setBlock w1 b (.mapIter (some m) clock (seen.push e.born) clock)=w' at z3
  have hheap : w'.heap=w.heap.setIfInBounds b (.mapIter (some m) clock (seen.push e.born) clock):=by rw [← hw',← u1]; rfl
  have hrun : (execOp a.eval o).run P w = .ok (.value (.tuple #[.bool true,e.key,e.val])) w':=by
   simp only [execOp,ho,hev,Sem.run_bind,z3,Result.andThen_ok]
   rfl
  refine does_value hrun ?_
  obtain ⟨t1,t2⟩:=heap_setMap (o':=.mapIter (some m) clock (seen.push e.born) clock) h2
  have hsame : ∀ k,k≠b→w'.heap[k]? = w.heap[k]?:=fun k hk=>by rw [hheap]; exact t2 k hk
  have hSb : ∀ k,S k→k≠b:=fun k hk e=>hr.rootS hid (by simp) hroot (e ▸ hk)
  have mono : ∀ {y:T} {v:Value} {L:List Nat},footT w y v L→(∀ k∈L,S k)→footT w' y v L:=fun hf hL=>footT_mono _ _ _ (fun k hk=>hsame k (hSb k (hL k hk))) hf
  have lcl : lc.length=c.toList.length:=h9'
  obtain ⟨Lk,fk1,fk2⟩:=k1.2 (c.toList.length + j) p.1 e.key (by rw [List.getElem?_map,List.getElem?_append_right (by omega),show c.toList.length + j - c.toList.length=j by omega,hp]; rfl) (by rw [List.getElem?_map,List.getElem?_append_right (by omega),show c.toList.length + j - lc.length=j by omega,hj]; rfl)
  obtain ⟨Lv,fv1,fv2⟩:=k2.2 (c.toList.length + j) p.2 e.val (by rw [List.getElem?_map,List.getElem?_append_right (by omega),show c.toList.length + j - c.toList.length=j by omega,hp]; rfl) (by rw [List.getElem?_map,List.getElem?_append_right (by omega),show c.toList.length + j - lc.length=j by omega,hj]; rfl)
  have pick : ∀ {f:T × T→T} {g:MapEntry→Value},(((lc ++ l).map g).length=((c.toList ++ xs).map f).length∧∀ (i:Nat) (x:T) (v:Value),((c.toList ++ xs).map f)[i]? = some x→((lc ++ l).map g)[i]? = some v → ∃ L,footT w x v L∧∀ b∈L,S b)→(∃ L,footT w (f p) (g e) L∧∀ k∈L,S k) →
   ∃ L,footTs w' (((some p).toList ++ xs.eraseIdx j).map f) (([e] ++ l.eraseIdx j).map g) L∧∀ k∈L,S k:=by
   intro f g hk hpe
   refine (footTs_iff (w:=w') (S:=S)).2 ⟨?_,?_⟩
   ·simp only [Option.toList_some,List.map_append,List.length_append,List.length_map,List.length_eraseIdx,hlx]
    simp
   ·intro i x v hxi hvi
    cases i with
    | zero =>
      simp only [Option.toList_some,List.cons_append,List.map_cons,List.getElem?_cons_zero,Option.some.injEq] at hxi hvi
      subst hxi; subst hvi
      obtain ⟨L,q1,q2⟩:=hpe
      exact ⟨L,mono q1 q2,q2⟩
    | succ i =>
      simp only [Option.toList_some,List.cons_append,List.nil_append,List.map_cons,List.getElem?_cons_succ,List.getElem?_map,List.getElem?_eraseIdx] at hxi hvi
      have main : ∀ i' : Nat,xs[i']?.map f=some x→l[i']?.map g=some v → ∃ L,footT w' x v L∧∀ b∈L,S b:=by
       intro i' a1 a2
       obtain ⟨L,q1,q2⟩:=hk.2 (c.toList.length + i') x v (by rw [List.getElem?_map,List.getElem?_append_right (by omega),show c.toList.length + i' - c.toList.length=i' by omega]; exact a1) (by rw [List.getElem?_map,List.getElem?_append_right (by omega),show c.toList.length + i' - lc.length=i' by omega]; exact a2)
       exact ⟨L,mono q1 q2,q2⟩
      by_cases hij : i < j
      ·rw [if_pos hij] at hxi hvi
       exact main i hxi hvi
      ·rw [if_neg hij] at hxi hvi
       exact main (i + 1) hxi hvi
  obtain ⟨L1',g1,g2⟩:=pick (f:=(·.1)) (g:=(·.key)) k1 ⟨Lk,fk1,fk2⟩
  obtain ⟨L2',g3,g4⟩:=pick (f:=(·.2)) (g:=(·.val)) k2 ⟨Lv,fv1,fv2⟩
  have hmb : m≠b:=hSb m h3
  have hr3:=hr.write hid (by simp) (w':=w') (o':=.iter (some p) (xs.eraseIdx j)) (fun k hk=>hsame k (fun e=>hk (by rw [hroot,e]))) (by rw [hheap]; simp) (by rw [← hw']; exact u2) (by rw [← hw']; exact u3) (by rw [← hw']; exact u4) (by rw [← hw']; exact u5) rfl
   ⟨b,m,es,clock,seen.push e.born,clock,[e],l.eraseIdx j,L1',L2',h1,by rw [hheap]; exact t1,h3,(hsame m hmb).trans h4,Nat.le_refl _,.inr rfl,h7,h8,⟨left_less h8 h9 hj,rfl,fun e' he'=>by
    have : e'=e:=by simpa using he'
    subst this
    exact ⟨hee,by simp,rfl⟩⟩,g1,g3,fun k hk=>(List.mem_append.1 hk).elim (g2 k) (g4 k)⟩ (fun hh=>by cases hh)
  refine hn _ _ _ _ hv S F (Lk ++ Lv) (hmore j p hp) hr3 ?_ (fun k hk=>(List.mem_append.1 hk).elim (fk2 k) (fv2 k)) rfl
  simp only [footA,footAs]
  exact ⟨[.bool true,e.key,e.val],rfl,_,[e.key,e.val],[],Lk ++ Lv,rfl,by simp,by simp [footT],_,[e.val],Lk,Lv,rfl,rfl,mono fk1 fk2,_,[],Lv,[],rfl,by simp,mono fv1 fv2,rfl,rfl⟩
end
end Go.Proofs.YtmgdkkhnjkepiaaGreat.BX
namespace Go.Proofs.YtmgdkkhnjkepiaaGreat.BX
open Nat renaming reduceEqDiff → zA, reduceLT → zB, reduceLeDiff → zC, reduceAdd → zD, reduceMul → zE, reduceSub → zF, reduceBEq → zG
set_option linter.unusedSectionVars false
set_option linter.unusedSimpArgs false
set_option linter.unusedVariables false
open Go Go.RowKit
variable [Bd]
def vcIface (P:Program) (t:TypeId) (x:AV) (K:AV→Prop) : Prop:=P.concrete t=true∧match x.shut with
 | some y => K (.t (.ifc t y))
 | none => False
theorem iface_sound {P:Program} {ob:List Ob} {e:Operand→AV} {K:AV→Prop} {o:Oper} {t:TypeId} {x:Operand} (ho:o.op = .makeInterface t x) (h:vcIface P t (e x) K) : ∃ r,K r∧Yields1 P ob e o r:=by
 have hm : x∈o.op.operands:=by rw [ho]; simp [Op.operands]
 obtain ⟨hc,h⟩:=h
 split at h
 ·rename_i y hy
  refine ⟨_,h,?_⟩
  intro hv S F w ρ hob harg
  have ax:=harg x hm
  obtain ⟨L,fx,hL⟩:=ax.shut_inv hy
  refine ⟨.iface t (ρ x),?_,⟨L,by simp only [footA,footT]; exact ⟨_,rfl,fx⟩,hL⟩,rfl⟩
  simp only [execOp,ho,Sem.run_bind,run_makeInterface w t (ρ x) hc,Result.andThen_ok]
  rfl
 ·cases h
def vcFn (fn:Fn) (ys xs:List AV) (K:AV→Prop) : Prop :=
 match fn with
 | .func f => f < 1000000∧((ys=[]∧K (.fn f xs)) ∨ (ys≠[]∧xs=[]∧K (.fn (f + 1000000) ys)))
 | _ => False
theorem args_foot {hv:Hv} {S:Nat→Prop} {w:World} {n:Nat} {e:Operand→AV} {ρ:Operand→Value} : ∀ (xs:List Operand),(∀ y∈xs,Arg hv S w n (e y) (ρ y))→(∃ L,footAs hv w (xs.map e) (xs.map ρ) L∧∀ b∈L,S b)∧unders n (xs.map e)=true
 | [], _ => ⟨⟨[],by simp [footAs],by simp⟩,rfl⟩
 | x :: xs, h => by
   obtain ⟨⟨L,h1,h2⟩,h3⟩:=args_foot xs fun y hy=>h y (by simp [hy])
   obtain ⟨⟨M,g1,g2⟩,g3⟩:=h x (by simp)
   refine ⟨⟨M ++ L,?_,fun b hb=>?_⟩,?_⟩
   ·simp only [List.map_cons,footAs]
    exact ⟨_,_,M,L,rfl,rfl,g1,h1⟩
   ·rcases List.mem_append.1 hb with hb | hb
    ·exact g2 b hb
    ·exact h2 b hb
   ·simp only [List.map_cons,unders,g3,h3,Bool.and_self]
theorem fn_sound {P:Program} {ob:List Ob} {e:Operand→AV} {K:AV→Prop} {o:Oper} {fn:Fn} {first xs:Array Operand} (ho:o.op = .makeFunc fn first xs) (h:vcFn fn (first.toList.map e) (xs.toList.map e) K) : ∃ r,K r∧Yields1 P ob e o r:=by
 unfold vcFn at h
 split at h
 ·rename_i f
  obtain ⟨hlt,⟨h0,h⟩ | ⟨_,h0,h⟩⟩:=h
  ·refine ⟨_,h,?_⟩
   intro hv S F w ρ hob harg
   obtain ⟨⟨L,h1,h2⟩,h3⟩:=args_foot (hv:=hv) (S:=S) (w:=w) (n:=ob.length) (e:=e) (ρ:=ρ) xs.toList fun y hy=>harg y (by rw [ho]; simp only [Op.operands]; simp [Array.mem_toList_iff.1 hy])
   have hf : first = #[]:=by simpa using h0
   subst hf
   refine ⟨.func (.func f) #[] (xs.map ρ),?_,⟨L,by simp only [footA]; exact ⟨xs.toList.map ρ,by rw [fnVal_lo hlt,← Array.toList_map],h1⟩,h2⟩,by simpa only [AV.under] using h3⟩
   simp [execOp,ho,Instr.makeFunc]
  ·refine ⟨_,h,?_⟩
   intro hv S F w ρ hob harg
   obtain ⟨⟨L,h1,h2⟩,h3⟩:=args_foot (hv:=hv) (S:=S) (w:=w) (n:=ob.length) (e:=e) (ρ:=ρ) first.toList fun y hy=>harg y (by rw [ho]; simp only [Op.operands]; simp [Array.mem_toList_iff.1 hy])
   have hf : xs = #[]:=by simpa using h0
   subst hf
   refine ⟨.func (.func f) (first.map ρ) #[],?_,⟨L,by simp only [footA]; exact ⟨first.toList.map ρ,by rw [fnVal_hi (f:=f + 1000000) (Nat.not_lt.2 (Nat.le_add_left ..)),← Array.toList_map,Nat.add_sub_cancel],h1⟩,h2⟩,by simpa only [AV.under] using h3⟩
   simp [execOp,ho,Instr.makeFunc]
 ·cases h
def oneFld (P:Program) (s f:Nat) : Option Nat :=
 match P.underlying s with
 | some (.struct fields) => match fields[f]? with
   | some g => if (lay P g.type).sc=true then some g.offset else none
   | none => none
 | _ => none
def vcFld (P:Program) (s f:Nat) (x:AV) (K:AV→Prop) : Prop :=
 match oneFld P s f,x with
 | some o, .t (.ag cs) => match cs[o]? with
   | some y => K (.t y)
   | none => False
 | _, _ => False
theorem fld_sound {P:Program} {ob:List Ob} {e:Operand→AV} {K:AV→Prop} {o:Oper} {s:TypeId} {f:Nat} {x:Operand} (ho:o.op = .field s x f) (h:vcFld P s f (e x) K) : ∃ r,K r∧Yields1 P ob e o r:=by
 have hm : x∈o.op.operands:=by rw [ho]; simp [Op.operands]
 unfold vcFld at h
 split at h
 ·rename_i off cs hoff hx
  split at h
  ·rename_i y hy
   refine ⟨_,h,?_⟩
   intro hv S F w ρ hob harg
   obtain ⟨⟨L,fx,hL⟩,_⟩:=harg x hm
   rw [hx] at fx
   simp only [footA,footT] at fx
   obtain ⟨vs,hvs,fx⟩:=fx
   obtain ⟨u,L',g1,g2,g3⟩:=footTs_get fx hy
   refine ⟨u,?_,⟨L',by simpa only [footA] using g2,fun b hb=>hL b (g3 b hb)⟩,rfl⟩
   unfold oneFld at hoff
   split at hoff
   ·rename_i fields hu
    split at hoff
    ·rename_i g hg
     split at hoff
     ·rename_i hsc
      cases hoff
      simp only [execOp,ho,Sem.run_bind,Instr.field,run_underlying hu,Result.andThen_ok,hg,hvs,asAgg,part,Sem.run_pure,run_isAgg_sc hsc,Bool.false_eq_true,if_false]
      simp [g1]
     ·cases hoff
    ·cases hoff
   ·cases hoff
  ·cases h
 ·cases h
def eqKK (op:BinOp) (x y:T) (K:AV→Prop) : Prop :=
 match op with
 | .eql => K (.t (.b (@decide (x=y) (Classical.propDecidable _))))
 | .neq => K (.t (.b (@decide (x≠y) (Classical.propDecidable _))))
 | _ => False
def vcBs (P:Program) (op:BinOp) (t:TypeId) (x y:AV) (K:AV→Prop) : Prop :=
 match x,y with
 | .t (.ag xs), .t (.ag ys) => match keyLay P t with
   | some s => isKey s (.ag xs)∧isKey s (.ag ys)∧P.eqGuardType P.depth t=false∧eqKK op (.ag xs) (.ag ys) K
   | none => False
 | x, y => vcBin P op t x y K
theorem bs_sound {P:Program} {K:AV→Prop} {ob:List Ob} {e:Operand→AV} {o:Oper} {op:BinOp} {t yt:TypeId} {x y:Operand} (ho:o.op = .binOp op t x y yt) (h:vcBs P op t (e x) (e y) K) : ∃ r,K r∧Yields1 P ob e o r:=by
 unfold vcBs at h
 split at h
 ·rename_i xs ys hx hy
  split at h
  ·rename_i s hs
   obtain ⟨kx,ky,hg,h⟩:=h
   have hmx : x∈o.op.operands:=by rw [ho]; simp [Op.operands]
   have hmy : y∈o.op.operands:=by rw [ho]; simp [Op.operands]
   have main : ∀ (c:Bool),(∀ (us vs:Array Value) (w:World),(Op.equal t (.agg us) (.agg vs)).run P w = .ok (@decide (T.ag xs = .ag ys) (Classical.propDecidable _)) w→(Go.binOp op t (.agg us) (.agg vs)).run P w = .ok (.bool c) w)→K (.t (.b c)) → ∃ r,K r∧Yields1 P ob e o r:=by
    intro c hc hk
    refine ⟨_,hk,?_⟩
    intro hv S F w ρ hob harg
    have ax:=harg x hmx
    have ay:=harg y hmy
    rw [hx] at ax
    rw [hy] at ay
    obtain ⟨L,fx,_⟩:=ax.t_inv
    obtain ⟨M,fy,_⟩:=ay.t_inv
    have heq:=eq_key hs kx ky fx fy w
    simp only [footT] at fx fy
    obtain ⟨us,hux,_⟩:=fx
    obtain ⟨vs,hvy,_⟩:=fy
    rw [hux,hvy] at heq
    refine ⟨.bool c,?_,arg_b _⟩
    have hgd : ∀ p q,(eqGuard op t p q (.agg us.toArray) (.agg vs.toArray)).run P w = .ok () w:=fun p q=>run_eqGuard_agg _ op t p q _ _ hg
    simp only [execOp,ho,hux,hvy,Sem.run_bind,hgd,Result.andThen_ok,hc _ _ _ heq,Sem.run_pure]
   cases op<;>simp only [eqKK] at h<;>first | (exact h.elim) | skip
   ·refine main _ (fun us vs w hq=>?_) h
    simp only [Go.binOp]
    simp [hq]
   ·refine main _ (fun us vs w hq=>?_) h
    simp only [Go.binOp]
    simp [hq]
  ·cases h
 ·exact bin_sound ho h
def vcP (P:Program) (ob:List Ob) (e:Operand→AV) (op:Op) (K:AV→Prop) : Prop :=
 match op with
 | .build t parts => vcBuild P t (parts.toList.map fun p=>(p.1,e p.2)) K
 | .makeInterface t x => vcIface P t (e x) K
 | .field s x f => vcFld P s f (e x) K
 | .makeFunc fn first xs => vcFn fn (first.toList.map e) (xs.toList.map e) K
 | .lookup t m k ok => vcLookup P t (e m) (e k) ok ob K
 | .binOp op t x y _ => vcBs P op t (e x) (e y) K
 | op => vcPure P ob e op K
def vcLook (P:Program) (ob:List Ob) (e:Operand→AV) (op:Op) (K:AV→Prop) : Prop :=
 match op with
 | .call c => match c.callee with
   | .value f => vcCall P (e f) (c.args.toList.map e) ob K
   | .invoke r name => vcInv P (e r) name (c.args.toList.map e) ob K
   | _ => vcP P ob e op K
 | op => vcP P ob e op K
def nilK (op:BinOp) (e:Prop) (K:Bool→Prop) : Prop :=
 match op with
 | .eql => (e→K true)∧K false
 | .neq => (e→K false)∧K true
 | _ => False
def nilN (op:BinOp) (K:Bool→Prop) : Prop :=
 match op with
 | .eql => K true
 | .neq => K false
 | _ => False
def vcNb (P:Program) (op:BinOp) (t:TypeId) (x y:AV) (K:AV→Prop) : Prop :=
 match x,y with
 | .t (.sl es), .ns | .bw (.sl es), .ns => (∃ e m,lay P t = .sli e m)∧nilK op (es=[]) fun b=>K (.t (.b b))
 | .ns, .ns => (∃ e m,lay P t = .sli e m)∧nilN op fun b=>K (.t (.b b))
 | x, y => vcBs P op t x y K
def vcShrink (P:Program) (t:TypeId) (i:Nat) (b:AV) (ob:List Ob) (K:AV→List Ob→Prop) : Prop :=
 match lay P t,ob[i]?,b with
 | .sli e m, some (.arr e' m' k es), .t (.i _ n) => e'=e∧m'=m∧0≤n∧n≤(es.length : Int)∧K (.sr ob.length) (ob.set i .dead ++ [.arr e m k (es.take n.toNat)])
 | _, _, _ => False
def vcClear (P:Program) (t:TypeId) (x:AV) (ob:List Ob) (K:AV→List Ob→Prop) : Prop :=
 match x with
 | .sv i a m n => match lay P t,ob[i]? with
   | .sli e m', some (.arr e' m2 (.own s) es) => (m'=m∧m2=m∧s.plain=true∧a + n≤es.length)∧match zeroOf P e with
     | some z => match (ofV z).own [] s with
       | some (y, _) => (0 < m∧y.cells.length=m∧T.allOne y.cells=true)∧K (.t (.tp [])) (ob.set i (.arr e' m (.own s) (es.take a ++ (List.replicate n y ++ es.drop (a + n)))))
       | none => False
     | none => False
   | _, _ => False
 | _ => False
def vcSl3 (P:Program) (t:TypeId) (x hi:AV) (ob:List Ob) (K:AV→List Ob→Prop) : Prop :=
 match x with
 | .sr i => vcShrink P t i hi ob K
 | x => vcSlv P t ob x none (some hi) fun r=>K r ob
section
variable {w0:Base} {σ:St} {hv:Hv} {S:Nat→Prop} {F:Nat→List Nat} {a:Act} {w:World}
theorem Lies.take {ob:List Ob} {k:Kind} {es:List T} {vs:List Value} (h:Lies w0 ob hv S F w k es vs) (n:Nat) : Lies w0 ob hv S F w k (es.take n) (vs.take n):=by
 obtain ⟨Fi,h1,h2⟩:=h
 refine ⟨Fi,?_,h2⟩
 cases k with
 | own s =>
   obtain ⟨L,a1,a2,a3⟩:=h1
   have hl:=ownEs_length a1
   have a1' : ownEs w s (es.take n ++ es.drop n) vs L:=by rw [List.take_append_drop]; exact a1
   obtain ⟨v1,v2,L1,L2,rfl,rfl,b1,b2⟩:=ownEs_split a1'
   refine ⟨L1,?_,(List.nodup_append.1 a2).1,fun b hb=>a3 b (List.mem_append_left _ hb)⟩
   have hl1:=ownEs_length b1
   rw [List.length_take] at hl1
   rw [List.length_append] at hl
   have hl2:=ownEs_length b2
   rw [List.length_drop] at hl2
   rcases Nat.lt_or_ge n es.length with h | h
   ·rw [List.take_left' (by omega)]; exact b1
   ·have : v2=[]:=List.eq_nil_of_length_eq_zero (by omega)
    subst this
    rw [List.append_nil,List.take_of_length_le (l:=v1) (by omega)]; exact b1
 | clo =>
   obtain ⟨L,a1,a2⟩:=h1
   obtain ⟨L',b1,b2⟩:=footTs_take a1 n
   exact ⟨L',b1,fun b hb=>a2 b (b2 b hb)⟩
 | bor =>
   obtain ⟨L,a1,a2⟩:=h1
   obtain ⟨L',b1,b2⟩:=footTs_take a1 n
   exact ⟨L',b1,fun b hb=>a2 b (b2 b hb)⟩
theorem Lies.nil {ob:List Ob} {k:Kind} : Lies w0 ob hv S F w k [] []:=by
 cases k with
 | own s => exact ⟨[],⟨[],by simp [ownEs],List.nodup_nil,by simp⟩,fun _ b hb=>by cases hb⟩
 | clo => exact ⟨[],⟨[],by simp [footTs],by simp⟩,fun h=>by cases h⟩
 | bor => exact ⟨[],⟨[],by simp [footTs],by simp⟩,fun h=>by cases h⟩
theorem shrink_sound {P:Program} {Q:Exit→Act→World→Prop} {K:AV→List Ob→Prop} {next:Value→World→Prop} {o:Oper} {t:TypeId} {x hi:Operand} {i:Nat} (ho:o.op = .slice t x none (some hi) none) (hx:σ.opd x = .sr i) (hr:Rel w0 σ hv S F a w) (h:vcShrink P t i (σ.opd hi) σ.ob K) (hn:Ans w0 σ a K next) : Does P Q o a w next:=by
 unfold vcShrink at h
 split at h
 ·rename_i e m e' m' k es kk n hl hob hhi
  obtain ⟨rfl,rfl,h0,h1,hK⟩:=h
  obtain ⟨⟨Ls,fs,_⟩,_⟩:=hr.arg x
  obtain ⟨⟨Lh,fh,_⟩,_⟩:=hr.arg hi
  rw [hx] at fs
  rw [hhi] at fh
  simp only [footA] at fs fh
  simp only [footT] at fh
  obtain ⟨fs,_⟩:=fs
  obtain ⟨vs,k1,k2,k3,k4⟩:=hr.ob i _ hob
  have hvl:=elsR_length k2
  obtain ⟨hu,hm,inf,hinf⟩:=lay_sli hl
  obtain ⟨S',s2,hr1,hlies⟩:=Lies.join hr hob k2 Lies.nil (fun _=>rfl) (fun h=>h) (k':=k)
  rw [List.append_nil,List.append_nil] at hlies
  have hlies:=hlies.take n.toNat
  obtain ⟨A,c,hA⟩ : ∃ A c,hv i = .slice A es.length c∧es.length≤c:=by
   rcases k1.2 with ⟨q1,q2⟩ | ⟨g,cap,cur,q1,_,_,q2,_⟩
   ·exact ⟨none,0,by rw [q1,q2],by omega⟩
   ·exact ⟨_,cap,q1,q2⟩
  have hb:=bounds_run (P:=P) (len:=es.length) (cap:=c) (lo:=none) (hi:=some (.int kk n)) true w (Int.le_refl 0) h0 h1 hA.2 (.inl ⟨rfl,rfl⟩) (.inr ⟨kk,rfl⟩)
  have hs2:=run_slice_any (P:=P) (w:=w) t A es.length c (by rw [elem_of hu]; exact hu) none (some (.int kk n)) none
  rw [hb] at hs2
  simp only [Result.andThen_ok,elem_of hu,run_sizeOf w hinf,hm] at hs2
  have hrun : (execOp a.eval o).run P w = .ok (.value (sliced A 0 n.toNat c m')) w:=by
   simp only [execOp,ho,Sem.run_bind,Option.map_none,Option.map_some,fs,fh.1,hA.1,run_sliceAt_slice (h:=(show P.underlying t=some (.slice (P.elem t)) by rw [elem_of hu]; exact hu)),hs2,Result.andThen_ok,Sem.run_pure]
   rfl
  have hlt : ((es.take n.toNat)).length=n.toNat:=by rw [List.length_take]; omega
  have hval : ∀ g cap,hv i = .slice (some ⟨g,0,none⟩) es.length cap→sliced A 0 n.toNat c m' = .slice (some ⟨g,0,none⟩) n.toNat cap:=by
   intro g cap q
   rw [hA.1] at q
   cases q
   simp only [sliced,Nat.sub_zero]
   split
   ·rfl
   ·simp [add_lit]
  have hrow : w.ownsRow 0 e' m' (sliced A 0 n.toNat c m') (es.take n.toNat).length (cellsL (vs.take n.toNat)):=by
   refine ⟨?_,?_⟩
   ·rw [cellsL_take _ k3,List.length_take,k1.1,hlt]
    exact Nat.min_eq_left (Nat.mul_le_mul_right _ (by omega))
   ·rcases k1.2 with ⟨q1,q2⟩ | ⟨g,cap,cur,q1,q3,q4,q5,q6,q7,q8⟩
    ·refine .inl ⟨?_,by omega⟩
     rw [hA.1,q2] at q1
     cases q1
     have : n.toNat=0:=by omega
     rw [this]; rfl
    ·refine .inr ⟨g,cap,cur,?_,q3,q4,by omega,q6,q7,?_⟩
     ·rw [hval g cap q1,hlt]
     ·rw [cellsL_take _ k3,← q8,List.take_take,hlt,Nat.min_eq_left (Nat.mul_le_mul_right _ (by omega))]
  have hroot : ∀ b,blkOf (sliced A 0 n.toNat c m')=some b→blkOf (hv i)=some b ∨ w.heap.size≤b:=by
   intro b hb
   rcases k1.2 with ⟨q1,q2⟩ | ⟨g,cap,cur,q1,_⟩
   ·rw [hA.1,q2] at q1
    cases q1
    simp [sliced,blkOf] at hb
   ·rw [hval g cap q1] at hb
    rw [q1]
    exact .inl hb
  obtain ⟨hv',S2,F',q1,q2⟩:=Rel.renew2 hr hob (by simp) (w':=w) ⟨rfl,rfl,rfl,Nat.le_refl _,fun k _ _=>rfl⟩ (Nat.le_refl _) hrow hroot rfl hr1 hlies (fun v hv=>k3 v (List.mem_of_mem_take hv)) (by rw [hlt]; omega) (by rw [cellsL_take _ k3]; exact fun u hu=>k4.2 u (List.mem_of_mem_take hu))
  exact does_value hrun (hn _ _ _ _ hv' S2 F' [] hK q1 (by simp only [footA]; exact ⟨by rw [← q2],trivial⟩) (by simp) (by simp [AV.under]))
 ·cases h
theorem row_span {P:Program} {e:TypeId} {m n a:Nat} {h:Value} {vs us:List Value} {g len cap:Nat} (hrow:w.ownsRow 0 e m h n (cellsL vs)) (hh:h = .slice (some ⟨g,0,none⟩) len cap) (hn:n=vs.length) (hvs:∀ v∈vs,v.cells.size=m) (h1:ones (cellsL vs))
 (hus:∀ v∈us,v.cells.size=m) (ho:ones (cellsL us)) (ha:a + us.length≤vs.length) :
 ∃ cs : Array Value,(storeCells ⟨g,a * m,none⟩ (cellsL us)).run P w = .ok () (w.setRow g cs)∧(w.setRow g cs).ownsRow 0 e m h n (cellsL (vs.take a ++ (us ++ vs.drop (a + us.length))))∧(∀ v∈vs.take a ++ (us ++ vs.drop (a + us.length)),v.cells.size=m)∧ones (cellsL (vs.take a ++ (us ++ vs.drop (a + us.length)))):=by
 obtain ⟨q1,q2⟩:=hrow
 rcases q2 with ⟨q2,_⟩ | ⟨g',cap',cur,q3,q4,q5,q6,q7,q8,q9⟩
 ·rw [hh] at q2; cases q2
 rw [hh] at q3
 simp only [Value.slice.injEq,Option.some.injEq,Addr.mk.injEq,and_true] at q3
 obtain ⟨rfl,rfl,rfl⟩:=q3
 have hvs' : ∀ v∈vs.take a ++ (us ++ vs.drop (a + us.length)),v.cells.size=m:=fun v hv=>by
  rcases List.mem_append.1 hv with hv | hv
  ·exact hvs v (List.mem_of_mem_take hv)
  ·rcases List.mem_append.1 hv with hv | hv
   ·exact hus v hv
   ·exact hvs v (List.mem_of_mem_drop hv)
 have hC' : cellsL (vs.take a ++ (us ++ vs.drop (a + us.length)))=(cellsL vs).take (a * m) ++ cellsL us ++ (cellsL vs).drop (a * m + us.length * m):=by
  rw [← Nat.add_mul,← cellsL_take _ hvs,← cellsL_drop _ hvs]
  simp [cellsL]
 have hlen' : (vs.take a ++ (us ++ vs.drop (a + us.length))).length=vs.length:=by
  simp only [List.length_append,List.length_take,List.length_drop]; omega
 have hul : (cellsL us).length=us.length * m:=cellsL_length _ hus
 have hvl : (cellsL vs).length=vs.length * m:=cellsL_length _ hvs
 have hcur : cur.toList=cellsL vs ++ cur.toList.drop (len * m):=by
  rw [← q9,List.take_append_drop]
 have hin : a * m + us.length * m≤(cellsL vs).length:=by rw [hvl,← Nat.add_mul]; exact Nat.mul_le_mul_right _ ha
 have hsz : a * m + us.length * m≤cur.size:=by
  have : (cellsL vs).length≤cur.size:=by rw [← Array.length_toList,hcur]; simp
  omega
 have hrun:=run_storeCells_at P g (a * m) e (cellsL us) 0 cur w q5 (by rw [hul]; simpa using hsz) ho
 have hnew : cur.toList.take (a * m + 0) ++ cellsL us ++ cur.toList.drop (a * m + 0 + (cellsL us).length)=cellsL (vs.take a ++ (us ++ vs.drop (a + us.length))) ++ cur.toList.drop (len * m):=by
  rw [hC',hul,Nat.add_zero]
  conv=>lhs; rw [hcur]
  rw [List.take_append_of_le_length (by omega),List.drop_append_of_le_length (by omega)]
  simp [List.append_assoc]
 have hones : ones (cellsL (vs.take a ++ (us ++ vs.drop (a + us.length)))):=by
  rw [hC']
  intro c hc
  simp only [List.mem_append] at hc
  rcases hc with (hc | hc) | hc
  ·exact h1 c (List.mem_of_mem_take hc)
  ·exact ho c hc
  ·exact h1 c (List.mem_of_mem_drop hc)
 rw [hnew] at hrun
 refine ⟨_,hrun,⟨by rw [cellsL_length _ hvs',hlen',hn],.inr ⟨g,cap,_,hh,q4,setRow_heap w g cur _ e _ q5,q6,q7,?_,?_⟩⟩,hvs',hones⟩
 ·simp only [List.size_toArray,List.length_append,List.length_drop,Array.length_toList,q8]
  rw [cellsL_length _ hvs',hlen',← hn]
  have : len * m≤cap * m:=Nat.mul_le_mul_right _ q6
  omega
 ·simp only [List.toList_toArray]
  rw [List.take_append_of_le_length (by rw [cellsL_length _ hvs',hlen',hn]; exact Nat.le_refl _),List.take_of_length_le (by rw [cellsL_length _ hvs',hlen',hn]; exact Nat.le_refl _)]
theorem zeroCells_eq {m n:Nat} {z:Value} (hzs:z.cells.size=m) (hm0:0 < m) : (Builtin.zeroCells z.cells n).toList=cellsL (List.replicate n z):=by
 apply List.ext_getElem?
 intro j
 have hlen : (cellsL (List.replicate n z)).length=n * m:=by
  have h:=cellsL_length (m:=m) (List.replicate n z) (fun v hv=>by rw [(List.mem_replicate.1 hv).2]; exact hzs)
  rwa [List.length_replicate] at h
 by_cases hj : j < n * m
 ·have hjd : j / m < n:=Nat.div_lt_of_lt_mul (by rw [Nat.mul_comm]; exact hj)
  have hjm : j % m < m:=Nat.mod_lt _ hm0
  have:=cellsL_get (m:=m) (vs:=List.replicate n z) (fun v hv=>by rw [(List.mem_replicate.1 hv).2]; exact hzs) (i:=j / m) (v:=z) (by simp [hjd]) hjm
  rw [Nat.mul_comm,Nat.div_add_mod] at this
  rw [this]
  simp only [Builtin.zeroCells,Array.toList_map,Array.toList_range,List.getElem?_map,hzs,List.getElem?_range hj,Option.map_some]
  have : j % m < z.cells.size:=by omega
  simp [this]
 ·rw [List.getElem?_eq_none (by simp [Builtin.zeroCells,hzs]; omega),List.getElem?_eq_none (by omega)]
theorem clear_sound {P:Program} {Q:Exit→Act→World→Prop} {K:AV→List Ob→Prop} {next:Value→World→Prop} {o:Oper} {c:Call} {t:TypeId} {x:Operand} (ho:o.op = .call c) (hc:c.callee = .builtin .clear) (ha:c.args.toList=[x]) (ht:c.argTypes.toList=[t])
 (hr:Rel w0 σ hv S F a w) (h:vcClear P t (σ.opd x) σ.ob K) (hn:Ans w0 σ a K next) : Does P Q o a w next:=by
 have ha':=arr1 ha
 have ht':=arr1 ht
 obtain ⟨⟨L,fx,hL⟩,hux⟩:=hr.arg x
 unfold vcClear at h
 split at h
 case h_2=>cases h
 rename_i i b0 m n hx
 split at h
 case h_2=>cases h
 rename_i e m' e' m2 s es hl hob
 obtain ⟨⟨rfl,rfl,hp,hle⟩,h⟩:=h
 split at h
 case h_2=>cases h
 rename_i z hz
 split at h
 case h_2=>cases h
 rename_i y ids hy
 obtain ⟨⟨hm0,hy1,hy2⟩,hK⟩:=h
 obtain ⟨hu,hm,inf,hinf⟩:=lay_sli hl
 have hz0:=own_lit (hv:=hv) (w:=w) _ _ hy (ofV_foot hv w z)
 obtain ⟨Lz,hzf,_⟩:=ownT_foot _ _ hz0
 have hzs : z.cells.size=m2:=by rw [(footT_cells hzf).1,hy1]
 rw [hx] at fx
 simp only [footA] at fx
 obtain ⟨vs,k1,k2,k3,k4⟩:=hr.ob i _ hob
 have hvl:=elsR_length k2
 have run : ∀ {W:World},(Builtin.clear_ #[t] o.type #[a.eval x]).run P w = .ok (.tuple #[]) W→(execOp a.eval o).run P w = .ok (.value (.tuple #[])) W:=fun h=>by
  simp [execOp,ho,resolve,hc,ha',ht',invoke,builtin,h]
 have fin : ∀ (hv':Hv) (S':Nat→Prop) (F':Nat→List Nat) (W:World),Rel w0 { σ with ob:=σ.ob.set i (.arr e' m2 (.own s) (es.take b0 ++ (List.replicate n y ++ es.drop (b0 + n)))) } hv' S' F' a W→next (.tuple #[]) W:=fun hv' S' F' W hr' =>
  hn _ _ _ _ hv' S' F' [] hK hr' (by simp only [footA,footT]; exact ⟨[],rfl,by simp [footTs]⟩) (by simp) (by simp [AV.under])
 rcases fx.1 with ⟨rfl,A,c',q⟩ | ⟨g,k,c',c2,q1,q2,q3,q4⟩
 ·have hes : es.take b0 ++ (List.replicate 0 y ++ es.drop (b0 + 0))=es:=by simp
  have hset : σ.ob.set i (.arr e' m2 (.own s) es)=σ.ob:=by
   apply List.ext_getElem?
   intro j
   by_cases hj : i=j
   ·subst hj; rw [List.getElem?_set_self (get_lt hob),hob]
   ·rw [List.getElem?_set_ne hj]
  rw [hes,hset] at fin
  refine does_value (run (W:=w) ?_) (fin hv S F w hr)
  rw [q]
  cases A<;>simp [Builtin.clear_,run_underlying hu]
 ·by_cases hn0 : n=0
  ·subst hn0
   have hes : es.take b0 ++ (List.replicate 0 y ++ es.drop (b0 + 0))=es:=by simp
   have hset : σ.ob.set i (.arr e' m2 (.own s) es)=σ.ob:=by
    apply List.ext_getElem?
    intro j
    by_cases hj : i=j
    ·subst hj; rw [List.getElem?_set_self (get_lt hob),hob]
    ·rw [List.getElem?_set_ne hj]
   rw [hes,hset] at fin
   refine does_value (run (W:=w) ?_) (fin hv S F w hr)
   rw [q2]
   simp [Builtin.clear_,run_underlying hu]
  ·have hus : ∀ v∈List.replicate n z,v.cells.size=m2:=fun v hv=>by rw [(List.mem_replicate.1 hv).2]; exact hzs
   have huo : ones (cellsL (List.replicate n z)):=by
    intro u hu
    simp only [cellsL,List.mem_flatMap] at hu
    obtain ⟨v,hv,hu⟩:=hu
    rw [(List.mem_replicate.1 hv).2] at hu
    exact ones_cells hzf hy2 u hu
   obtain ⟨cs,r1,r2,r3,r4⟩:=row_span (P:=P) (a:=b0) (us:=List.replicate n z) k1 q1 hvl.symm k3 k4.2 hus huo (by rw [List.length_replicate]; omega)
   rw [List.length_replicate] at r2 r3 r4
   have hroot : blkOf (hv i)=some g:=by rw [q1]; rfl
   have hzv : (zeroValue (P.elem t)).run P w = .ok z w:=by
    have hzz : inf.zero=some z:=by simpa [zeroOf,hinf] using hz
    rw [elem_of hu]
    simp [zeroValue,typeInfo,hinf,hzz]
   refine does_value (run (W:=w.setRow g cs) ?_) ?_
   ·rw [q2]
    cases n with
    | zero => exact absurd rfl hn0
    | succ n =>
      rw [elem_of hu] at hzv
      simp [Builtin.clear_,run_underlying hu,hzv,zeroCells_eq hzs hm0,r1]
   ·have hB2 : ∀ b,hv.B b→(w.setRow g cs).heap[b]? = w.heap[b]?:=fun b hb=>setRow_other w g b _ (fun e=>(hr.root i _ hob (by simp) g hroot).2.2 (e ▸ hb))
    obtain ⟨L1,a1,a2,a3⟩:=k2
    obtain rfl:=plainEs_own hp a1
    have hlen' : (es.take b0 ++ (List.replicate n y ++ es.drop (b0 + n))).length=es.length:=by simp only [List.length_append,List.length_take,List.length_drop,List.length_replicate]; omega
    refine fin hv S F _ (hr.write hob (by simp) (w':=w.setRow g cs) (fun k hk=>setRow_other w g k _ (fun e=>hk (by rw [hroot,e]))) (by simp) rfl rfl rfl (Nat.le_refl _) rfl ⟨_,by rw [hlen']; exact r2,⟨[],?_,by simp,by simp⟩,r3,by rw [hlen']; exact ⟨k4.1,r4⟩⟩ (fun _=>rfl))
    have e1 : ownEs w s (es.take b0 ++ es.drop b0) vs []:=by rw [List.take_append_drop]; exact a1
    obtain ⟨v1,v2,M1,M2,hv1,hM,b1,b2⟩:=ownEs_split e1
    have e2 : ownEs w s ((es.drop b0).take n ++ (es.drop b0).drop n) v2 M2:=by rw [List.take_append_drop]; exact b2
    obtain ⟨v3,v4,M3,M4,hv2,hM2,b3,b4⟩:=ownEs_split e2
    have hl1:=ownEs_length b1
    have hl3:=ownEs_length b3
    rw [List.length_take] at hl1 hl3
    rw [List.length_drop] at hl3
    have hM1 : M1=[]:=plainEs_own hp b1
    have hM4 : M4=[]:=plainEs_own hp b4
    subst hM1 hM4
    rw [List.drop_drop] at b4
    have t1 : vs.take b0=v1:=by rw [hv1,List.take_left' (by omega)]
    have t2 : vs.drop (b0 + n)=v4:=by rw [hv1,hv2,← List.append_assoc,List.drop_left' (by rw [List.length_append]; omega)]
    rw [t1,t2]
    have hrep : ∀ k,ownEs w s (List.replicate k y) (List.replicate k z) []:=by
     intro k
     induction k with
     | zero => simp [ownEs]
     | succ k ih => simp only [List.replicate_succ,ownEs]; exact ⟨z,_,[],[],rfl,rfl,hz0,ih⟩
    have:=ownEs_append b1 (ownEs_append (hrep n) b4)
    exact ownEs_mono s _ _ _ (by simp) this
end
noncomputable def vcOp (P:Program) (σ:St) (op:Op) (K:AV→List Ob→Prop) : Prop :=
 match op with
 | .box _ x => K (.rf σ.ob.length 0) (σ.ob ++ [.box (σ.opd x)])
 | .alloc t => match zeroOf P t with
   | some z => K (.rf σ.ob.length 0) (σ.ob ++ [.box (ofV z)])
   | none => False
 | .load t x => (vcLook P σ.ob σ.opd op fun r=>K r σ.ob) ∨ vcOpen P t (σ.opd x) σ.tm σ.ob K
 | .store t p x => vcStore P t (σ.opd p) (σ.opd x) σ.ob K
 | .binOp op t x y _ => vcNb P op t (σ.opd x) (σ.opd y) fun r=>K r σ.ob
 | .buildSlice t n parts => vcBuildSlice P t n (parts.toList.map (·.1)) (parts.toList.map fun p=>σ.opd p.2) σ.ob K
 | .makeSlice t l c => vcMake P t (σ.opd l) (σ.opd c) σ.ob K
 | .mapUpdate t m k x => vcMapUpd P t (σ.opd m) (σ.opd k) (σ.opd x) σ.ob K
 | .insert t m k x => vcMapUpd P t (σ.opd m) (σ.opd k) (σ.opd x) σ.ob K
 | .makeMap t r => vcMakeMap P t (r.map σ.opd) σ.ob K
 | .mapEntry t m k => vcMapEnt P t (σ.opd m) (σ.opd k) σ.ob K
 | .entryStore _ m k x => vcEntSt (σ.opd m) (σ.opd k) (σ.opd x) σ.ob K
 | .range t x => vcRange P t (σ.opd x) σ.ob K
 | .slice t x none (some hi) none => vcSl3 P t (σ.opd x) (σ.opd hi) σ.ob K
 | .next x false => vcNext (σ.opd x) σ.ob K
 | .entry x => vcEntry (σ.opd x) σ.ob K
 | .call c => match c.callee,c.args.toList,c.argTypes.toList with
   | .builtin .delete, [m, k], t :: _ => vcDelete P t (σ.opd m) (σ.opd k) σ.ob K
   | .builtin .append, [s, x], [t, t'] => t=t' ∧ vcAppend P t (σ.opd s) (σ.opd x) σ.ob K
   | .builtin .clear, [x], [t] => vcClear P t (σ.opd x) σ.ob K
   | .value f, _, _ => vcCallO P (σ.opd f) (c.args.toList.map σ.opd) σ.tm σ.ob K
   | _, _, _ => vcLook P σ.ob σ.opd op fun r=>K r σ.ob
 | op => vcLook P σ.ob σ.opd op fun r=>K r σ.ob
def guardOf (all:Array Oper) (σ:St) (o:Oper) : Option Bool :=
 match o.guard with
 | none => some true
 | some (j, b) => match (all[j]?).bind (·.dst) with
   | some d => match getL σ.tm d with
     | .t (.b x) => some (x == b)
     | .ud => some false
     | _ => none
   | none => none
def vcGuard (all:Array Oper) (σ:St) (o:Oper) (Run Skip:St→Prop) : Prop :=
 match o.guard with
 | none => Run σ
 | some (j, b) => match (all[j]?).bind (·.dst) with
   | some d => match getL σ.tm d with
     | .t (.b x) => if x=true then (if b=true then Run (σ.set (some d) (.t (.b true))) else Skip (σ.set (some d) (.t (.b true))))
       else (if b=true then Skip (σ.set (some d) (.t (.b false))) else Run (σ.set (some d) (.t (.b false))))
     | .ud => Skip (σ.set (some d) .ud)
     | _ => False
   | none => False
def dstOk (n:Nat) : Option Nat→Prop
 | some d => d < n
 | none => True
noncomputable def vcOps (P:Program) (all:Array Oper) : List Oper→St→(St→Prop)→Prop
 | [], σ, K => K σ
 | o :: rest, σ, K => dstOk σ.n o.dst∧vcGuard all σ o (fun σ=>vcOp P σ o.op fun x ob=>vcOps P all rest (({ σ with ob:=ob } : St).set o.dst x) K) (fun σ=>vcOps P all rest (σ.set o.dst .ud) K)
structure Eqv (σ σ':St) : Prop where
 n : σ'.n=σ.n
 ob : σ'.ob=σ.ob
 tm : ∀ t,getL σ'.tm t=getL σ.tm t
theorem Eqv.refl (σ:St) : Eqv σ σ:=⟨rfl,rfl,fun _=>rfl⟩
theorem getL_set {σ:St} {d:Option Nat} {x:AV} {t:Nat} : getL (σ.set d x).tm t=if d=some t then x else getL σ.tm t:=by
 cases d with
 | none => simp [St.set]
 | some d =>
   simp only [St.set,getL]
   by_cases h : t=d
   ·subst h; simp
   ·simp [h,Ne.symm h]
theorem set_n {σ:St} {d:Option Nat} {x:AV} : (σ.set d x).n=σ.n:=by cases d<;>rfl
theorem set_ob {σ:St} {d:Option Nat} {x:AV} : (σ.set d x).ob=σ.ob:=by cases d<;>rfl
theorem Eqv.set {σ σ':St} (h:Eqv σ σ') (d:Option Nat) (x:AV) : Eqv (σ.set d x) (σ'.set d x) :=
 ⟨by rw [set_n,set_n,h.n],by rw [set_ob,set_ob,h.ob],fun t=>by rw [getL_set,getL_set,h.tm]⟩
theorem Eqv.again {σ σ':St} (h:Eqv σ σ') {d:Nat} {x:AV} (hx:getL σ.tm d=x) : Eqv σ (σ'.set (some d) x) :=
 ⟨by rw [set_n,h.n],by rw [set_ob,h.ob],fun t=>by
  rw [getL_set,h.tm]
  split
  ·rename_i e; cases e; exact hx.symm
  ·rfl⟩
theorem vcGuard_sound {all:Array Oper} {σ σ':St} {o:Oper} {Run Skip:St→Prop} (he:Eqv σ σ') (h:vcGuard all σ' o Run Skip) :
 (guardOf all σ o=some true∧∃ σ'',Eqv σ σ'' ∧ Run σ'') ∨ (guardOf all σ o=some false∧∃ σ'',Eqv σ σ'' ∧ Skip σ''):=by
 unfold vcGuard at h
 unfold guardOf
 cases hg : o.guard with
 | none =>
   rw [hg] at h
   exact .inl ⟨rfl,σ',he,h⟩
 | some p =>
   obtain ⟨j,b⟩:=p
   rw [hg] at h
   dsimp only at h ⊢
   cases hd : (all[j]?).bind (·.dst) with
   | none => rw [hd] at h; exact h.elim
   | some d =>
     rw [hd] at h
     dsimp only at h ⊢
     have hget:=he.tm d
     split at h
     ·rename_i x hx
      rw [hx] at hget
      rw [← hget]
      dsimp only
      cases x with
      | true =>
        rw [if_pos rfl] at h
        cases b with
        | true => rw [if_pos rfl] at h; exact .inl ⟨rfl,_,he.again hget.symm,h⟩
        | false => rw [if_neg (by simp)] at h; exact .inr ⟨rfl,_,he.again hget.symm,h⟩
      | false =>
        rw [if_neg (by simp)] at h
        cases b with
        | true => rw [if_pos rfl] at h; exact .inr ⟨rfl,_,he.again hget.symm,h⟩
        | false => rw [if_neg (by simp)] at h; exact .inl ⟨rfl,_,he.again hget.symm,h⟩
     ·rename_i hx
      rw [hx] at hget
      rw [← hget]
      exact .inr ⟨rfl,_,he.again hget.symm,h⟩
     ·cases h
section
variable {P:Program} {Q:Exit→Act→World→Prop} {w0:Base} {σ:St} {hv:Hv} {S:Nat→Prop} {F:Nat→List Nat} {a:Act} {w:World}
 {K:AV→List Ob→Prop} {next:Value→World→Prop} {ob:List Ob}
theorem vcP_sound {e:Operand→AV} {K:AV→Prop} {o:Oper} {ρ:Operand→Value} (hob:Obs ob hv S F w) (harg:∀ y∈o.op.operands,Arg hv S w ob.length (e y) (ρ y)) (h:vcP P ob e o.op K) : ∃ r,K r∧Yields1 P ob e o r:=by
 unfold vcP at h
 split at h
 ·rename_i t parts ho; exact build_sound ho h
 ·rename_i t x ho; exact iface_sound ho h
 ·rename_i s x f ho; exact fld_sound ho h
 ·rename_i fn first xs ho; exact fn_sound ho h
 ·rename_i t m k ok ho; exact lookup_sound ho hob harg h
 ·rename_i op t x y r ho; exact bs_sound ho h
 ·exact vcPure_sound hob harg h
def Fact (P:Program) (ob:List Ob) (e:Operand→AV) (o:Oper) (x:AV) : Prop:=Yields1 P ob e o x ∨ ∃ r,x = .t r∧CallsTo P ob e o r
theorem vcLook_sound {e:Operand→AV} {K:AV→Prop} {o:Oper} {ρ:Operand→Value} (hob:Obs ob hv S F w) (harg:∀ y∈o.op.operands,Arg hv S w ob.length (e y) (ρ y)) (h:vcLook P ob e o.op K) : ∃ r,K r∧Fact P ob e o r:=by
 unfold vcLook at h
 split at h
 ·rename_i c ho
  split at h
  ·rename_i f hc
   obtain ⟨r,h1,h2⟩:=call_sound ho hc h
   exact ⟨.t r,h1,.inr ⟨r,rfl,h2⟩⟩
  ·rename_i f name hc
   obtain ⟨r,h1,h2⟩:=inv_sound ho hc h
   exact ⟨.t r,h1,.inr ⟨r,rfl,h2⟩⟩
  ·obtain ⟨r,h1,h2⟩:=vcP_sound hob harg h
   exact ⟨r,h1,.inl h2⟩
 ·obtain ⟨r,h1,h2⟩:=vcP_sound hob harg h
  exact ⟨r,h1,.inl h2⟩
theorem Fact.does {x:AV} {o:Oper} {e:Operand→AV} (hf:Fact P σ.ob e o x) (hr:Rel w0 σ hv S F a w) (he:∀ y∈o.op.operands,Arg hv S w σ.ob.length (e y) (a.eval y))
 (hn:∀ v w' (hv':Hv) S',Rel w0 σ hv' S' F a w'→(∃ L,footA hv' w' x v L∧∀ b∈L,S' b)→x.under σ.ob.length=true→next v w') : Does P Q o a w next:=by
 rcases hf with hf | ⟨r,rfl,hf⟩
 ·obtain ⟨v,h1,h2,h3⟩:=hf hr.obs he
  exact does_value h1 (hn v w hv S hr h2 h3)
 ·obtain ⟨f,args,h1,h2⟩:=hf hr.obs hr.Blt hr.rootsIn he
  unfold Does Oper.wp
  rw [h1,Oper.upon_enter]
  refine h2.mono fun en w' hh=>?_
  obtain ⟨v,L',rfl,q1,q2,q3⟩:=hh
  exact ⟨v,rfl,hn v w' _ _ (hr.grow q3) ⟨L',by simpa only [footA] using q1,q2⟩ rfl⟩
theorem eqlIn_slice_nil {W:World} (d:Nat) {t e:TypeId} {A:Option Addr} {n c:Nat} (h:P.underlying t=some (.slice e)) :
 (Op.equalIn (d + 1) t (.slice A n c) (.slice none 0 0)).run P W = .ok A.isNone W:=by
 cases A<;>simp [Op.equalIn,run_underlying h]
theorem eql_slice_nil {W:World} {t e:TypeId} {A:Option Addr} {n c:Nat} (h:P.underlying t=some (.slice e)) (op:BinOp) (hop:op = .eql ∨ op = .neq) :
 (Go.binOp op t (.slice A n c) (.slice none 0 0)).run P W = .ok (.bool (if op = .eql then A.isNone else !A.isNone)) W:=by
 have h1:=eqlIn_slice_nil (P:=P) (W:=W) 9999 (A:=A) (n:=n) (c:=c) h
 rcases hop with rfl | rfl
 ·simp only [Go.binOp]
  simp [show Op.equal t (.slice A n c) (.slice none 0 0)=Op.equalIn (9999 + 1) t (.slice A n c) (.slice none 0 0) from rfl,h1]
 ·simp only [Go.binOp]
  simp [show Op.equal t (.slice A n c) (.slice none 0 0)=Op.equalIn (9999 + 1) t (.slice A n c) (.slice none 0 0) from rfl,h1]
theorem nb_sound {o:Oper} {op:BinOp} {t:TypeId} {x y:Operand} {r:TypeId} (ho:o.op = .binOp op t x y r) (hr:Rel w0 σ hv S F a w) (h:vcNb P op t (σ.opd x) (σ.opd y) fun r=>K r σ.ob) (look:vcBs P op t (σ.opd x) (σ.opd y) (fun r=>K r σ.ob)→Does P Q o a w next) (hn:Ans w0 σ a K next) : Does P Q o a w next:=by
 have go : ∀ {b:Bool} {A:Option Addr} {n c:Nat},(∃ e m,lay P t = .sli e m)→a.eval x = .slice A n c→a.eval y = .slice none 0 0→(op = .eql ∨ op = .neq)→b=(if op = .eql then A.isNone else !A.isNone)→K (.t (.b b)) σ.ob→Does P Q o a w next:=by
  intro b A n c ⟨e,m,hl⟩ hx hy hop hb hk
  refine does_value (v:=.bool b) (w':=w) ?_ (hn _ w (.t (.b b)) σ.ob hv S F [] hk hr (by simp [footA,footT]) (by simp) rfl)
  have:=eql_slice_nil (P:=P) (W:=w) (A:=A) (n:=n) (c:=c) (lay_sli hl).1 op hop
  rw [hb]
  rcases hop with rfl | rfl<;>simp [execOp,ho,hx,hy,this,eqGuard]
 have sl : ∀ {es:List T} {L:List Nat} {v:Value},footT w (.sl es) v L → ∃ A n c,v = .slice A n c∧(A.isNone=true→es=[]):=by
  intro es L v hf
  simp only [footT] at hf
  obtain ⟨A,c,rfl,_,_,h⟩:=hf
  refine ⟨A,_,c,rfl,fun hA=>?_⟩
  rcases h with h | ⟨b,off,vs,L',m,hA',_⟩
  ·exact h.1
  ·rw [hA'] at hA; cases hA
 have ops : ∀ {es:List T} {A:Option Addr} {n c:Nat},(∃ e m,lay P t = .sli e m)→a.eval x = .slice A n c→a.eval y = .slice none 0 0→(A.isNone=true→es=[])→nilK op (es=[]) (fun b=>K (.t (.b b)) σ.ob)→Does P Q o a w next:=by
  intro es A n c hl hx hy hA hh
  unfold nilK at hh
  cases hAn : A.isNone with
  | true =>
    cases op<;>first
     | exact hh.elim
     | exact go hl hx hy (.inl rfl) (by simp [hAn]) (hh.1 (hA hAn))
     | exact go hl hx hy (.inr rfl) (by simp [hAn]) (hh.1 (hA hAn))
  | false =>
    cases op<;>first
     | exact hh.elim
     | exact go hl hx hy (.inl rfl) (by simp [hAn]) hh.2
     | exact go hl hx hy (.inr rfl) (by simp [hAn]) hh.2
 obtain ⟨Lx,hfx,hSx⟩:=(hr.opd x).1
 obtain ⟨Ly,hfy,_⟩:=(hr.opd y).1
 unfold vcNb at h
 split at h
 ·rename_i es hx hy
  rw [hx] at hfx
  rw [hy] at hfy
  simp only [footA] at hfx hfy
  obtain ⟨A,n,c,e,hA⟩:=sl hfx
  exact ops h.1 e hfy.1 hA h.2
 ·rename_i es hx hy
  rw [hx] at hfx
  rw [hy] at hfy
  simp only [footA] at hfx hfy
  obtain ⟨⟨L',hfx,_⟩,_⟩:=hfx
  obtain ⟨A,n,c,e,hA⟩:=sl hfx
  exact ops h.1 e hfy.1 hA h.2
 ·rename_i hx hy
  rw [hx] at hfx
  rw [hy] at hfy
  simp only [footA] at hfx hfy
  obtain ⟨hl,h⟩:=h
  unfold nilN at h
  cases op<;>first
   | exact h.elim
   | exact go hl hfx.1 hfy.1 (.inl rfl) rfl h
   | exact go hl hfx.1 hfy.1 (.inr rfl) rfl h
 ·exact look h
theorem vcOp_sound {o:Oper} (hr:Rel w0 σ hv S F a w) (h:vcOp P σ o.op K) (hn:Ans w0 σ a K next) : Does P Q o a w next:=by
 have look : vcLook P σ.ob σ.opd o.op (fun r=>K r σ.ob)→Does P Q o a w next:=by
  intro h
  obtain ⟨r,h1,h2⟩:=vcLook_sound hr.obs (fun y _=>hr.arg y) h
  exact h2.does hr (fun y _=>hr.arg y) fun v w' hv' S' hr' ⟨L,f1,f2⟩ hu=>hn v w' r σ.ob hv' S' F L h1 hr' f1 f2 hu
 unfold vcOp at h
 split at h
 ·rename_i t x ho; exact box_sound ho hr h hn
 ·rename_i t ho
  split at h
  ·rename_i z hz; exact alloc_sound ho hr hz h hn
  ·cases h
 ·rename_i t x ho
  rcases h with h | h
  ·exact look h
  ·exact open_sound ho hr h hn
 ·rename_i t p x ho
  cases hp : σ.opd p with
  | rf id off =>
    rw [hp] at h
    unfold vcStore at h
    dsimp only at h
    split at h
    ·rename_i y hy
     obtain ⟨h1,h2,h3,h4,h5,hz,h6⟩:=h
     exact store_box_sound ho hr hp hy h1 h2 h3 h4 h5 hz h6 hn
    ·cases h
  | ra id i m off =>
    rw [hp] at h
    by_cases hnh : ∃ e m s es i j n,σ.ob[id]? = some (.hole e m s es i j n)
    ·obtain ⟨e,m',s,es,i',j,n,hid⟩:=hnh
     exact store_hole_sound ho hr hp hid h hn
    ·exact store_ra_sound ho hr hp h (fun e m s es i j n hh=>hnh ⟨e,m,s,es,i,j,n,hh⟩) hn
  | _ => rw [hp] at h; unfold vcStore at h; cases h
 ·rename_i op t x y r ho
  exact nb_sound ho hr h (fun h=>look (by rw [ho]; exact h)) hn
 ·rename_i t n parts ho; exact buildSlice_sound ho hr h hn
 ·rename_i t l c ho; exact make_sound ho hr h hn
 ·rename_i t m k x ho; exact mapUpd_sound ho hr h hn
 ·rename_i t m k x ho; exact ins_sound ho hr h hn
 ·rename_i t r ho; exact makeMap_sound ho hr h hn
 ·rename_i t m k ho; exact mapEnt_sound ho hr h hn
 ·rename_i t m k x ho; exact entSt_sound ho hr h hn
 ·rename_i t x ho; exact range_sound ho hr h hn
 ·rename_i t x hi ho
  unfold vcSl3 at h
  split at h
  ·rename_i i hx; exact shrink_sound ho hx hr h hn
  ·exact look (by rw [ho]; exact h)
 ·rename_i x ho; exact next_sound ho hr h hn
 ·rename_i x ho; exact entry_sound ho hr h hn
 ·rename_i c ho
  split at h
  ·rename_i m k t ts hc ha ht
   exact delete_sound ho hc ha ht hr h hn
  ·rename_i s x t t' hc ha ht
   obtain ⟨rfl,h⟩:=h
   exact append_sound ho hc ha ht hr h hn
  ·rename_i x t hc ha ht
   exact clear_sound ho hc ha ht hr h hn
  ·rename_i f _ _ hc
   exact callO_sound ho hc hr h hn
  ·exact look h
 ·exact look h
theorem wanted_of {all:Array Oper} {o:Oper} {b:Bool} (hr:Rel w0 σ hv S F a w) (h:guardOf all σ o=some b) : Region.wanted o (yielded all a.tmps)=b:=by
 unfold guardOf at h
 unfold Region.wanted
 cases hg : o.guard with
 | none => simp only [hg,Option.some.injEq] at h ⊢; exact h
 | some p =>
   obtain ⟨j,c⟩:=p
   simp only [hg] at h ⊢
   split at h
   ·rename_i d hd
    obtain ⟨L,f1,f2⟩:=hr.tm d
    have hget : ∀ v,a.tmps.getD d undef=v→v≠undef→a.tmps[d]? = some v:=by
     intro v h1 h2
     cases hq : a.tmps[d]? with
     | none => simp [hq] at h1; exact absurd h1.symm h2
     | some u => simp [hq] at h1; rw [h1]
    split at h
    ·rename_i x hx
     rw [hx] at f1
     simp only [footA,footT] at f1
     simp only [Option.some.injEq] at h
     have:=hget _ f1.1 (by intro hh; cases hh)
     simp only [yielded,hd,Option.bind_some,this]
     rw [← h]
     cases x<;>cases c<;>rfl
    ·rename_i hx
     rw [hx] at f1
     simp only [footA] at f1
     simp only [Option.some.injEq] at h
     subst h
     have : yielded all a.tmps j=none:=by
      simp only [yielded,hd,Option.bind_some]
      cases hq : a.tmps[d]? with
      | none => rfl
      | some u =>
        have hu : u=undef:=by simpa [hq] using f1.1
        rw [hu]; rfl
     rw [this]; rfl
    ·cases h
   ·cases h
theorem Rel.tm_ext {σ':St} (hr:Rel w0 σ hv S F a w) (he:Eqv σ σ') : Rel w0 σ' hv S F a w:=by
 obtain ⟨n,tm,ob⟩:=σ'
 obtain ⟨hn,ho,ht⟩:=he
 simp only at hn ho ht
 subst hn ho
 exact { hr with size:=hr.size,tm:=fun t=>by rw [ht]; exact hr.tm t,utm:=fun t=>by rw [ht]; exact hr.utm t }
theorem vcOps_sound {all:Array Oper} : ∀ (rest:List Oper) {σ:St} {hv:Hv} {S:Nat→Prop} {F:Nat→List Nat} {a:Act} {w:World} {K:St→Prop},Rel w0 σ hv S F a w→vcOps P all rest σ K →
 (∀ σ' (hv':Hv) S' F' a' w',K σ'→Rel w0 σ' hv' S' F' a' w'→Q .normal a' w')→wpList P all Q rest a w
 | [], σ, hv, S, F, a, w, K, hr, h, hQ => hQ σ hv S F a w h hr
 | o :: rest, σ, hv, S, F, a, w, K, hr, h, hQ => by
   obtain ⟨hd,h⟩:=h
   have hdk : ∀ σ',Eqv σ σ' → ∀ k,o.dst=some k→k < σ'.n:=fun σ' he k hk=>by rw [hk] at hd; rw [he.n]; exact hd
   rcases vcGuard_sound (Eqv.refl σ) h with ⟨hg,σ',he,h⟩ | ⟨hg,σ',he,h⟩
   ·have hw:=wanted_of hr hg
    have hr1:=hr.tm_ext he
    unfold wpList
    rw [if_pos hw]
    refine .inl ?_
    have:=vcOp_sound (Q:=Q) (next:=fun v w'=>wpList P all Q rest (a.put o.dst v) w') hr1 h (fun v w' x ob' hv' S' F' L hK hr' f1 f2 hu=>by
     have hp:=hr'.put (d:=o.dst) f1 f2 hu (hdk σ' he)
     exact vcOps_sound rest hp hK hQ)
    unfold Does at this
    exact Oper.wp_mono (fun a' w' ⟨v,ha,hv⟩=>ha ▸ hv) this
   ·have hw:=wanted_of hr hg
    have hr1:=hr.tm_ext he
    unfold wpList
    rw [if_neg (by rw [hw]; simp)]
    exact vcOps_sound rest (hr1.put (d:=o.dst) (x:=.ud) (v:=undef) (L:=[]) (by simp [footA]) (by simp) rfl (hdk σ' he)) h hQ
end
end Go.Proofs.YtmgdkkhnjkepiaaGreat.BX
namespace Go.Proofs.YtmgdkkhnjkepiaaGreat.BX
open Nat renaming reduceEqDiff → zA, reduceLT → zB, reduceLeDiff → zC, reduceAdd → zD, reduceMul → zE, reduceSub → zF, reduceBEq → zG
set_option linter.unusedSectionVars false
set_option linter.unusedSimpArgs false
set_option linter.unusedVariables false
open Go Go.RowKit
variable [Bd]
def putAll : St→List Oper→List AV→St
 | σ, o :: os, x :: xs => putAll (σ.set o.dst x) os xs
 | σ, _, _ => σ
def vcPre (P:Program) (all:Array Oper) : List Oper→St→(St→Prop)→Prop
 | [], σ, K => K σ
 | o :: rest, σ, K => dstOk σ.n o.dst∧vcGuard all σ o (fun σ=>vcLook P σ.ob σ.opd o.op fun x=>vcPre P all rest (σ.set o.dst x) K) (fun σ=>vcPre P all rest (σ.set o.dst .ud) K)
def FactG (P:Program) (all:Array Oper) (σ:St) (o:Oper) (x:AV) : Prop :=
 dstOk σ.n o.dst∧((guardOf all σ o=some true∧Fact P σ.ob σ.opd o x) ∨ (guardOf all σ o=some false∧x = .ud))
def Facts (P:Program) (all:Array Oper) : St→List Oper→List AV→Prop
 | _, [], [] => True
 | σ, o :: os, x :: xs => FactG P all σ o x∧Facts P all (σ.set o.dst x) os xs
 | _, _, _ => False
def waits (ops:Array Oper) (i j:Nat) : Bool :=
 match ops[i]? with
 | some o => o.after.any fun e=>Region.binds .any e && e.on == j
 | none => false
def okDraw (ops:Array Oper) (k:Nat) : Bool :=
 (decide (k≤ops.size)) &&
 ((List.range ops.size).all fun i=>match ops[i]? with
   | some o => (o.after.all fun e=>!Region.binds .any e || decide (e.on < i)) && (decide (i < k) || (List.range i).all fun j=>(List.range ops.size).any fun m=>decide (j < m) && decide (m≤i) && waits ops m j)
   | none => false) &&
 ((List.range k).all fun i=>match ops[i]? with
   | some o => (List.range k).all fun j=>match ops[j]? with
     | some p => match p.dst with
       | some t => (i == j || o.dst != some t) && (!(o.looksAt ops).contains t || (decide (j < i) && waits ops i j))
       | none => true
     | none => false
   | none => false)
def vcDraw (P:Program) (ops:Array Oper) (k:Nat) (σ:St) (K:St→Prop) : Prop :=
 okDraw ops k=true∧vcPre P ops (ops.toList.take k) σ fun σ'=>vcOps P ops (ops.toList.drop k) σ' K
section
variable {P:Program} {Q:Exit→Act→World→Prop} {w0:Base} {σ:St} {hv:Hv} {S:Nat→Prop} {F:Nat→List Nat} {a:Act} {w:World}
theorem Calls.some {f:FuncId} {args:Array Value} {R:Ending→World→Prop} (h:Calls P f args w R) : ∃ e w',R e w':=by
 obtain ⟨e,w',_,hR,_⟩:=h []
 exact ⟨e,w',hR⟩
theorem Eqv.opd {σ σ':St} (h:Eqv σ σ') (y:Operand) : σ'.opd y=σ.opd y:=by
 cases y with
 | tmp t => exact h.tm t
 | _ => rfl
theorem vcPre_sound {all:Array Oper} : ∀ (pre:List Oper) {σ σ':St} {hv:Hv} {S:Nat→Prop} {F:Nat→List Nat} {a:Act} {w:World} {K:St→Prop},Rel w0 σ hv S F a w→Eqv σ σ'→vcPre P all pre σ' K →
 ∃ (xs:List AV) (σ'':St),Eqv (putAll σ pre xs) σ'' ∧ K σ'' ∧ Facts P all σ pre xs
 | [], σ, σ', hv, S, F, a, w, K, hr, he, h => ⟨[],σ',he,h,trivial⟩
 | o :: rest, σ, σ', hv, S, F, a, w, K, hr, he, h => by
   obtain ⟨hd,h⟩:=h
   rw [he.n] at hd
   have hdk : ∀ k,o.dst=some k→k < σ.n:=fun k hk=>by rw [hk] at hd; exact hd
   rcases vcGuard_sound he h with ⟨hg,σ1,he1,h⟩ | ⟨hg,σ1,he1,h⟩
   ·have hr1:=hr.tm_ext he1
    obtain ⟨x,hx,hf⟩:=vcLook_sound hr1.obs (fun y _=>hr1.arg y) h
    rw [he1.ob,show σ1.opd=σ.opd from funext he1.opd] at hf
    obtain ⟨hv',S',F',a',w',hr'⟩ : ∃ hv' S' F' a' w',Rel w0 (σ.set o.dst x) hv' S' F' a' w':=by
     rcases hf with hf | ⟨r,rfl,hf⟩
     ·obtain ⟨v,h1,⟨L,h2,h2'⟩,h3⟩:=hf hr.obs (fun y _=>hr.arg y)
      exact ⟨hv,S,F,_,w,hr.put h2 h2' h3 hdk⟩
     ·obtain ⟨f,args,h1,h2⟩:=hf hr.obs hr.Blt hr.rootsIn (fun y _=>hr.arg y)
      obtain ⟨en,w',v,L',rfl,q1,q2,q3⟩:=Calls.some h2
      exact ⟨_,_,F,_,w',(hr.grow q3).put (x:=.t r) (by simpa only [footA] using q1) q2 rfl hdk⟩
    obtain ⟨xs,σ'',k0,k1,k2⟩:=vcPre_sound rest hr' (he1.set o.dst x) hx
    exact ⟨x :: xs,σ'',k0,k1,⟨hd,.inl ⟨hg,hf⟩⟩,k2⟩
   ·obtain ⟨xs,σ'',k0,k1,k2⟩:=vcPre_sound rest (hr.put (d:=o.dst) (x:=.ud) (v:=undef) (L:=[]) (by simp [footA]) (by simp) rfl hdk) (he1.set o.dst .ud) h
    exact ⟨.ud :: xs,σ'',k0,k1,⟨hd,.inr ⟨hg,rfl⟩⟩,k2⟩
theorem Facts.len {all:Array Oper} : ∀ {os:List Oper} {xs:List AV} {σ:St},Facts P all σ os xs→xs.length=os.length
 | [], [], _, _ => rfl
 | [], _ :: _, _, h => h.elim
 | _ :: _, [], _, h => h.elim
 | _ :: os, _ :: xs, σ, h => by simp [Facts.len h.2]
theorem Facts.get {all:Array Oper} : ∀ {os:List Oper} {xs:List AV} {σ:St},Facts P all σ os xs → ∀ {i:Nat} {o:Oper},os[i]? = some o → ∃ x,xs[i]? = some x∧FactG P all (putAll σ (os.take i) (xs.take i)) o x
 | [], _, _, _, i, o, hi => by simp at hi
 | _ :: _, [], _, h, _, _, _ => h.elim
 | o :: os, x :: xs, σ, h, 0, o', hi => by
   simp only [List.getElem?_cons_zero,Option.some.injEq] at hi
   subst hi
   exact ⟨x,rfl,h.1⟩
 | o :: os, x :: xs, σ, h, i + 1, o', hi => by
   obtain ⟨y,h1,h2⟩:=Facts.get h.2 (i:=i) (by simpa using hi)
   exact ⟨y,by simpa using h1,h2⟩
theorem putAll_n : ∀ (os:List Oper) (xs:List AV) (σ:St),(putAll σ os xs).n=σ.n∧(putAll σ os xs).ob=σ.ob
 | [], _, _ => ⟨rfl,rfl⟩
 | _ :: _, [], _ => ⟨rfl,rfl⟩
 | o :: os, x :: xs, σ => by
   obtain ⟨h1,h2⟩:=putAll_n os xs (σ.set o.dst x)
   simp only [putAll]
   rw [h1,h2]
   cases o.dst<;>exact ⟨rfl,rfl⟩
theorem putAll_miss {t:Nat} : ∀ (os:List Oper) (xs:List AV) (σ:St),(∀ (j:Nat) (o:Oper),os[j]? = some o→o.dst≠some t)→getL (putAll σ os xs).tm t=getL σ.tm t
 | [], _, _, _ => rfl
 | _ :: _, [], _, _ => rfl
 | o :: os, x :: xs, σ, h => by
   simp only [putAll]
   rw [putAll_miss os xs _ (fun j o' hj=>h (j + 1) o' (by simpa using hj)),getL_set,if_neg (h 0 o rfl)]
theorem putAll_hit {t:Nat} : ∀ (os:List Oper) (xs:List AV) (σ:St) {j:Nat} {o:Oper} {x:AV},os[j]? = some o→xs[j]? = some x→o.dst=some t→(∀ (i:Nat) (o':Oper),os[i]? = some o'→i≠j→o'.dst≠some t)→getL (putAll σ os xs).tm t=x
 | [], _, _, _, _, _, h, _, _, _ => by simp at h
 | _ :: _, [], _, _, _, _, _, h, _, _ => by simp at h
 | o :: os, x :: xs, σ, 0, o', x', h1, h2, h3, h4 => by
   simp only [List.getElem?_cons_zero,Option.some.injEq] at h1 h2
   subst h1 h2
   simp only [putAll]
   rw [putAll_miss os xs _ (fun j o' hj=>h4 (j + 1) o' (by simpa using hj) (by omega)),getL_set,if_pos h3]
 | o :: os, x :: xs, σ, j + 1, o', x', h1, h2, h3, h4 => by
   simp only [putAll]
   exact putAll_hit os xs _ (by simpa using h1) (by simpa using h2) h3 (fun i o' hi hne=>h4 (i + 1) o' (by simpa using hi) (by omega))
theorem opd_congr {σ σ':St} {ops:Array Oper} {o:Oper} (h:∀ t∈o.looksAt ops,getL σ'.tm t=getL σ.tm t) : ∀ y∈o.op.operands,σ'.opd y=σ.opd y:=by
 intro y hy
 cases y with
 | tmp t => exact h t (List.mem_append_left _ (List.mem_filterMap.2 ⟨.tmp t,by simpa using hy,rfl⟩))
 | _ => rfl
theorem guard_congr {σ σ':St} {ops:Array Oper} {o:Oper} (h:∀ t∈o.looksAt ops,getL σ'.tm t=getL σ.tm t) : guardOf ops σ' o=guardOf ops σ o:=by
 unfold guardOf
 cases hg : o.guard with
 | none => rfl
 | some p =>
   obtain ⟨j,b⟩:=p
   simp only
   cases hd : (ops[j]?).bind (·.dst) with
   | none => rfl
   | some d =>
     have : getL σ'.tm d=getL σ.tm d:=h d (List.mem_append_right _ (by simp [hg,hd]))
     simp only [this]
theorem Fact.congr {ob:List Ob} {e e':Operand→AV} {o:Oper} {x:AV} (h:∀ y∈o.op.operands,e' y=e y) (hf:Fact P ob e o x) : Fact P ob e' o x:=by
 rcases hf with hf | ⟨r,rfl,hf⟩
 ·exact .inl fun {hv S F w ρ} hob harg=>hf hob fun y hy=>by rw [← h y hy]; exact harg y hy
 ·exact .inr ⟨r,rfl,fun {hv S F w ρ} hob hS hR harg=>hf hob hS hR fun y hy=>by rw [← h y hy]; exact harg y hy⟩
structure Static0 (ops:Array Oper) (k:Nat) : Prop where
 le : k≤ops.size
 back : ∀ i o,ops[i]? = some o → ∀ e∈o.after,Region.binds .any e=true→e.on < i
 chain : ∀ i o,ops[i]? = some o→k≤i → ∀ j,j < i → ∃ m,j < m∧m≤i∧waits ops m j=true
structure Static (ops:Array Oper) (k:Nat) : Prop extends Static0 ops k where
 apart : ∀ i j o p t,i < k→j < k→ops[i]? = some o→ops[j]? = some p→p.dst=some t→(i=j ∨ o.dst≠some t)∧(t∈o.looksAt ops→j < i∧waits ops i j=true)
theorem okDraw_spec {ops:Array Oper} {k:Nat} (h:okDraw ops k=true) : Static ops k:=by
 simp only [okDraw,Bool.and_eq_true,decide_eq_true_eq,List.all_eq_true,List.mem_range] at h
 obtain ⟨⟨h1,h2⟩,h3⟩:=h
 refine ⟨⟨h1,fun i o ho e he hb=>?_,fun i o ho hk j hj=>?_⟩,fun i j o p t hi hj ho hp ht=>?_⟩
 ·have:=h2 i (Array.getElem?_eq_some_iff.1 ho).1
  simp only [ho,Bool.and_eq_true,Array.all_eq_true_iff_forall_mem,Bool.or_eq_true,Bool.not_eq_true',decide_eq_true_eq] at this
  rcases this.1 e he with h | h
  ·rw [hb] at h; cases h
  ·exact h
 ·have:=h2 i (Array.getElem?_eq_some_iff.1 ho).1
  simp only [ho,Bool.and_eq_true,Bool.or_eq_true,decide_eq_true_eq,List.all_eq_true,List.any_eq_true,List.mem_range] at this
  rcases this.2 with h | h
  ·omega
  ·obtain ⟨m,_,⟨q1,q2⟩,q3⟩:=h j hj
   exact ⟨m,q1,q2,q3⟩
 ·have:=h3 i hi
  simp only [ho,List.all_eq_true,List.mem_range] at this
  have:=this j hj
  simp only [hp,ht,Bool.and_eq_true,Bool.or_eq_true,beq_iff_eq,bne_iff_ne,ne_eq,Bool.not_eq_true',decide_eq_true_eq] at this
  refine ⟨this.1,fun hm=>?_⟩
  rcases this.2 with h | h
  ·simp [hm] at h
  ·exact h
theorem waits_spec {ops:Array Oper} {i j:Nat} : waits ops i j=true ↔ ∃ o,ops[i]? = some o∧∃ e∈o.after,Region.binds .any e=true∧e.on=j:=by
 unfold waits
 cases ops[i]? with
 | none => simp
 | some o =>
   simp only [Array.any_eq_true,Bool.and_eq_true,beq_iff_eq,Option.some.injEq,exists_eq_left']
   constructor
   ·rintro ⟨n,hn,h1,h2⟩; exact ⟨_,Array.getElem_mem hn,h1,h2⟩
   ·rintro ⟨e,he,h1,h2⟩
    obtain ⟨n,hn,rfl⟩:=Array.mem_iff_getElem.1 he
    exact ⟨n,hn,h1,h2⟩
theorem getD_false_true {listed:Array Bool} {i:Nat} (h:listed.getD i true=false) : listed.getD i false=false∧i < listed.size:=by
 rcases Nat.lt_or_ge i listed.size with hi | hi
 ·simp [hi] at h ⊢; exact h
 ·simp [Array.getElem?_eq_none hi] at h
theorem getD_true_false {listed:Array Bool} {i:Nat} (h:listed.getD i false=false) (hi:i < listed.size) : listed.getD i true=false:=by
 simp [hi] at h ⊢; exact h
def Down (ops:Array Oper) (listed:Array Bool) : Prop:=∀ i j,listed.getD i false=true→waits ops i j=true→listed.getD j false=true
theorem ready_chain {ops:Array Oper} {k:Nat} (hs:Static0 ops k) {listed:Array Bool} (hd:Down ops listed) {i:Nat} (hi:i∈Region.ready .any ops listed) (hk:k≤i) : ∀ d j,i - j=d→j < i→listed.getD j false=true:=by
 obtain ⟨h0,o,ho,hall⟩:=mem_ready.1 hi
 intro d
 induction d using Nat.strongRecOn with
 | _ d ih =>
   intro j hd' hj
   obtain ⟨m,m1,m2,m3⟩:=hs.chain i o ho hk j hj
   rcases Nat.lt_or_ge m i with hm | hm
   ·exact hd m j (ih (i - m) (by omega) m rfl hm) m3
   ·have : m=i:=by omega
    subst this
    obtain ⟨o',ho',e,he,hb,rfl⟩:=waits_spec.1 m3
    rw [ho] at ho'
    cases ho'
    exact hall e he hb
theorem all_of_ready_nil {ops:Array Oper} {k:Nat} (hs:Static0 ops k) {listed:Array Bool} (hsz:listed.size=ops.size) (h:Region.ready .any ops listed=[]) : ∀ i,i < ops.size→listed.getD i false=true:=by
 intro i
 induction i using Nat.strongRecOn with
 | _ i ih =>
   intro hi
   cases hl : listed.getD i false with
   | true => rfl
   | false =>
     exfalso
     have : i∈Region.ready .any ops listed:=by
      rw [mem_ready]
      refine ⟨getD_true_false hl (by omega),ops[i],Array.getElem?_eq_getElem hi,fun e he hb=>?_⟩
      have:=hs.back i _ (Array.getElem?_eq_getElem hi) e he hb
      exact ih e.on this (by omega)
     rw [h] at this
     cases this
theorem getD_set {listed:Array Bool} {i j:Nat} (hi:i < listed.size) : (listed.setIfInBounds i true).getD j false=(decide (i=j) || listed.getD j false):=by
 by_cases h : i=j
 ·subst h; simp [hi]
 ·rw [getD_set_ne false h]; simp [h]
theorem op_step {ops:Array Oper} {rest:List Oper} {o:Oper} {i:Nat} {K:St→Prop} (ho:ops[i]? = some o) (hr:Rel w0 σ hv S F a w) (h:vcOps P ops (o :: rest) σ K) {next:Act→World→Prop}
 (hn:∀ σ' (hv':Hv) S' F' a' w',vcOps P ops rest σ' K→Rel w0 σ' hv' S' F' a' w'→next a' w') : wpOp P ops Q i next a w:=by
 obtain ⟨hd,h⟩:=h
 have hdk : ∀ σ',Eqv σ σ' → ∀ k,o.dst=some k→k < σ'.n:=fun σ' he k hk=>by rw [hk] at hd; rw [he.n]; exact hd
 unfold wpOp
 rw [ho]
 simp only
 rcases vcGuard_sound (Eqv.refl σ) h with ⟨hg,σ',he,h⟩ | ⟨hg,σ',he,h⟩
 ·have hr1:=hr.tm_ext he
  rw [if_pos (wanted_of hr hg)]
  refine .inl ?_
  have:=vcOp_sound (Q:=Q) (next:=fun v w'=>next (a.put o.dst v) w') hr1 h (fun v w' x ob' hv' S' F' L hK hr' f1 f2 hu=>hn _ _ _ _ _ _ hK (hr'.put (d:=o.dst) f1 f2 hu (hdk σ' he)))
  unfold Does at this
  exact Oper.wp_mono (fun a' w' ⟨v,ha,hv⟩=>ha ▸ hv) this
 ·have hr1:=hr.tm_ext he
  rw [if_neg (by rw [wanted_of hr hg]; simp)]
  exact hn _ _ _ _ _ _ h (hr1.put (d:=o.dst) (x:=.ud) (v:=undef) (L:=[]) (by simp [footA]) (by simp) rfl (hdk σ' he))
theorem late_sound {ops:Array Oper} {k:Nat} (hs:Static0 ops k) {K:St→Prop} (hQ:∀ σ' (hv':Hv) S' F' a' w',K σ'→Rel w0 σ' hv' S' F' a' w'→Q .normal a' w') :
 ∀ (fuel:Nat) {listed:Array Bool} {m:Nat} {σ:St} {hv:Hv} {S:Nat→Prop} {F:Nat→List Nat} {a:Act} {w:World},listed.size=ops.size→m≤ops.size→k≤m→(∀ j,listed.getD j false=decide (j < m))→ops.size - m≤fuel →
   Rel w0 σ hv S F a w→vcOps P ops (ops.toList.drop m) σ K→wpAny P .any ops Q fuel listed a w:=by
 intro fuel
 have fin : ∀ {listed:Array Bool} {m:Nat} {σ:St} {hv:Hv} {S:Nat→Prop} {F:Nat→List Nat} {a:Act} {w:World},listed.size=ops.size→m≤ops.size→(∀ j,listed.getD j false=decide (j < m))→Region.ready .any ops listed=[] →
  Rel w0 σ hv S F a w→vcOps P ops (ops.toList.drop m) σ K→Q .normal a w:=by
  intro listed m σ hv S F a w hsz hm hl hre hr h
  have : m=ops.size:=by
   rcases Nat.lt_or_ge m ops.size with hlt | hge
   ·have:=all_of_ready_nil hs hsz hre m hlt
    rw [hl] at this
    simp at this
   ·omega
  subst this
  rw [List.drop_of_length_le (by simp)] at h
  exact hQ _ _ _ _ _ _ h hr
 induction fuel with
 | zero =>
   intro listed m σ hv S F a w hsz hm hk hl hf hr h
   have hre : Region.ready .any ops listed=[]:=by
    cases hre : Region.ready .any ops listed with
    | nil => rfl
    | cons i is =>
      have : i∈Region.ready .any ops listed:=by rw [hre]; exact List.mem_cons_self ..
      obtain ⟨h0,_⟩:=mem_ready.1 this
      obtain ⟨h1,h2⟩:=getD_false_true h0
      rw [hl] at h1
      simp at h1
      omega
   exact ⟨hre,fin hsz hm hl hre hr h⟩
 | succ fuel ih =>
   intro listed m σ hv S F a w hsz hm hk hl hf hr h
   refine ⟨fun hre=>fin hsz hm hl hre hr h,fun i hi=>?_⟩
   obtain ⟨h0,o,ho,hall⟩:=mem_ready.1 hi
   obtain ⟨h1,h2⟩:=getD_false_true h0
   have hmi : m≤i:=by rw [hl] at h1; simpa using h1
   have hdown : Down ops listed:=by
    intro x y hx hw
    rw [hl] at hx ⊢
    obtain ⟨o',ho',e,he,hb,rfl⟩:=waits_spec.1 hw
    have:=hs.back x o' ho' e he hb
    simp at hx ⊢
    omega
   have him : i=m:=by
    rcases Nat.lt_or_ge m i with hlt | hge
    ·have:=ready_chain hs hdown hi (by omega) (i - m) m rfl hlt
     rw [hl] at this
     simp at this
    ·omega
   subst him
   have hlt : i < ops.size:=by omega
   have hdrop : ops.toList.drop i=o :: ops.toList.drop (i + 1):=by
    rw [List.drop_eq_getElem_cons (by simpa using hlt)]
    congr 1
    have:=Array.getElem?_eq_getElem hlt
    rw [ho] at this
    simpa using (Option.some.inj this).symm
   rw [hdrop] at h
   refine op_step ho hr h fun σ' hv' S' F' a' w' hK hr'=>?_
   refine ih (listed:=listed.setIfInBounds i true) (m:=i + 1) (by simpa using hsz) hlt (by omega) (fun j=>?_) (by omega) hr' hK
   rw [getD_set (by omega),hl]
   by_cases e1 : i=j
   ·subst e1; simp
   ·simp only [e1,decide_false,Bool.false_or,decide_eq_decide]; omega
structure Part (ops:Array Oper) (k:Nat) (xs:List AV) (σ0:St) (listed:Array Bool) (σ:St) : Prop where
 n : σ.n=σ0.n
 ob : σ.ob=σ0.ob
 hit : ∀ j o t x,j < k→ops[j]? = some o→o.dst=some t→xs[j]? = some x→listed.getD j false=true→getL σ.tm t=x
 miss : ∀ t,(∀ j o,j < k→ops[j]? = some o→listed.getD j false=true→o.dst≠some t)→getL σ.tm t=getL σ0.tm t
theorem take_get {ops:Array Oper} {k i:Nat} (h:i < k) : (ops.toList.take k)[i]? = ops[i]?:=by
 rw [List.getElem?_take_of_lt h,Array.getElem?_toList]
theorem early_sound {ops:Array Oper} {k:Nat} (hs:Static ops k) {K:St→Prop} (hQ:∀ σ' (hv':Hv) S' F' a' w',K σ'→Rel w0 σ' hv' S' F' a' w'→Q .normal a' w') {xs:List AV} {σ0:St}
 (hf:Facts P ops σ0 (ops.toList.take k) xs) {σe:St} (hE:Eqv (putAll σ0 (ops.toList.take k) xs) σe) (hK:vcOps P ops (ops.toList.drop k) σe K) :
 ∀ (fuel:Nat) {listed:Array Bool} {σ:St} {hv:Hv} {S:Nat→Prop} {F:Nat→List Nat} {a:Act} {w:World},listed.size=ops.size→Down ops listed→(∀ j,k≤j→listed.getD j false=false)→listed.toList.count false≤fuel →
   Part ops k xs σ0 listed σ→Rel w0 σ hv S F a w→wpAny P .any ops Q fuel listed a w:=by
 intro fuel
 have hxl : xs.length=k:=by rw [hf.len,List.length_take,Array.length_toList,Nat.min_eq_left hs.le]
 -- all of the first ones are done
 have full : ∀ {listed:Array Bool} {σ:St} {hv:Hv} {S:Nat→Prop} {F:Nat→List Nat} {a:Act} {w:World},(∀ j,j < k→listed.getD j false=true)→Part ops k xs σ0 listed σ→Rel w0 σ hv S F a w →
  Rel w0 σe hv S F a w:=by
  intro listed σ hv S F a w hall hp hr
  obtain ⟨q1,q2⟩:=putAll_n (ops.toList.take k) xs σ0
  refine Rel.tm_ext (hr.tm_ext (σ':=putAll σ0 (ops.toList.take k) xs) ⟨by rw [q1,hp.n],by rw [q2,hp.ob],fun t=>?_⟩) hE
  by_cases ht : ∃ j o,j < k∧ops[j]? = some o∧o.dst=some t
  ·obtain ⟨j,o,hj,ho,hd⟩:=ht
   obtain ⟨x,hx⟩ : ∃ x,xs[j]? = some x:=⟨xs[j]'(by omega),List.getElem?_eq_getElem (by omega)⟩
   rw [hp.hit j o t x hj ho hd hx (hall j hj)]
   refine putAll_hit _ _ _ (by rw [take_get hj]; exact ho) hx hd fun i o' hi hne=>?_
   have hik : i < k:=by
    have:=(List.getElem?_eq_some_iff.1 hi).1
    simp only [List.length_take] at this; omega
   rw [take_get hik] at hi
   exact (hs.apart i j o' o t hik hj hi ho hd).1.resolve_left hne
  ·have hno : ∀ j o,j < k→ops[j]? = some o→o.dst≠some t:=fun j o hj ho hd=>ht ⟨j,o,hj,ho,hd⟩
   rw [hp.miss t (fun j o hj ho _=>hno j o hj ho)]
   refine putAll_miss _ _ _ fun j o hj=>?_
   have hjk : j < k:=by
    have:=(List.getElem?_eq_some_iff.1 hj).1
    simp only [List.length_take] at this; omega
   rw [take_get hjk] at hj
   exact hno j o hjk hj
 have fin : ∀ {listed:Array Bool} {σ:St} {hv:Hv} {S:Nat→Prop} {F:Nat→List Nat} {a:Act} {w:World},listed.size=ops.size→(∀ j,k≤j→listed.getD j false=false)→Region.ready .any ops listed=[] →
  Part ops k xs σ0 listed σ→Rel w0 σ hv S F a w→Q .normal a w:=by
  intro listed σ hv S F a w hsz hno hre hp hr
  have hall:=all_of_ready_nil hs.toStatic0 hsz hre
  have hk : k=ops.size:=by
   rcases Nat.lt_or_ge k ops.size with h | h
   ·have h1:=hall k h
    rw [hno k (Nat.le_refl _)] at h1
    cases h1
   ·have:=hs.le; omega
  have hr':=full (fun j hj=>hall j (by omega)) hp hr
  rw [List.drop_of_length_le (by simp [hk])] at hK
  exact hQ _ _ _ _ _ _ hK hr'
 induction fuel with
 | zero =>
   intro listed σ hv S F a w hsz hd hno hc hp hr
   have hre : Region.ready .any ops listed=[]:=by
    cases hre : Region.ready .any ops listed with
    | nil => rfl
    | cons i is =>
      have : i∈Region.ready .any ops listed:=by rw [hre]; exact List.mem_cons_self ..
      obtain ⟨h0,_⟩:=mem_ready.1 this
      obtain ⟨h1,h2⟩:=getD_false_true h0
      have : false∈listed.toList:=by
       have : listed[i]=false:=by simpa [h2] using h1
       rw [← this]; simp
      have:=List.count_pos_iff.2 this
      omega
   exact ⟨hre,fin hsz hno hre hp hr⟩
 | succ fuel ih =>
   intro listed σ hv S F a w hsz hd hno hc hp hr
   refine ⟨fun hre=>fin hsz hno hre hp hr,fun i hi=>?_⟩
   obtain ⟨h0,o,ho,hall⟩:=mem_ready.1 hi
   obtain ⟨h1,h2⟩:=getD_false_true h0
   have hcount : (listed.setIfInBounds i true).toList.count false≤fuel:=by
    rw [Array.toList_setIfInBounds,List.count_set (by simpa using h2)]
    have : listed[i]=false:=by simpa [h2] using h1
    have hpos : 0 < listed.toList.count false:=List.count_pos_iff.2 (by rw [← this]; simp)
    simp [this]
    rw [← Array.count_toList]
    omega
   rcases Nat.lt_or_ge i k with hik | hik
   ·-- one of the first
    obtain ⟨x,hx,hd1,hg⟩:=hf.get (i:=i) (o:=o) (by rw [take_get hik]; exact ho)
    have hwait : ∀ j,waits ops i j=true→listed.getD j false=true:=by
     intro j hw
     obtain ⟨o',ho',e,he,hb,rfl⟩:=waits_spec.1 hw
     rw [ho] at ho'
     cases ho'
     exact hall e he hb
    have hlook : ∀ t∈o.looksAt ops,getL σ.tm t=getL (putAll σ0 ((ops.toList.take k).take i) (xs.take i)).tm t:=by
     intro t ht
     have hget : ∀ j,j < i→((ops.toList.take k).take i)[j]? = ops[j]?:=fun j hj=>by rw [List.getElem?_take_of_lt hj,take_get (by omega)]
     by_cases hex : ∃ j p,j < k∧ops[j]? = some p∧p.dst=some t
     ·obtain ⟨j,p,hj,hp',hpd⟩:=hex
      obtain ⟨hji,hw⟩:=(hs.apart i j o p t hik hj ho hp' hpd).2 ht
      obtain ⟨y,hy⟩ : ∃ y,xs[j]? = some y:=⟨xs[j]'(by omega),List.getElem?_eq_getElem (by omega)⟩
      rw [hp.hit j p t y hj hp' hpd hy (hwait j hw)]
      refine (putAll_hit _ _ _ (by rw [hget j hji]; exact hp') (by rw [List.getElem?_take_of_lt hji]; exact hy) hpd fun m q hm hne=>?_).symm
      have hmi : m < i:=by
       have:=(List.getElem?_eq_some_iff.1 hm).1
       simp only [List.length_take] at this; omega
      rw [hget m hmi] at hm
      exact (hs.apart m j q p t (by omega) hj hm hp' hpd).1.resolve_left hne
     ·have hnone : ∀ j p,j < k→ops[j]? = some p→p.dst≠some t:=fun j p hj hp' hpd=>hex ⟨j,p,hj,hp',hpd⟩
      rw [hp.miss t fun j p hj hp' _=>hnone j p hj hp']
      refine (putAll_miss _ _ _ fun m q hm=>?_).symm
      have hmi : m < i:=by
       have:=(List.getElem?_eq_some_iff.1 hm).1
       simp only [List.length_take] at this; omega
      rw [hget m hmi] at hm
      exact hnone m q (by omega) hm
    obtain ⟨n1,n2⟩:=putAll_n ((ops.toList.take k).take i) (xs.take i) σ0
    have hdk : ∀ t,o.dst=some t→t < σ.n:=fun t ht=>by
     rw [ht,n1] at hd1
     rw [hp.n]; exact hd1
    have hpart : Part ops k xs σ0 (listed.setIfInBounds i true) (σ.set o.dst x):=by
     refine ⟨by rw [← hp.n]; cases o.dst<;>rfl,by rw [← hp.ob]; cases o.dst<;>rfl,fun j p t y hj hp' hpd hy hl=>?_,fun t ht=>?_⟩
     ·rw [getL_set]
      by_cases hji : j=i
      ·subst hji
       rw [ho] at hp'
       cases hp'
       rw [hx] at hy
       cases hy
       rw [if_pos hpd]
      ·rw [getD_set h2] at hl
       have hl' : listed.getD j false=true:=by simpa [Ne.symm hji] using hl
       have hne : o.dst≠some t:=(hs.apart i j o p t hik hj ho hp' hpd).1.resolve_left (Ne.symm hji)
       rw [if_neg hne]
       exact hp.hit j p t y hj hp' hpd hy hl'
     ·rw [getL_set,if_neg (ht i o hik ho (by rw [getD_set h2]; simp))]
      exact hp.miss t fun j p hj hp' hl=>ht j p hj hp' (by rw [getD_set h2]; simp only [hl,Bool.or_true])
    have hdown' : Down ops (listed.setIfInBounds i true):=by
     intro u v hu hw
     rw [getD_set h2] at hu ⊢
     by_cases hiu : i=u
     ·subst hiu; simp only [hwait v hw,Bool.or_true]
     ·have : listed.getD u false=true:=by simpa [hiu] using hu
      simp only [hd u v this hw,Bool.or_true]
    have hno' : ∀ j,k≤j→(listed.setIfInBounds i true).getD j false=false:=fun j hj=>by
     rw [getD_set h2,hno j hj]
     simp only [Bool.or_false,decide_eq_false_iff_not]; omega
    have hguard:=guard_congr (ops:=ops) (o:=o) hlook
    have hopd:=opd_congr (ops:=ops) (o:=o) hlook
    unfold wpOp
    rw [ho]
    simp only
    rcases hg with ⟨hg,hfact⟩ | ⟨hg,rfl⟩
    ·rw [if_pos (wanted_of hr (hguard.trans hg))]
     refine .inl ?_
     rw [n2,← hp.ob] at hfact
     have:=(hfact.congr hopd).does (Q:=Q) (next:=fun v w'=>wpAny P .any ops Q fuel (listed.setIfInBounds i true) (a.put o.dst v) w') hr (fun y _=>hr.arg y) (fun v w' hv' S' hr' ⟨L,f1,f2⟩ hu =>
      ih (by simpa using hsz) hdown' hno' hcount hpart (hr'.put (d:=o.dst) f1 f2 hu hdk))
     unfold Does at this
     exact Oper.wp_mono (fun a' w' ⟨v,ha,hv⟩=>ha ▸ hv) this
    ·rw [if_neg (by rw [wanted_of hr (hguard.trans hg)]; simp)]
     exact ih (by simpa using hsz) hdown' hno' hcount hpart (hr.put (d:=o.dst) (x:=.ud) (v:=undef) (L:=[]) (by simp [footA]) (by simp) rfl hdk)
   ·-- the first of the others
    have hbefore:=ready_chain hs.toStatic0 hd hi hik
    have hik' : i=k:=by
     rcases Nat.lt_or_ge k i with h | h
     ·have:=hbefore (i - k) k rfl h
      rw [hno k (Nat.le_refl _)] at this
      cases this
     ·omega
    subst hik'
    have hr':=full (fun j hj=>hbefore (i - j) j rfl hj) hp hr
    have hlt : i < ops.size:=by omega
    have hdrop : ops.toList.drop i=o :: ops.toList.drop (i + 1):=by
     rw [List.drop_eq_getElem_cons (by simpa using hlt)]
     congr 1
     have:=Array.getElem?_eq_getElem hlt
     rw [ho] at this
     simpa using (Option.some.inj this).symm
    rw [hdrop] at hK
    refine op_step ho hr' hK fun σ' hv' S' F' a' w' hK' hr''=>?_
    have hl : ∀ j,(listed.setIfInBounds i true).getD j false=decide (j < i + 1):=fun j=>by
     rw [getD_set h2]
     rcases Nat.lt_trichotomy j i with h | h | h
     ·rw [hbefore (i - j) j rfl h]; simp; omega
     ·subst h; simp
     ·rw [hno j (by omega)]
      simp only [Bool.or_false,decide_eq_decide]; omega
    refine late_sound hs.toStatic0 hQ fuel (by simpa using hsz) hlt (by omega) hl ?_ hr'' hK'
    have hcnt : ∀ (l:List Bool) (m:Nat),(∀ j,m≤j → ∀ b,l[j]? = some b→b=false)→l.length - m≤l.count false:=by
     intro l
     induction l with
     | nil => intro m _; simp
     | cons b l ihl =>
       intro m hm
       cases m with
       | zero =>
         have hb:=hm 0 (Nat.le_refl _) b rfl
         subst hb
         have:=ihl 0 (fun j _ b hb=>hm (j + 1) (by omega) b (by simpa using hb))
         simp only [List.length_cons,List.count_cons_self]; omega
       | succ m =>
         have:=ihl m (fun j hj b hb=>hm (j + 1) (by omega) b (by simpa using hb))
         simp only [List.length_cons,List.count_cons]; omega
    have hc2:=hcnt (listed.setIfInBounds i true).toList (i + 1) (fun j hj b hb=>by
     have:=hl j
     rw [Array.getElem?_toList] at hb
     simp only [Array.getD_eq_getD_getElem?,hb,Option.getD_some] at this
     rw [this]; simp; omega)
    simp only [Array.length_toList,Array.size_setIfInBounds] at hc2
    omega
theorem vcDraw_sound {id:Nat} {ops:Array Oper} {k:Nat} {K:St→Prop} (hm:P.follows .mixedOrders=true) (hr:Rel w0 σ hv S F a w) (h:vcDraw P ops k σ K)
 (hQ:∀ σ' (hv':Hv) S' F' a' w',K σ'→Rel w0 σ' hv' S' F' a' w'→Q .normal a' w') : (Code.region id ops true).wp P Q a w:=by
 obtain ⟨h1,h2⟩:=h
 have hs:=okDraw_spec h1
 have hr':=hr.grow (Grew.drew w)
 obtain ⟨xs,σe,k0,k1,k2⟩:=vcPre_sound _ hr (Eqv.refl σ) h2
 refine wp_region_any hm ?_
 have hrep : ∀ j,(Array.replicate ops.size false).getD j false=false:=fun j=>by
  rcases Nat.lt_or_ge j ops.size with h | h<;>simp [h]
 refine early_sound hs hQ k2 k0 k1 ops.size (by simp) (fun i j hi _=>absurd hi (by rw [hrep]; simp)) (fun j _=>hrep j) (by simp) ⟨rfl,rfl,fun j o t x _ _ _ _ hl=>absurd hl (by rw [hrep]; simp),fun _ _=>rfl⟩ hr'
end
end Go.Proofs.YtmgdkkhnjkepiaaGreat.BX