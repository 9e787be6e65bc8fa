/-
  Part 9 of what LFnInsert leans on: its texts, merged by a program (prune.py), with what it needs alone.
-/
import Derived.Test.YtmgdkkhnjkepiaaGreatQ8
namespace Go.Proofs.YtmgdkkhnjkepiaaGreat.BX
open Nat renaming reduceEqDiff → zA, reduceLT → zB, reduceLeDiff → zC, reduceAdd → zD, reduceMul → zE, reduceSub → zF, reduceBEq → zG
set_option linter.unusedSectionVars false
set_option linter.unusedSimpArgs false
set_option linter.unusedVariables false
open Go Go.RowKit
set_option maxRecDepth 20000
set_option maxHeartbeats 400000
def evC0 : Event:=⟨[36,99,48],[64,97],sCreate,true,[],1,[],[],[],[]⟩
def evA1 : Event:=⟨[36,97,49],[64,97],sMember,true,[64,97],2,[[36,99,48]],[[36,99,48]],sJoin,[]⟩
def evP2 : Event:=⟨[36,112,50],[64,97],sPower,true,[],3,[[36,97,49]],[[36,99,48],[36,97,49]],[],[⟨[64,97],100⟩,⟨[64,98],50⟩]⟩
def evJ3 : Event:=⟨[36,106,51],[64,97],sRules,true,[],4,[[36,112,50]],[[36,99,48],[36,97,49],[36,112,50]],sPublic,[]⟩
def evB4 : Event:=⟨[36,98,52],[64,98],sMember,true,[64,98],5,[[36,106,51]],[[36,99,48],[36,112,50],[36,106,51]],sJoin,[]⟩
def first5 : List Event:=[evC0,evA1,evP2,evJ3,evB4]
theorem code_c0 : codeE [] evC0=0:=by
 unfold codeE cd2 cd3 cd4 cd5 evOk ev2 ev3 ev4 ev5 contentB
 simp [evC0,sCreate,isW,wordB,refsB,allIn,posOf]
theorem valid_nil : Valid []:=fun i e h=>by simp at h
theorem Valid.snoc {es:List Event} {e:Event} (h:Valid es) (he:codeE es e=0) : Valid (es ++ [e]):=fun i x hx=>by
 by_cases hi : i < es.length
 ·rw [List.getElem?_append_left hi] at hx
  rw [List.take_append_of_le_length (by omega)]
  exact h i x hx
 ·rw [List.getElem?_append_right (by omega)] at hx
  obtain ⟨hl,hx⟩:=List.getElem?_eq_some_iff.1 hx
  have hl : i - es.length < 1:=by simpa using hl
  have hi : i=es.length:=by omega
  subst hi
  rw [List.take_append_of_le_length (by omega),List.take_length]
  simp only [Nat.sub_self,List.getElem_cons_zero] at hx
  rw [← hx]; exact he
theorem posOf_more {es:List Event} {e:Event} {k:List UInt8} {i:Nat} (h:posOf k es=some i) : posOf k (es ++ [e])=some i:=by rw [posOf_snoc,h]; rfl
theorem Fit.more {es:List Event} {e:Event} {s:List Entry} (h:Fit es s) : Fit (es ++ [e]) s:=by
 refine ⟨h.ord,h.ids,fun x hx=>?_⟩
 obtain ⟨j,a,hj,ha,h1,h2,h3⟩:=fitE_at (h.fit x hx)
 have hl:=(List.getElem?_eq_some_iff.1 ha).1
 unfold fitE
 rw [posOf_more hj]
 simp only [List.getElem?_append_left hl,ha,h1,h2,h3,Bool.true_and,decide_true]
structure RS where
 es : List Event
 aft : List (List Entry)
 p : Nat
noncomputable def nextE (b:List UInt8) (start i:Nat) (r:RS) : Event:=if i < start then (first5[i]?).getD evC0 else growE r.es r.aft b r.p
def nextP (b:List UInt8) (start i:Nat) (r:RS) : Nat:=if i < start then r.p else (bodyG r.es r.aft b r.p).2
noncomputable def stepR (b:List UInt8) (start i:Nat) (r:RS) : RS :=
 if codeE r.es (nextE b start i r)=0 then ⟨r.es ++ [nextE b start i r],r.aft ++ [aftL (r.es ++ [nextE b start i r]) r.aft (nextE b start i r)],nextP b start i r⟩
 else ⟨r.es,r.aft,nextP b start i r⟩
noncomputable def runR (b:List UInt8) (start:Nat) : Nat→Nat→RS→RS
 | 0, _, r => r
 | f + 1, i, r => if i < start ∨ r.p < b.length then runR b start f (i + 1) (stepR b start i r) else r
def startR (k:Nat) : Nat:=if 5 < 1 + k % 6 ∨ 64≤k then 5 else 1 + k % 6
def mostR (k l:Nat) : Nat:=if 15 < startR k + 2 + k / 6 % 3 + l / 7 then 15 else startR k + 2 + k / 6 % 3 + l / 7
noncomputable def roomR (b:List UInt8) (p:Nat) : RS:=runR b (startR (nx b p)) (mostR (nx b p) (b.length - np b p)) 0 ⟨[],[],np b p⟩
theorem startR_le {k:Nat} : 1≤startR k∧startR k≤5:=by unfold startR; split<;>omega
theorem mostR_le {k l:Nat} : startR k≤mostR k l∧mostR k l≤15:=by
 have:=startR_le (k:=k)
 unfold mostR; split<;>omega
structure RSok (b:List UInt8) (i:Nat) (r:RS) : Prop where
 val : Valid r.es
 len : r.aft.length=r.es.length
 fit : ∀ s∈r.aft,Fit r.es s
 p : r.p≤b.length
 le : r.es.length≤i
 pos : 0 < i→0 < r.es.length
theorem Valid.fine [Bd] {es:List Event} (h:Valid es) : ∀ x∈es,Fine x:=fun x hx=>by
 obtain ⟨i,hi⟩:=List.mem_iff_getElem?.1 hx
 have hg:=(h.good hi).ok
 have h1:=evOk_refs hg
 have:=evOk_grants hg
 have:=Bd.lo
 refine ⟨?_,?_,?_⟩<;>omega
theorem RSok.has {b:List UInt8} {i:Nat} {r:RS} (h:RSok b i r) {e:Event} (he:codeE r.es e=0) : Has (r.es ++ [e]) r.aft e.prev:=by
 have hg:=good_of he
 refine ⟨(evOk_refs hg.ok).1,fun x hx=>?_⟩
 obtain ⟨k,hk⟩:=Option.isSome_iff_exists.1 (hg.prev x hx)
 have hkl:=posOf_lt hk
 have hl:=h.len
 obtain ⟨s,hs⟩ : ∃ s,r.aft[k]? = some s:=⟨_,List.getElem?_eq_getElem (by omega)⟩
 exact ⟨k,s,posOf_more hk,hs,(h.fit s (List.mem_of_getElem? hs)).more⟩
theorem RSok.next {b:List UInt8} {i start:Nat} {r:RS} (h:RSok b i r) (hp:nextP b start i r≤b.length) (h0:0 < start) : RSok b (i + 1) (stepR b start i r):=by
 have hfirst : i=0→codeE r.es (nextE b start i r)=0:=fun hi=>by
  have : r.es=[]:=List.eq_nil_of_length_eq_zero (by have:=h.le; omega)
  subst hi
  rw [this,show nextE b start 0 r=evC0 from if_pos h0]
  exact code_c0
 unfold stepR
 split
 ·rename_i he
  have hv:=h.val.snoc he
  have hat : (r.es ++ [nextE b start i r])[r.es.length]? = some (nextE b start i r):=by rw [List.getElem?_append_right (Nat.le_refl _)]; simp
  have hle:=h.le
  refine ⟨hv,by simp [h.len],fun s hs=>?_,hp,by simp; omega,fun _=>by simp⟩
  rcases List.mem_append.1 hs with hs | hs
  ·exact (h.fit s hs).more
  ·rw [List.mem_singleton.1 hs]
   exact putE_fit hv (resL_fit hv (h.has he).fits) hat
 ·rename_i he
  have hle:=h.le
  refine ⟨h.val,h.len,h.fit,hp,by simp only; omega,fun _=>?_⟩
  rcases Nat.eq_zero_or_pos i with hi | hi
  ·exact absurd (hfirst hi) he
  ·exact h.pos hi
theorem rs0_ok {b:List UInt8} {p:Nat} (h:p≤b.length) : RSok b 0 ⟨[],[],p⟩:=⟨valid_nil,rfl,by simp,h,Nat.le_refl _,fun h=>absurd h (by omega)⟩
theorem runR_ok {b:List UInt8} {start:Nat} (h0:0 < start) : ∀ {f i:Nat} {r:RS},RSok b i r → ∃ j,RSok b j (runR b start f i r)∧i≤j∧j≤i + f∧(0 < f→i < start→i < j)
 | 0, i, r, h => ⟨i,h,Nat.le_refl _,Nat.le_refl _,fun h=>absurd h (by omega)⟩
 | f + 1, i, r, h => by
   have hp : nextP b start i r≤b.length:=by
    unfold nextP
    split
    ·exact h.p
    ·exact contE_p (np_le h.p)
   by_cases hc : i < start ∨ r.p < b.length
   ·obtain ⟨j,h1,h2,h3,_⟩:=runR_ok h0 (f:=f) (h.next hp h0)
    refine ⟨j,?_,by omega,by omega,fun _ _=>by omega⟩
    rw [show runR b start (f + 1) i r=runR b start f (i + 1) (stepR b start i r) from if_pos hc]
    exact h1
   ·refine ⟨i,?_,Nat.le_refl _,by omega,fun _ h=>absurd (.inl h) hc⟩
    rw [show runR b start (f + 1) i r=r from if_neg hc]
    exact h
theorem roomR_ok {b:List UInt8} {p:Nat} (hp:p≤b.length) : ∃ j,RSok b j (roomR b p)∧0 < j∧j≤15:=by
 have h1:=startR_le (k:=nx b p)
 have h2:=mostR_le (k:=nx b p) (l:=b.length - np b p)
 obtain ⟨j,k1,k2,k3,k4⟩:=runR_ok (start:=startR (nx b p)) (by omega) (f:=mostR (nx b p) (b.length - np b p)) (rs0_ok (np_le hp))
 exact ⟨j,k1,k4 (by omega) (by omega),by omega⟩
theorem room_is {es:List Event} (h:Valid es) : roomB es=true:=@decide_eq_true _ (Classical.propDecidable _) h
theorem growE_len [Bd] {es:List Event} {aft:List (List Entry)} {b:List UInt8} {p:Nat} : (growE es aft b p).prev.length≤300∧(growE es aft b p).auth.length≤300∧(growE es aft b p).grants.length≤300:=by
 refine ⟨?_,?_,?_⟩
 ·show (bodyG es aft b p).1.prev.length≤_
  unfold bodyG
  rw [contE_prev]
  have h1:=prevG_len (es:=es) (after:=aft) (k:=nx b p) (i:=cntG (nx b p))
  have h2:=cntG_le (k:=nx b p)
  show (prevG es aft (nx b p) (cntG (nx b p))).1.length≤_
  omega
 ·show (authL es aft b p).length≤_
  unfold authL
  have h1 : ∀ (s:List Entry) (ks:List Slot),(authG s ks).length≤ks.length:=fun s ks=>List.length_filterMap_le _ _
  have h2:=h1 (resR es (prevG es aft (nx b p) (cntG (nx b p))).2) (needOf (bodyG es aft b p).1)
  have h3:=need_len (e:=(bodyG es aft b p).1)
  generalize authG (resR es (prevG es aft (nx b p) (cntG (nx b p))).2) (needOf (bodyG es aft b p).1)=a at *
  unfold auth3 auth2
  repeat' split
  all_goals try simp only [List.length_append,List.length_cons,List.length_nil]
  all_goals omega
 ·show (bodyG es aft b p).1.grants.length≤_
  unfold bodyG
  have:=contE_gr (b:=b) (p:=np b p) (e:={ newE es.length (nx b p) with prev:=(prevG es aft (nx b p) (cntG (nx b p))).1 }) (by simp [newE])
  omega
theorem growE_fine [Bd] {es:List Event} {aft:List (List Entry)} {b:List UInt8} {p:Nat} : Fine (growE es aft b p):=by
 have hlo:=Bd.lo
 obtain ⟨h1,h2,h3⟩:=growE_len (es:=es) (aft:=aft) (b:=b) (p:=p)
 refine ⟨?_,?_,?_⟩<;>omega
theorem nextE_fine [Bd] {b:List UInt8} {start i:Nat} {r:RS} : Fine (nextE b start i r):=by
 have hlo:=Bd.lo
 unfold nextE
 split
 ·have h : ∀ e∈first5,e.prev.length≤3∧e.auth.length≤3∧e.grants.length≤3:=by
   intro e he
   simp only [first5,List.mem_cons,List.not_mem_nil,or_false] at he
   rcases he with rfl | rfl | rfl | rfl | rfl<;>simp [evC0,evA1,evP2,evJ3,evB4]
  have : (first5[i]?).getD evC0∈first5:=by
   rcases hx : first5[i]? with _ | x
   ·exact List.mem_cons_self ..
   ·exact List.mem_of_getElem? hx
  have:=h _ this
  refine ⟨?_,?_,?_⟩<;>omega
 ·exact growE_fine
variable [Bd]
theorem Wk.share {N:Nat} {n:Nat} {tm:List (Nat × AV)} {ob:List Ob} (i:Nat) {e:TypeId} {m:Nat} {sh:Sh} {es:List T} (hi:ob[i]? = some (.arr e m (.own sh) es)) : Wk N ⟨n,tm,ob⟩ ⟨n,tm,ob.set i (.arr e m .clo es)⟩:=by
 intro w0 hv S F a w hN hr
 obtain ⟨vs,k1,k2,k3,k4⟩:=hr.ob i _ hi
 obtain ⟨L,o1,o2,o3⟩:=k2
 obtain ⟨L',f1,f2⟩:=ownEs_foot sh es o1
 have hlt : i < ob.length:=(List.getElem?_eq_some_iff.1 hi).1
 have h1:=hr.write (id:=i) (o':=.arr e m .bor es) hi (by simp) (fun _ _=>rfl) rfl rfl rfl rfl (Nat.le_refl _) rfl ⟨vs,k1,⟨L',f1,fun b hb=>(hr.fown i _ hi rfl b (o3 b (f2 b hb))).2.1⟩,k3,k4⟩ (fun h=>by cases h)
 have h2:=h1.moreS (S':=fun b=>S b ∨ b∈F i) (fun b hb=>.inl hb) (fun b hb=>hb.elim (hr.SB b) fun hb=>(hr.fown i _ hi rfl b hb).2.1) (fun j oj hj hoj b hb hh=>by
  rcases set_get hj with ⟨_,rfl⟩ | ⟨hne,hj'⟩
  ·cases hoj
  ·rcases hh with hh | hh
   ·exact (hr.fown j oj hj' hoj b hb).2.2 hh
   ·exact hr.fsep j i oj _ hne hj' hi hoj rfl b hb hh)
 have hi2 : (ob.set i (.arr e m .bor es))[i]? = some (.arr e m .bor es):=by rw [List.getElem?_set_self hlt]
 have h3:=h2.write (id:=i) (o':=.arr e m .clo es) hi2 (by simp) (fun _ _=>rfl) rfl rfl rfl rfl (Nat.le_refl _) rfl ⟨vs,k1,⟨L',f1,fun b hb=>.inr (o3 b (f2 b hb))⟩,k3,k4⟩ (fun h=>by cases h)
 simp only [List.set_set] at h3
 exact ⟨_,_,_,h3⟩
abbrev reO (es:List Event) : Ob:=.arr 42 10 (.own (.ag [.leaf,.leaf,.leaf,.leaf,.leaf,.leaf,.sl 9 1 .leaf,.sl 9 1 .leaf,.leaf,.sl 138 2 (.ag [.leaf,.leaf])])) (es.map eEvent)
theorem l2CopyO (e:Event) (hB:Bd.B≤2147483648) (hf:Fine e) : Con P0 91 [eEvent e] (evAV e 0) (evOb e):=l2Copy e hB hf
theorem l2CopyRoomO (es:List Event) (hB:Bd.B≤2147483648) (hf:∀ e∈es,Fine e) (hl:es.length + 1 < Bd.B) : Con P0 89 [eRoom ⟨es⟩] (.ag [.sr 0]) [reO es]:=by
 refine Con.intro (fn:=Tryz.f89) [.cell 2 36] (fun i=>if i=5 then (9,[(false,0),(false,1),(false,2),(false,3),(false,4),(false,5),(false,6),(true,7),(true,8)]) else (0,[])) mixed (by kernel_rfl) rfl (by decide) rfl (by rfl) (by kernel_rfl) ?_
 simp -implicitDefEqProofs (maxSteps:=2000000) only [push_cast,zA,zB,zC,zD,zE,zF,zG,↓reduceIte,reduceCtorEq,eRoom]
 have:=Bd.lo
 refine ⟨rfl,by omega,?_⟩
 refine WL.loop (ι:=Nat) (D:=(fun i=>if i=5 then (9,[(false,0),(false,1),(false,2),(false,3),(false,4),(false,5),(false,6),(true,7),(true,8)]) else (0,[]))) (fun i=>i≤es.length) (fun i=>⟨26,[(1,.rf 0 0),(2,.rf 1 0),(3,.rf 3 0),(4,.t (.i .i64 i))],[.box (.t (eRoom ⟨es⟩)),.box (.ag [.ns]),reO (es.take i),.box (.ag [.sr 2])]⟩) (fun i=>es.length - i) mixed (by kernel_rfl) 0 (by omega) (Keep.wk (ids:=[some 0,some 1,some 2,some 3]) ?_) ?_
 ·simp only [push_cast,zA,zB,zC,zD,zE,zF,zG,↓reduceIte,reduceCtorEq,eRoom,List.take_zero]<;>trivial
 ·intro i hi
  simp -implicitDefEqProofs (maxSteps:=2000000) only [push_cast,zA,zB,zC,zD,zE,zF,zG,↓reduceIte,reduceCtorEq,eRoom]
  intro _
  have:=Bd.hi
  refine iteI (fun h=>?_) (fun h=>?_)
  ·refine ⟨by omega,fun a ha=>?_⟩
   rw [Int.toNat_natCast] at ha
   have hts : es.take (i + 1)=es.take i ++ [a]:=by rw [List.take_add_one,ha]; rfl
   have cC:=l2CopyO a hB (hf a (List.mem_of_getElem? ha))
   simp only [eEvent] at cC ⊢
   refine Mkx.closed cC rfl rfl (.inl rfl) ?_
   simp -implicitDefEqProofs (maxSteps:=2000000) only [push_cast,zA,zB,zC,zD,zE,zF,zG,↓reduceIte,reduceCtorEq,eEvent]
   have hlt : (es.take i).length=i:=by rw [List.length_take]; omega
   refine ⟨rfl,by omega,rfl,by omega,by omega,by unfold inI64; omega,i + 1,by omega,by omega,Keep.wk (ids:=[some 0,some 1,some 8,some 3]) ?_⟩
   simp only [push_cast,zA,zB,zC,zD,zE,zF,zG,↓reduceIte,reduceCtorEq,hts,List.map_append,List.map_cons,List.map_nil,eEvent]<;>trivial
  ·rw [List.take_of_length_le (by omega)]
   exact Close.of [some 2] rfl rfl rfl (by simp only [push_cast,zA,zB,zC,zD,zE,zF,zG,↓reduceIte,reduceCtorEq]<;>rfl) (by simp only [push_cast,zA,zB,zC,zD,zE,zF,zG,↓reduceIte,reduceCtorEq]<;>rfl)
theorem specInsertO (es:List Event) (e:Event) (hB:Bd.B≤2147483648) (hf:∀ x∈es,Fine x) (he:Fine e) (hl:es.length + 1 < Bd.B) : Con P0 35 [eRoom ⟨es⟩,eEvent e] (.tp [.ag [.sr 0],.t (.i .i64 (codeE es e))]) [reO (insE es e)]:=by
 refine Con.intro (fn:=Tryz.f35) [.cell 4 36,.tmp 5] (fun i=>if i=4 then (5,[(false,0),(false,1),(false,2),(true,3),(true,4)]) else (0,[])) mixed (by kernel_rfl) rfl (by decide) rfl (by rfl) (by kernel_rfl) ?_
 simp -implicitDefEqProofs (maxSteps:=2000000) only [push_cast,zA,zB,zC,zD,zE,zF,zG,↓reduceIte,reduceCtorEq,eRoom,eEvent]
 have:=Bd.lo
 refine Callx.closed (l2CopyRoomO es hB hf hl) rfl rfl (.inl rfl) ?_
 simp -implicitDefEqProofs (maxSteps:=2000000) only [push_cast,zA,zB,zC,zD,zE,zF,zG,↓reduceIte,reduceCtorEq,eRoom,eEvent]
 refine Callx.closed (l2Code es e) rfl rfl (.inl rfl) ?_
 simp -implicitDefEqProofs (maxSteps:=2000000) only [push_cast,zA,zB,zC,zD,zE,zF,zG,↓reduceIte,reduceCtorEq,eRoom,eEvent]
 refine iteI (fun h=>?_) (fun h=>?_)
 ·refine Mkx.closed (l2CopyO e hB he) rfl rfl (.inl rfl) ?_
  simp -implicitDefEqProofs (maxSteps:=2000000) only [push_cast,zA,zB,zC,zD,zE,zF,zG,↓reduceIte,reduceCtorEq,eRoom,eEvent]
  refine ⟨rfl,by omega,rfl,by omega,hl,?_⟩
  have : insE es e=es ++ [e]:=if_pos h
  rw [this]
  exact Close.of [some 9] rfl rfl rfl (by simp only [push_cast,zA,zB,zC,zD,zE,zF,zG,↓reduceIte,reduceCtorEq]<;>rfl) (by simp only [push_cast,zA,zB,zC,zD,zE,zF,zG,↓reduceIte,reduceCtorEq,List.map_append,List.map_cons,List.map_nil,eEvent]<;>trivial)
 ·have : insE es e=es:=if_neg h
  rw [this]
  exact Close.of [some 3] rfl rfl rfl (by simp only [push_cast,zA,zB,zC,zD,zE,zF,zG,↓reduceIte,reduceCtorEq]<;>rfl) (by simp only [push_cast,zA,zB,zC,zD,zE,zF,zG,↓reduceIte,reduceCtorEq]<;>rfl)
theorem l2DrawRoom (b:List UInt8) (p:Nat) (hB:Bd.B≤2147483648) (hb:b.length≤1000) (hp:p≤b.length) : ConM P0 83 [.rf 0 0] [rdO b p] (.tp [.ag [.sr 1],.sr 2]) [rdO b (roomR b p).p,rmO (roomR b p).es,afO (roomR b p).aft]:=by
 refine ConM.intro (fn:=Tryz.f83) [.cell 2 36,.tmp 3] (fun i=>if i=1000018 then (999999,[]) else if i=1000014 then (999999,[]) else if i=1000011 then (999999,[]) else if i=1000008 then (999999,[]) else (0,[])) mixed (by kernel_rfl) rfl (by decide) rfl (by rfl) (by kernel_rfl) ?_
 simp -implicitDefEqProofs (maxSteps:=2000000) only [push_cast,zA,zB,zC,zD,zE,zF,zG,↓reduceIte,reduceCtorEq]
 have:=Bd.lo
 have hhi:=Bd.hi
 refine Callx.hand [0] (rdNext b p hb hp) (by decide) (by simp only [push_cast,zA,zB,zC,zD,zE,zF,zG,↓reduceIte,reduceCtorEq]) rfl rfl (by simp only [push_cast,zA,zB,zC,zD,zE,zF,zG,↓reduceIte,reduceCtorEq]<;>rfl) rfl (.inr ⟨rfl,by simp only [push_cast,zA,zB,zC,zD,zE,zF,zG,↓reduceIte,reduceCtorEq]⟩) ?_
 simp -implicitDefEqProofs (maxSteps:=2000000) only [push_cast,zA,zB,zC,zD,zE,zF,zG,↓reduceIte,reduceCtorEq]
 have hk:=nx_lt (b:=b) (p:=p)
 have hq:=np_le hp
 have hR : roomR b p=runR b (startR (nx b p)) (mostR (nx b p) (b.length - np b p)) 0 ⟨[],[],np b p⟩:=rfl
 rw [hR]
 generalize nx b p=k at *
 generalize np b p=q at *
 clear hR
 refine ⟨rfl,by omega,rfl,by omega,rfl,by omega,rfl,by omega,rfl,by omega,rfl,by omega,rfl,by omega,rfl,by omega,rfl,by omega,rfl,by omega,rfl,by omega,rfl,by omega,by omega,by omega,by unfold inI64; omega,?_⟩
 refine W.join (ι:=Unit) (D:=(fun i=>if i=1000018 then (999999,[]) else if i=1000014 then (999999,[]) else if i=1000011 then (999999,[]) else (0,[]))) (fun _=>True) (fun _=>⟨107,[(0,.rf 0 0),(2,.rf 1 0),(4,.t (.i .i64 k)),(5,.rf 3 0),(6,.sr 4),(7,.t (eEventS first5)),(8,.t (.i .i64 (startR k)))],[rdO b q,.box (.ag [.ns]),rmO [],.box (.ag [.sr 2]),afO []]⟩) mixed (by kernel_rfl) ?_ (fun _ _=>?_)
 ·simp -implicitDefEqProofs (maxSteps:=2000000) only [push_cast,zA,zB,zC,zD,zE,zF,zG,↓reduceIte,reduceCtorEq]
  refine iteI (fun h1=>?_) (fun h1=>iteI (fun h2=>?_) (fun h2=>?_))
  ·have hs : ((startR k:Nat) : Int)=5:=by rw [show startR k=5 from if_pos (by omega)]; rfl
   refine ⟨(),Wk.trans (Wk.clo 2 rfl) (Wk.trans (Wk.clo 4 rfl) (Wk.trans (Wk.seal (y:=eEventS first5) (ids:=[14]) 7 ?_ rfl) (Keep.wk (ids:=[some 0,some 1,some 2,some 3,some 4]) ?_)))⟩
   ·simp only [push_cast,zA,zB,zC,zD,zE,zF,zG,↓reduceIte,reduceCtorEq,getL,first5,evC0,evA1,evP2,evJ3,evB4,List.map_cons,List.map_nil,eEvent]<;>rfl
   simp only [push_cast,zA,zB,zC,zD,zE,zF,zG,↓reduceIte,reduceCtorEq,hs,killAll]<;>trivial
  ·have hs : ((startR k:Nat) : Int)=5:=by rw [show startR k=5 from if_pos (by omega)]; rfl
   refine ⟨(),Wk.trans (Wk.clo 2 rfl) (Wk.trans (Wk.clo 4 rfl) (Wk.trans (Wk.seal (y:=eEventS first5) (ids:=[14]) 7 ?_ rfl) (Keep.wk (ids:=[some 0,some 1,some 2,some 3,some 4]) ?_)))⟩
   ·simp only [push_cast,zA,zB,zC,zD,zE,zF,zG,↓reduceIte,reduceCtorEq,getL,first5,evC0,evA1,evP2,evJ3,evB4,List.map_cons,List.map_nil,eEvent]<;>rfl
   simp only [push_cast,zA,zB,zC,zD,zE,zF,zG,↓reduceIte,reduceCtorEq,hs,killAll]<;>trivial
  ·have hs : ((startR k:Nat) : Int)=1 + (k:Int) % 6:=by rw [show startR k=1 + k % 6 from if_neg (by omega)]; omega
   refine ⟨(),Wk.trans (Wk.clo 2 rfl) (Wk.trans (Wk.clo 4 rfl) (Wk.trans (Wk.seal (y:=eEventS first5) (ids:=[14]) 7 ?_ rfl) (Keep.wk (ids:=[some 0,some 1,some 2,some 3,some 4]) ?_)))⟩
   ·simp only [push_cast,zA,zB,zC,zD,zE,zF,zG,↓reduceIte,reduceCtorEq,getL,first5,evC0,evA1,evP2,evJ3,evB4,List.map_cons,List.map_nil,eEvent]<;>rfl
   simp only [push_cast,zA,zB,zC,zD,zE,zF,zG,↓reduceIte,reduceCtorEq,hs,killAll]<;>trivial
 have hsl:=startR_le (k:=k)
 have hml:=mostR_le (k:=k) (l:=b.length - q)
 have hmd : mostR k (b.length - q)=mostR k (b.length - q):=rfl
 conv at hmd=>rhs; unfold mostR
 generalize startR k=start at *
 generalize mostR k (b.length - q)=most at *
 simp -implicitDefEqProofs (maxSteps:=2000000) only [push_cast,zA,zB,zC,zD,zE,zF,zG,↓reduceIte,reduceCtorEq]
 have hk64 : inI64 (k:Int):=by unfold inI64; omega
 refine ⟨by unfold inI64; omega,by omega,by omega,hk64,by omega,by omega,by unfold inI64; omega,?_⟩
 refine Callx.hand [0] (rdLeft b q hb hq) (by decide) (by simp only [push_cast,zA,zB,zC,zD,zE,zF,zG,↓reduceIte,reduceCtorEq]) rfl rfl (by simp only [push_cast,zA,zB,zC,zD,zE,zF,zG,↓reduceIte,reduceCtorEq]<;>rfl) rfl (.inr ⟨rfl,by simp only [push_cast,zA,zB,zC,zD,zE,zF,zG,↓reduceIte,reduceCtorEq]⟩) ?_
 simp -implicitDefEqProofs (maxSteps:=2000000) only [push_cast,zA,zB,zC,zD,zE,zF,zG,↓reduceIte,reduceCtorEq]
 have hl64 : inI64 ((b.length - q : Nat) : Int):=by unfold inI64; omega
 have hl7 : ((b.length - q : Nat) : Int) / 7=(((b.length - q) / 7 : Nat) : Int):=by omega
 generalize hlf : b.length - q=left at *
 rw [hl7]
 refine ⟨by omega,by omega,hl64,by unfold inI64; omega,?_⟩
 refine W.join (ι:=Unit) (D:=(fun i=>if i=1000018 then (999999,[]) else if i=1000014 then (999999,[]) else (0,[]))) (fun _=>True) (fun _=>⟨107,[(0,.rf 0 0),(2,.rf 1 0),(5,.rf 3 0),(6,.sr 4),(7,.t (eEventS first5)),(8,.t (.i .i64 start)),(9,.t (.i .i64 most))],[rdO b q,.box (.ag [.ns]),rmO [],.box (.ag [.sr 2]),afO []]⟩) mixed (by kernel_rfl) ?_ (fun _ _=>?_)
 ·simp -implicitDefEqProofs (maxSteps:=2000000) only [push_cast,zA,zB,zC,zD,zE,zF,zG,↓reduceIte,reduceCtorEq]
  refine iteI (fun h1=>?_) (fun h1=>?_)
  ·rw [if_pos (by omega)] at hmd
   refine ⟨(),Keep.wk (ids:=[some 0,some 1,some 2,some 3,some 4]) ?_⟩
   simp only [push_cast,zA,zB,zC,zD,zE,zF,zG,↓reduceIte,reduceCtorEq,hmd]<;>trivial
  ·rw [if_neg (by omega)] at hmd
   have hmz : (most:Int)=(start:Int) + 2 + (k:Int) / 6 % 3 + ((left / 7 : Nat) : Int):=by omega
   refine ⟨(),Keep.wk (ids:=[some 0,some 1,some 2,some 3,some 4]) ?_⟩
   simp only [push_cast,zA,zB,zC,zD,zE,zF,zG,↓reduceIte,reduceCtorEq,hmz]<;>trivial
 simp -implicitDefEqProofs (maxSteps:=2000000) only [push_cast,zA,zB,zC,zD,zE,zF,zG,↓reduceIte,reduceCtorEq]
 clear hlf hl7 hl64 hmd
 generalize hRR : runR b start most 0 ⟨[],[],q⟩=R
 refine WL.loop (ι:=Nat × RS) (D:=(fun i=>if i=1000018 then (999999,[]) else if i=1000014 then (999999,[]) else (0,[]))) (fun x=>x.1≤most∧RSok b x.1 x.2∧runR b start (most - x.1) x.1 x.2=R) (fun x=>⟨107,[(0,.rf 0 0),(2,.rf 1 0),(5,.rf 3 0),(6,.sr 4),(7,.t (eEventS first5)),(8,.t (.i .i64 start)),(9,.t (.i .i64 most)),(10,.t (.i .i64 x.1))],[rdO b x.2.p,.box (.ag [.ns]),rmO x.2.es,.box (.ag [.sr 2]),afO x.2.aft]⟩) (fun x=>most - x.1) mixed (by kernel_rfl) (0,⟨[],[],q⟩) ⟨by omega,rs0_ok hq,hRR⟩ (Keep.wk (ids:=[some 0,some 1,some 2,some 3,some 4]) ?_) ?_
 ·simp only [push_cast,zA,zB,zC,zD,zE,zF,zG,↓reduceIte,reduceCtorEq]<;>trivial
 rintro ⟨i,es,aft,p⟩ ⟨hi,hok,hrun⟩
 simp only at hi hok hrun ⊢
 have hpp:=hok.p
 have hle:=hok.le
 have hla:=hok.len
 simp only at hpp hle hla
 simp -implicitDefEqProofs (maxSteps:=2000000) only [push_cast,zA,zB,zC,zD,zE,zF,zG,↓reduceIte,reduceCtorEq]
 refine W.join (ι:={_u:Unit // i < most∧(i < start ∨ p < b.length)}) (D:=(fun i=>if i=1000018 then (999999,[]) else (0,[]))) (fun _=>True) (fun _=>⟨107,[(0,.rf 0 0),(2,.rf 1 0),(5,.rf 3 0),(6,.sr 4),(7,.t (eEventS first5)),(8,.t (.i .i64 start)),(9,.t (.i .i64 most)),(10,.t (.i .i64 i))],[rdO b p,.box (.ag [.ns]),rmO es,.box (.ag [.sr 2]),afO aft]⟩) mixed (by kernel_rfl) ?_ (fun ih _=>?_)
 ·simp -implicitDefEqProofs (maxSteps:=2000000) only [push_cast,zA,zB,zC,zD,zE,zF,zG,↓reduceIte,reduceCtorEq]
  refine iteI (fun h1=>iteI (fun h2=>⟨⟨(),by omega,.inl (by omega)⟩,Keep.wk (ids:=[some 0,some 1,some 2,some 3,some 4]) ?_⟩) (fun h2=>?_)) (fun h1=>?_)
  ·simp only [push_cast,zA,zB,zC,zD,zE,zF,zG,↓reduceIte,reduceCtorEq]<;>trivial
  ·refine Callx.hand [0] (rdLeft b p hb hpp) (by decide) (by simp only [push_cast,zA,zB,zC,zD,zE,zF,zG,↓reduceIte,reduceCtorEq]) rfl rfl (by simp only [push_cast,zA,zB,zC,zD,zE,zF,zG,↓reduceIte,reduceCtorEq]<;>rfl) rfl (.inr ⟨rfl,by simp only [push_cast,zA,zB,zC,zD,zE,zF,zG,↓reduceIte,reduceCtorEq]⟩) ?_
   simp -implicitDefEqProofs (maxSteps:=2000000) only [push_cast,zA,zB,zC,zD,zE,zF,zG,↓reduceIte,reduceCtorEq]
   refine iteI (fun h3=>⟨⟨(),by omega,.inr (by omega)⟩,Keep.wk (ids:=[some 0,some 1,some 2,some 3,some 4]) ?_⟩) (fun h3=>?_)
   ·simp only [push_cast,zA,zB,zC,zD,zE,zF,zG,↓reduceIte,reduceCtorEq]<;>trivial
   ·have hend : R=⟨es,aft,p⟩:=by
     rw [← hrun,show most - i=most - i - 1 + 1 by omega]
     exact if_neg (by simp only; omega)
    rw [hend]
    exact Close.of [some 0,some 2,some 4] rfl rfl rfl (by simp only [push_cast,zA,zB,zC,zD,zE,zF,zG,↓reduceIte,reduceCtorEq]<;>first | rfl | trivial) (by simp only [push_cast,zA,zB,zC,zD,zE,zF,zG,↓reduceIte,reduceCtorEq]<;>first | rfl | trivial)
  ·have hend : R=⟨es,aft,p⟩:=by
    rw [← hrun,show most - i=0 by omega]
    rfl
   rw [hend]
   exact Close.of [some 0,some 2,some 4] rfl rfl rfl (by simp only [push_cast,zA,zB,zC,zD,zE,zF,zG,↓reduceIte,reduceCtorEq]<;>first | rfl | trivial) (by simp only [push_cast,zA,zB,zC,zD,zE,zF,zG,↓reduceIte,reduceCtorEq]<;>first | rfl | trivial)
 obtain ⟨_,him,hor⟩:=ih
 simp -implicitDefEqProofs (maxSteps:=2000000) only [push_cast,zA,zB,zC,zD,zE,zF,zG,↓reduceIte,reduceCtorEq]
 refine ⟨⟨by omega,by decide⟩,fun a ha=>?_⟩
 rw [show first5[Int.toNat 0]? = some evC0 from rfl] at ha
 cases ha
 refine ⟨rfl,?_⟩
 have hrun' : runR b start (most - (i + 1)) (i + 1) (stepR b start i ⟨es,aft,p⟩)=R:=by
  rw [← hrun,show most - i=most - (i + 1) + 1 by omega]
  exact (if_pos hor).symm
 have hnp : nextP b start i ⟨es,aft,p⟩≤b.length:=by
  unfold nextP
  split
  ·exact hpp
  ·exact contE_p (np_le hpp)
 have hok':=hok.next hnp (by omega)
 have hfl : first5.length=5:=rfl
 refine W.join (ι:=Unit) (D:=(fun _=>(0,[]))) (fun _=>True) (fun _=>⟨107,[(0,.rf 0 0),(2,.rf 1 0),(5,.rf 3 0),(6,.sr 4),(7,.t (eEventS first5)),(8,.t (.i .i64 start)),(9,.t (.i .i64 most)),(10,.t (.i .i64 i)),(11,.rf 5 0)],[rdO b (nextP b start i ⟨es,aft,p⟩),.box (.ag [.ns]),rmO es,.box (.ag [.sr 2]),afO aft,.box (.t (eEvent (nextE b start i ⟨es,aft,p⟩)))]⟩) mixed (by kernel_rfl) ?_ (fun _ _=>?_)
 ·simp -implicitDefEqProofs (maxSteps:=2000000) only [push_cast,zA,zB,zC,zD,zE,zF,zG,↓reduceIte,reduceCtorEq]
  refine iteI (fun h1=>⟨⟨by omega,by omega⟩,fun a ha=>⟨rfl,(),Keep.wk (ids:=[some 0,some 1,some 2,some 3,some 4,some 5]) ?_⟩⟩) (fun h1=>?_)
  ·rw [Int.toNat_natCast] at ha
   have e1 : nextE b start i ⟨es,aft,p⟩=a:=by
    rw [show nextE b start i ⟨es,aft,p⟩=(first5[i]?).getD evC0 from if_pos (by omega),ha]; rfl
   rw [e1,show nextP b start i ⟨es,aft,p⟩=p from if_pos (by omega)]
   simp only [push_cast,zA,zB,zC,zD,zE,zF,zG,↓reduceIte,reduceCtorEq]<;>trivial
  ·have hpos : 0 < es.length:=hok.pos (by omega)
   refine Callx.hand [0,2,4] (l2Grow es aft b p hB hb hpp hpos (by omega) hla) (by decide) (by simp only [push_cast,zA,zB,zC,zD,zE,zF,zG,↓reduceIte,reduceCtorEq]) rfl rfl (by simp only [push_cast,zA,zB,zC,zD,zE,zF,zG,↓reduceIte,reduceCtorEq]<;>rfl) rfl (.inr ⟨rfl,by simp only [push_cast,zA,zB,zC,zD,zE,zF,zG,↓reduceIte,reduceCtorEq]⟩) ?_
   simp -implicitDefEqProofs (maxSteps:=2000000) only [push_cast,zA,zB,zC,zD,zE,zF,zG,↓reduceIte,reduceCtorEq]
   refine ⟨rfl,(),Keep.wk (ids:=[some 0,some 1,some 2,some 3,some 4,some 5]) ?_⟩
   rw [show nextE b start i ⟨es,aft,p⟩=growE es aft b p from if_neg (by omega),show nextP b start i ⟨es,aft,p⟩=(bodyG es aft b p).2 from if_neg (by omega)]
   simp only [push_cast,zA,zB,zC,zD,zE,zF,zG,↓reduceIte,reduceCtorEq]<;>trivial
 have hfe:=nextE_fine (b:=b) (start:=start) (i:=i) (r:=⟨es,aft,p⟩)
 have hst : stepR b start i ⟨es,aft,p⟩=if codeE es (nextE b start i ⟨es,aft,p⟩)=0 then ⟨es ++ [nextE b start i ⟨es,aft,p⟩],aft ++ [aftL (es ++ [nextE b start i ⟨es,aft,p⟩]) aft (nextE b start i ⟨es,aft,p⟩)],nextP b start i ⟨es,aft,p⟩⟩ else ⟨es,aft,nextP b start i ⟨es,aft,p⟩⟩:=rfl
 generalize nextE b start i ⟨es,aft,p⟩=e at *
 generalize nextP b start i ⟨es,aft,p⟩=p2 at *
 have cI:=specInsertO es e hB hok.val.fine hfe (by omega)
 simp only [eRoom] at cI
 simp -implicitDefEqProofs (maxSteps:=2000000) only [push_cast,zA,zB,zC,zD,zE,zF,zG,↓reduceIte,reduceCtorEq]
 refine Callx.closed cI rfl rfl (.inr ⟨rfl,rfl⟩) ?_
 simp -implicitDefEqProofs (maxSteps:=2000000) only [push_cast,zA,zB,zC,zD,zE,zF,zG,↓reduceIte,reduceCtorEq]
 refine iteI (fun hcd=>?_) (fun hcd=>?_)
 ·rw [if_neg hcd] at hst
  rw [hst] at hok' hrun'
  refine ⟨by unfold inI64; omega,(i + 1,⟨es,aft,p2⟩),⟨by simp only; omega,hok',hrun'⟩,by simp only; omega,Keep.wk (ids:=[some 0,some 1,some 2,some 3,some 4]) ?_⟩
  simp only [push_cast,zA,zB,zC,zD,zE,zF,zG,↓reduceIte,reduceCtorEq]<;>trivial
 ·have hcd:=Classical.not_not.1 hcd
  rw [if_pos hcd] at hst
  rw [hst] at hok' hrun'
  rw [show insE es e=es ++ [e] from if_pos hcd]
  intro _
  have hll : ((es ++ [e]).length : Int)=es.length + 1:=by simp
  have hie : ((es ++ [e]).length : Int) - 1=(es.length : Int):=by omega
  have hvs:=hok.val.snoc hcd
  have hat : (es ++ [e])[es.length]? = some e:=by rw [List.getElem?_append_right (Nat.le_refl _)]; simp
  have cA:=l7After (es ++ [e]) hvs aft es.length e hat (hok.has hcd) hB
  have hfl':=(putE_fit hvs (resL_fit hvs (hok.has hcd).fits) hat).len
  simp only [eRoom] at cA
  rw [hie]
  refine ⟨by unfold inI64; omega,?_⟩
  refine Callx.closed cA rfl rfl (.inr ⟨rfl,rfl⟩) ?_
  simp -implicitDefEqProofs (maxSteps:=2000000) only [push_cast,zA,zB,zC,zD,zE,zF,zG,↓reduceIte,reduceCtorEq]
  refine ⟨rfl,by omega,rfl,by omega,by omega,by unfold inI64; omega,(i + 1,⟨es ++ [e],aft ++ [aftL (es ++ [e]) aft e],p2⟩),⟨by simp only; omega,hok',hrun'⟩,by simp only; omega,Wk.trans (Wk.share 6 rfl) (Keep.wk (ids:=[some 0,some 1,some 6,some 3,some 10]) ?_)⟩
  simp only [push_cast,zA,zB,zC,zD,zE,zF,zG,↓reduceIte,reduceCtorEq,List.map_append,List.map_cons,List.map_nil]<;>trivial
end Go.Proofs.YtmgdkkhnjkepiaaGreat.BX
namespace Go.Proofs.YtmgdkkhnjkepiaaGreat.BX
open Nat renaming reduceEqDiff → zA, reduceLT → zB, reduceLeDiff → zC, reduceAdd → zD, reduceMul → zE, reduceSub → zF, reduceBEq → zG
set_option linter.unusedSectionVars false
set_option linter.unusedSimpArgs false
set_option linter.unusedVariables false
open Go Go.RowKit
variable [Bd]
def seqs : List Code→Code→Code
 | [], y => y
 | a :: cs, y => .seq a (seqs cs y)
def okN (D:DD) : List Code→Bool
 | [] => true
 | a :: cs => okCode D a && !stopD (D (1000000 + hdC (seqs cs .skip))) && okN D cs
theorem V.joinN {P:Program} {N:Nat} {D:DD} {K:Kont} {ι:Type} (I:ι→Prop) (s:ι→St) {y:Code} (hm:P.follows .mixedOrders=true) (hy:∀ i,I i→V P N y K (s i)) : ∀ (cs:List Code) (σ:St),okN D cs=true→W P N D (seqs cs .skip) (cutK N I s K) σ→V P N (seqs cs y) K σ
 | [], σ, _, h => by
   obtain ⟨j,h1,h2⟩:=(show ∃ j,I j∧Wk N σ (s j) from h)
   exact (hy j h1).wk h2
 | a :: cs, σ, ho, h => by
   simp only [okN,Bool.and_eq_true,Bool.not_eq_true'] at ho
   obtain ⟨⟨h1,h2⟩,h3⟩:=ho
   simp only [seqs,W,h2,stopW] at h
   refine V.seq ((W_sound hm a _ σ h1 h).mono fun e σ hk=>?_)
   cases e with
   | nrm => exact V.joinN I s hm hy cs σ h3 hk
   | ex id => exact hk
   | go l => exact hk
   | ret => exact hk
theorem W.joinN {P:Program} {N:Nat} {D D':DD} {K:Kont} {σ:St} {ι:Type} (I:ι→Prop) (s:ι→St) (cs:List Code) {y:Code} (hm:P.follows .mixedOrders=true) (ho:okN D cs=true) (hoy:okCode D' y=true) (h:W P N D (seqs cs .skip) (cutK N I s K) σ) (hy:∀ i,I i→W P N D' y K (s i)) : WL P N (seqs cs y) K σ :=
 V.joinN I s hm (fun i hi=>W_sound hm y K _ hoy (hy i hi)) cs σ ho h
end Go.Proofs.YtmgdkkhnjkepiaaGreat.BX
namespace Go.Proofs.YtmgdkkhnjkepiaaGreat.BX
open Nat renaming reduceEqDiff → zA, reduceLT → zB, reduceLeDiff → zC, reduceAdd → zD, reduceMul → zE, reduceSub → zF, reduceBEq → zG
set_option linter.unusedSectionVars false
set_option linter.unusedSimpArgs false
set_option linter.unusedVariables false
open Go Go.RowKit
set_option maxRecDepth 20000
set_option maxHeartbeats 400000
def diM (n:Nat) : List Event:=List.replicate n ⟨[36,99,48],[],[],false,[],0,[],[],[],[]⟩
def diX : Event:=⟨[36,120],[64,97],[109,115,103],false,[],0,[[36,99,48]],[[36,99,48]],[],[]⟩
def diN : Event:=⟨[36,110],[64,98],sCreate,true,[],0,[],[],[],[]⟩
noncomputable def diE (b:List UInt8) (k m:Nat) (r:RS) : Event :=
 if k % 4=3 then spoilE (nx b (m % 9)) (nx b (np b (m % 9))) (growE r.es r.aft b r.p)
 else if k % 16=2 then (r.es[m % r.es.length]?).getD diN
 else if k % 16=6 then { growE r.es r.aft b r.p with prev:=(growE r.es r.aft b r.p).prev ++ [[36,110,111,110,101]] }
 else if k % 16=14 then diN
 else growE r.es r.aft b r.p
def diR (k m:Nat) (r:RS) : List Event:=if k % 16=10 then r.es.take (m % 2) else r.es
noncomputable def drB (b:List UInt8) : List Event × Event :=
 if nx b 0 % 32=31 then (diM (299 + nx b 0 / 32 % 3),diX)
 else (diR (nx b 0) (nx b (np b 0)) (roomR b (np b (np b 0))),diE b (nx b 0) (nx b (np b 0)) (roomR b (np b (np b 0))))
noncomputable def drIns (c:List UInt8) : List Event × Event:=drB (c.take 1000)
theorem diM_snoc {n:Nat} : diM (n + 1)=diM n ++ [⟨[36,99,48],[],[],false,[],0,[],[],[],[]⟩]:=List.replicate_succ'
variable [Bd]
theorem drawInsert (c:List UInt8) (hB:Bd.B≤2147483648) : Con P0 34 [.sl (c.map eU8)] (.t (.tp [eRoom ⟨(drIns c).1⟩,eEvent (drIns c).2])) []:=by
 have hcl : (c.take 1000).length≤1000:=by rw [List.length_take]; omega
 refine Con.intro (fn:=Tryz.f34) [.cell 2 36,.cell 3 42] (fun i=>if i=24 then (999999,[]) else if i=1000016 then (999999,[]) else if i=17 then (9,[]) else (0,[])) mixed (by kernel_rfl) rfl (by decide) rfl (by rfl) (by kernel_rfl) ?_
 simp -implicitDefEqProofs (maxSteps:=2000000) only [push_cast,zA,zB,zC,zD,zE,zF,zG,↓reduceIte,reduceCtorEq]
 have:=Bd.lo
 have hhi:=Bd.hi
 refine Callx.closed (l1Open c) rfl rfl (.inl rfl) ?_
 simp -implicitDefEqProofs (maxSteps:=2000000) only [push_cast,zA,zB,zC,zD,zE,zF,zG,↓reduceIte,reduceCtorEq]
 unfold drIns
 generalize c.take 1000=b at *
 refine Callx.hand [2] (rdNext b 0 hcl (Nat.zero_le _)) (by decide) (by simp only [push_cast,zA,zB,zC,zD,zE,zF,zG,↓reduceIte,reduceCtorEq]) rfl rfl (by simp only [push_cast,zA,zB,zC,zD,zE,zF,zG,↓reduceIte,reduceCtorEq]<;>rfl) rfl (.inr ⟨rfl,by simp only [push_cast,zA,zB,zC,zD,zE,zF,zG,↓reduceIte,reduceCtorEq]⟩) ?_
 simp -implicitDefEqProofs (maxSteps:=2000000) only [push_cast,zA,zB,zC,zD,zE,zF,zG,↓reduceIte,reduceCtorEq]
 have hp1 : np b 0≤b.length:=np_le (Nat.zero_le _)
 refine Callx.hand [2] (rdNext b (np b 0) hcl hp1) (by decide) (by simp only [push_cast,zA,zB,zC,zD,zE,zF,zG,↓reduceIte,reduceCtorEq]) rfl rfl (by simp only [push_cast,zA,zB,zC,zD,zE,zF,zG,↓reduceIte,reduceCtorEq]<;>rfl) rfl (.inr ⟨rfl,by simp only [push_cast,zA,zB,zC,zD,zE,zF,zG,↓reduceIte,reduceCtorEq]⟩) ?_
 simp -implicitDefEqProofs (maxSteps:=2000000) only [push_cast,zA,zB,zC,zD,zE,zF,zG,↓reduceIte,reduceCtorEq]
 have hk:=nx_lt (b:=b) (p:=0)
 have hm:=nx_lt (b:=b) (p:=np b 0)
 have hp2 : np b (np b 0)≤b.length:=np_le hp1
 obtain ⟨k,hke⟩ : ∃ k,nx b 0=k:=⟨_,rfl⟩
 obtain ⟨m,hme⟩ : ∃ m,nx b (np b 0)=m:=⟨_,rfl⟩
 obtain ⟨R,hR⟩ : ∃ R,drB b=R:=⟨_,rfl⟩
 rw [hR]
 unfold drB at hR
 rw [hke,hme] at hR
 rw [hke] at hk ⊢
 rw [hme] at hm ⊢
 refine ⟨by omega,by omega,iteI (fun h=>?_) (fun h=>?_)⟩
 ·rw [if_pos (show k % 32=31 by omega)] at hR
  obtain ⟨t,ht⟩ : ∃ t,299 + k / 32 % 3=t:=⟨_,rfl⟩
  have htc : (299 + (k:Int) / 32 % 3)=(t:Nat):=by rw [← ht]; omega
  have htl : t≤301:=by omega
  rw [ht] at hR
  simp -implicitDefEqProofs (maxSteps:=2000000) only [push_cast,zA,zB,zC,zD,zE,zF,zG,↓reduceIte,reduceCtorEq]
  refine WL.loop (ι:=Nat) (D:=(fun i=>if i=24 then (0,[]) else if i=17 then (9,[]) else (0,[]))) (fun n=>n≤t) (fun n=>⟨95,[(2,.rf 0 0),(3,.rf 1 0),(5,.t (.i .i64 k)),(7,.rf 3 0),(8,.t (.i .i64 n))],[.box (.ag [.ns]),.box zEv,.dead,.box (.ag [apX .ns 4 n]),apO .dead (reO (diM n)) n]⟩) (fun n=>t - n) mixed (by kernel_rfl) 0 (Nat.zero_le _) (Keep.wk (ids:=[some 0,some 1,none,some 3,none]) ?_) ?_
  ·simp only [push_cast,zA,zB,zC,zD,zE,zF,zG,↓reduceIte,reduceCtorEq,apX,apO,zEv]<;>trivial
  intro n hn
  cases n with
  | zero =>
    simp only [apX,apO]
    simp -implicitDefEqProofs (maxSteps:=2000000) only [push_cast,zA,zB,zC,zD,zE,zF,zG,↓reduceIte,reduceCtorEq]
    refine ⟨by omega,by omega,by unfold inI64; omega,by omega,by omega,by unfold inI64; omega,iteI (fun h1=>?_) (fun h1=>absurd h1 (by omega))⟩
    refine ⟨rfl,by omega,rfl,by omega,by omega,by unfold inI64; omega,1,by omega,by omega,Keep.wk (ids:=[some 0,some 1,none,some 3,some 6]) ?_⟩
    simp only [push_cast,zA,zB,zC,zD,zE,zF,zG,↓reduceIte,reduceCtorEq,apX,apO,zEv]<;>trivial
  | succ n =>
    simp only [apX,apO]
    simp -implicitDefEqProofs (maxSteps:=2000000) only [push_cast,zA,zB,zC,zD,zE,zF,zG,↓reduceIte,reduceCtorEq]
    have hdl : (diM (n + 1)).length=n + 1:=List.length_replicate
    refine ⟨by omega,by omega,by unfold inI64; omega,by omega,by omega,by unfold inI64; omega,iteI (fun h1=>?_) (fun h1=>?_)⟩
    ·have hsn:=diM_snoc (n:=n + 1)
     refine ⟨rfl,by omega,rfl,by omega,by omega,by unfold inI64; omega,n + 1 + 1,by omega,by omega,Keep.wk (ids:=[some 0,some 1,none,some 3,some 6]) ?_⟩
     simp only [push_cast,zA,zB,zC,zD,zE,zF,zG,↓reduceIte,reduceCtorEq,apX,apO,zEv,hsn,List.map_append,List.map_cons,List.map_nil]<;>trivial
    ·have : n + 1=t:=by omega
     rw [this,← hR]
     exact ⟨rfl,by omega,rfl,by omega,rfl⟩
 ·rw [if_neg (show ¬ k % 32=31 by omega)] at hR
  simp -implicitDefEqProofs (maxSteps:=2000000) only [push_cast,zA,zB,zC,zD,zE,zF,zG,↓reduceIte,reduceCtorEq]
  refine Callx.hand [2] (l2DrawRoom b (np b (np b 0)) hB hcl hp2) (by decide) (by simp only [push_cast,zA,zB,zC,zD,zE,zF,zG,↓reduceIte,reduceCtorEq]) rfl rfl (by simp only [push_cast,zA,zB,zC,zD,zE,zF,zG,↓reduceIte,reduceCtorEq]<;>rfl) rfl (.inr ⟨rfl,by simp only [push_cast,zA,zB,zC,zD,zE,zF,zG,↓reduceIte,reduceCtorEq]⟩) ?_
  obtain ⟨j,hrs,hj0,hj⟩:=roomR_ok hp2
  have hgl:=growE_len (es:=(roomR b (np b (np b 0))).es) (aft:=(roomR b (np b (np b 0))).aft) (b:=b) (p:=(roomR b (np b (np b 0))).p)
  generalize roomR b (np b (np b 0))=r at *
  have hr0:=hrs.pos hj0
  have hrl:=hrs.le
  have hrp:=hrs.p
  have hra:=hrs.len
  simp -implicitDefEqProofs (maxSteps:=2000000) only [push_cast,zA,zB,zC,zD,zE,zF,zG,↓reduceIte,reduceCtorEq]
  by_cases hpw : nx b (np b r.p) % 8=3
  ·refine Callx.hand [2,3,4] (l2GrowP r.es r.aft b r.p hB hcl hrp hr0 (by omega) hra hpw) (by decide) (by simp only [push_cast,zA,zB,zC,zD,zE,zF,zG,↓reduceIte,reduceCtorEq]<;>trivial) rfl rfl (by simp only [push_cast,zA,zB,zC,zD,zE,zF,zG,↓reduceIte,reduceCtorEq]<;>first | rfl | trivial) rfl (.inr ⟨rfl,by simp only [push_cast,zA,zB,zC,zD,zE,zF,zG,↓reduceIte,reduceCtorEq]<;>first | rfl | trivial⟩) ?_
   simp -implicitDefEqProofs (maxSteps:=2000000) only [push_cast,zA,zB,zC,zD,zE,zF,zG,↓reduceIte,reduceCtorEq]
   refine W.joinN (ι:=Unit) (D:=(fun i=>if i=24 then (0,[]) else if i=17 then (9,[]) else (0,[]))) (D':=(fun i=>if i=24 then (2000004,[(true,0),(true,1),(false,0),(true,0),(true,1),(false,0),(true,1),(false,2),(false,3)]) else if i=17 then (9,[]) else (0,[]))) (fun _=>True) (fun _=>⟨95,[(2,.rf 0 0),(3,.rf 1 0),(9,.rf 2 0),(11,.rf 3 0)],[.box (.ag [.ns]),.box zEv,.box (.t (eRoom ⟨R.1⟩)),.box (.t (eEvent R.2))]⟩) [_,_,_,_,_] mixed (by kernel_rfl) (by kernel_rfl) ?_ (fun _ _=>?_)
   rotate_left
   ·simp -implicitDefEqProofs (maxSteps:=2000000) only [push_cast,zA,zB,zC,zD,zE,zF,zG,↓reduceIte,reduceCtorEq,eRoom]
    rfl
   simp only [seqs]
   simp -implicitDefEqProofs (maxSteps:=2000000) only [push_cast,zA,zB,zC,zD,zE,zF,zG,↓reduceIte,reduceCtorEq]
   have e9 : (m:Int) % 9=((m % 9 : Nat) : Int):=by omega
   refine ⟨by omega,by omega,iteI (fun h1=>?_) (fun h1=>⟨by omega,by omega,iteI (fun h2=>?_) (fun h2=>⟨by omega,by omega,iteI (fun h3=>?_) (fun h3=>⟨by omega,by omega,iteI (fun h4=>?_) (fun h4=>⟨by omega,by omega,iteI (fun h5=>?_) (fun h5=>?_)⟩)⟩)⟩)⟩)⟩
   ·refine ⟨by omega,by omega,?_⟩
    rw [e9]
    refine Callx.hand [2,6,7,8] (l1SpoilEventG b (m % 9) (growE r.es r.aft b r.p) hB hcl (by omega) growE_len) (by decide) (by simp only [push_cast,zA,zB,zC,zD,zE,zF,zG,↓reduceIte,reduceCtorEq]<;>trivial) rfl rfl (by simp only [push_cast,zA,zB,zC,zD,zE,zF,zG,↓reduceIte,reduceCtorEq]<;>first | rfl | trivial) rfl (.inr ⟨rfl,by simp only [push_cast,zA,zB,zC,zD,zE,zF,zG,↓reduceIte,reduceCtorEq]<;>first | rfl | trivial⟩) ?_
    simp -implicitDefEqProofs (maxSteps:=2000000) only [push_cast,zA,zB,zC,zD,zE,zF,zG,↓reduceIte,reduceCtorEq]
    have hR1 : R.1=r.es:=by rw [← hR]; exact if_neg (by omega)
    have hR2 : R.2=spoilE (nx b (m % 9)) (nx b (np b (m % 9))) (growE r.es r.aft b r.p):=by rw [← hR]; simp only [diE]; rw [if_pos (by omega)]
    refine ⟨rfl,by omega,by omega,iteI (fun h=>absurd h (by omega)) (fun _=>⟨by omega,by omega,iteI (fun h=>absurd h (by omega)) (fun _=>⟨by omega,by omega,iteI (fun h=>absurd h (by omega)) (fun _=>⟨by omega,by omega,iteI (fun h=>absurd h (by omega)) (fun _=>?_)⟩)⟩)⟩)⟩
    refine ⟨(),Wk.trans (Wk.sealBox 5 (y:=eRoom ⟨R.1⟩) (ids:=[3]) ?_ rfl) (Wk.trans (Wk.sealBox 9 (y:=eEvent R.2) (ids:=[]) ?_ rfl) (Keep.wk (ids:=[some 0,some 1,some 5,some 9]) ?_))⟩
    ·rw [hR1]
     simp only [push_cast,zA,zB,zC,zD,zE,zF,zG,↓reduceIte,reduceCtorEq,boxTake,eRoom,eEventS]<;>rfl
    ·rw [hR2]
     simp only [push_cast,zA,zB,zC,zD,zE,zF,zG,↓reduceIte,reduceCtorEq,boxTake,killAll,eEvent,eStringS,eGrantS,List.map_append,List.map_cons,List.map_nil]<;>rfl
    ·simp only [push_cast,zA,zB,zC,zD,zE,zF,zG,↓reduceIte,reduceCtorEq,killAll,zEv]<;>trivial
   ·intro _
    have em : ((m:Int) % (r.es.length : Int)).toNat=m % r.es.length:=by rw [show ((m:Int) % (r.es.length : Int))=((m % r.es.length : Nat) : Int) by simp,Int.toNat_natCast]
    have em2 : ((m:Int) % (r.es.length : Int))=((m % r.es.length : Nat) : Int):=by simp
    have hml:=Nat.mod_lt m hr0
    rw [em,em2]
    refine ⟨by omega,by omega,by omega,by omega,fun a ha=>⟨rfl,by omega,by omega,iteI (fun h=>absurd h (by omega)) (fun _=>⟨by omega,by omega,iteI (fun h=>absurd h (by omega)) (fun _=>⟨by omega,by omega,iteI (fun h=>absurd h (by omega)) (fun _=>?_)⟩)⟩)⟩⟩
    have hR1 : R.1=r.es:=by rw [← hR]; exact if_neg (by omega)
    have hR2 : R.2=a:=by rw [← hR]; simp only [diE]; rw [if_neg (by omega),if_pos (by omega),ha]; rfl
    refine ⟨(),Wk.trans (Wk.sealBox 5 (y:=eRoom ⟨R.1⟩) (ids:=[3]) ?_ rfl) (Wk.trans (Wk.sealBox 9 (y:=eEvent R.2) (ids:=[]) ?_ rfl) (Keep.wk (ids:=[some 0,some 1,some 5,some 9]) ?_))⟩
    ·rw [hR1]
     simp only [push_cast,zA,zB,zC,zD,zE,zF,zG,↓reduceIte,reduceCtorEq,boxTake,eRoom,eEventS]<;>rfl
    ·rw [hR2]
     simp only [push_cast,zA,zB,zC,zD,zE,zF,zG,↓reduceIte,reduceCtorEq,boxTake,killAll,eEvent,eStringS,eGrantS,List.map_append,List.map_cons,List.map_nil]<;>rfl
    ·simp only [push_cast,zA,zB,zC,zD,zE,zF,zG,↓reduceIte,reduceCtorEq,killAll,zEv]<;>trivial
   ·refine ⟨rfl,by omega,rfl,by omega,by omega,by omega,by omega,iteI (fun h=>absurd h (by omega)) (fun _=>⟨by omega,by omega,iteI (fun h=>absurd h (by omega)) (fun _=>?_)⟩)⟩
    have hR1 : R.1=r.es:=by rw [← hR]; exact if_neg (by omega)
    have hR2 : R.2 = { growE r.es r.aft b r.p with prev:=(growE r.es r.aft b r.p).prev ++ [[36,110,111,110,101]] }:=by rw [← hR]; simp only [diE]; rw [if_neg (by omega),if_neg (by omega),if_pos (by omega)]
    refine ⟨(),Wk.trans (Wk.sealBox 5 (y:=eRoom ⟨R.1⟩) (ids:=[3]) ?_ rfl) (Wk.trans (Wk.sealBox 9 (y:=eEvent R.2) (ids:=[11,7,8]) ?_ rfl) (Keep.wk (ids:=[some 0,some 1,some 5,some 9]) ?_))⟩
    ·rw [hR1]
     simp only [push_cast,zA,zB,zC,zD,zE,zF,zG,↓reduceIte,reduceCtorEq,boxTake,eRoom,eEventS]<;>rfl
    ·rw [hR2]
     simp only [push_cast,zA,zB,zC,zD,zE,zF,zG,↓reduceIte,reduceCtorEq,boxTake,killAll,eEvent,eStringS,eGrantS,List.map_append,List.map_cons,List.map_nil]<;>rfl
    ·simp only [push_cast,zA,zB,zC,zD,zE,zF,zG,↓reduceIte,reduceCtorEq,killAll,zEv]<;>trivial
   ·refine ⟨by omega,by omega,by omega,by omega,by omega,by omega,iteI (fun h=>absurd h (by omega)) (fun _=>?_)⟩
    have e2 : ((m:Int) % 2).toNat=m % 2:=by omega
    have hR1 : R.1=r.es.take (m % 2):=by rw [← hR]; exact if_pos (by omega)
    have hR2 : R.2=growE r.es r.aft b r.p:=by rw [← hR]; simp only [diE]; rw [if_neg (by omega),if_neg (by omega),if_neg (by omega),if_neg (by omega)]
    refine ⟨(),Wk.trans (Wk.sealBox 5 (y:=eRoom ⟨R.1⟩) (ids:=[10]) ?_ rfl) (Wk.trans (Wk.sealBox 9 (y:=eEvent R.2) (ids:=[6,7,8]) ?_ rfl) (Keep.wk (ids:=[some 0,some 1,some 5,some 9]) ?_))⟩
    ·rw [hR1]
     simp only [push_cast,zA,zB,zC,zD,zE,zF,zG,↓reduceIte,reduceCtorEq,boxTake,eRoom,eEventS,e2,List.map_take]<;>rfl
    ·rw [hR2]
     simp only [push_cast,zA,zB,zC,zD,zE,zF,zG,↓reduceIte,reduceCtorEq,boxTake,killAll,eEvent,eStringS,eGrantS,List.map_append,List.map_cons,List.map_nil]<;>rfl
    ·simp only [push_cast,zA,zB,zC,zD,zE,zF,zG,↓reduceIte,reduceCtorEq,killAll,zEv]<;>trivial
   ·have hR1 : R.1=r.es:=by rw [← hR]; exact if_neg (by omega)
    have hR2 : R.2=diN:=by rw [← hR]; simp only [diE]; rw [if_neg (by omega),if_neg (by omega),if_neg (by omega),if_pos (by omega)]
    refine ⟨(),Wk.trans (Wk.sealBox 5 (y:=eRoom ⟨R.1⟩) (ids:=[3]) ?_ rfl) (Wk.trans (Wk.sealBox 9 (y:=eEvent R.2) (ids:=[]) ?_ rfl) (Keep.wk (ids:=[some 0,some 1,some 5,some 9]) ?_))⟩
    ·rw [hR1]
     simp only [push_cast,zA,zB,zC,zD,zE,zF,zG,↓reduceIte,reduceCtorEq,boxTake,eRoom,eEventS]<;>rfl
    ·rw [hR2]
     simp only [push_cast,zA,zB,zC,zD,zE,zF,zG,↓reduceIte,reduceCtorEq,boxTake,killAll,eEvent,eStringS,eGrantS,List.map_append,List.map_cons,List.map_nil,diN]<;>rfl
    ·simp only [push_cast,zA,zB,zC,zD,zE,zF,zG,↓reduceIte,reduceCtorEq,killAll,zEv]<;>trivial
   ·have hR1 : R.1=r.es:=by rw [← hR]; exact if_neg (by omega)
    have hR2 : R.2=growE r.es r.aft b r.p:=by rw [← hR]; simp only [diE]; rw [if_neg (by omega),if_neg (by omega),if_neg (by omega),if_neg (by omega)]
    refine ⟨(),Wk.trans (Wk.sealBox 5 (y:=eRoom ⟨R.1⟩) (ids:=[3]) ?_ rfl) (Wk.trans (Wk.sealBox 9 (y:=eEvent R.2) (ids:=[6,7,8]) ?_ rfl) (Keep.wk (ids:=[some 0,some 1,some 5,some 9]) ?_))⟩
    ·rw [hR1]
     simp only [push_cast,zA,zB,zC,zD,zE,zF,zG,↓reduceIte,reduceCtorEq,boxTake,eRoom,eEventS]<;>rfl
    ·rw [hR2]
     simp only [push_cast,zA,zB,zC,zD,zE,zF,zG,↓reduceIte,reduceCtorEq,boxTake,killAll,eEvent,eStringS,eGrantS,List.map_append,List.map_cons,List.map_nil]<;>rfl
    ·simp only [push_cast,zA,zB,zC,zD,zE,zF,zG,↓reduceIte,reduceCtorEq,killAll,zEv]<;>trivial
  ·refine Callx.hand [2,3,4] (l2GrowO r.es r.aft b r.p hB hcl hrp hr0 (by omega) hra hpw) (by decide) (by simp only [push_cast,zA,zB,zC,zD,zE,zF,zG,↓reduceIte,reduceCtorEq]<;>trivial) rfl rfl (by simp only [push_cast,zA,zB,zC,zD,zE,zF,zG,↓reduceIte,reduceCtorEq]<;>first | rfl | trivial) rfl (.inr ⟨rfl,by simp only [push_cast,zA,zB,zC,zD,zE,zF,zG,↓reduceIte,reduceCtorEq]<;>first | rfl | trivial⟩) ?_
   simp -implicitDefEqProofs (maxSteps:=2000000) only [push_cast,zA,zB,zC,zD,zE,zF,zG,↓reduceIte,reduceCtorEq]
   have hgr : (growE r.es r.aft b r.p).grants=[]:=by
    show (bodyG r.es r.aft b r.p).1.grants=[]
    unfold bodyG
    exact contE_nogr hpw
   refine W.joinN (ι:=Unit) (D:=(fun i=>if i=24 then (0,[]) else if i=17 then (9,[]) else (0,[]))) (D':=(fun i=>if i=24 then (2000004,[(true,0),(true,1),(false,0),(true,0),(true,1),(false,0),(true,1),(false,2),(false,3)]) else if i=17 then (9,[]) else (0,[]))) (fun _=>True) (fun _=>⟨95,[(2,.rf 0 0),(3,.rf 1 0),(9,.rf 2 0),(11,.rf 3 0)],[.box (.ag [.ns]),.box zEv,.box (.t (eRoom ⟨R.1⟩)),.box (.t (eEvent R.2))]⟩) [_,_,_,_,_] mixed (by kernel_rfl) (by kernel_rfl) ?_ (fun _ _=>?_)
   rotate_left
   ·simp -implicitDefEqProofs (maxSteps:=2000000) only [push_cast,zA,zB,zC,zD,zE,zF,zG,↓reduceIte,reduceCtorEq,eRoom]
    rfl
   simp only [seqs]
   simp -implicitDefEqProofs (maxSteps:=2000000) only [push_cast,zA,zB,zC,zD,zE,zF,zG,↓reduceIte,reduceCtorEq]
   have e9 : (m:Int) % 9=((m % 9 : Nat) : Int):=by omega
   refine ⟨by omega,by omega,iteI (fun h1=>?_) (fun h1=>⟨by omega,by omega,iteI (fun h2=>?_) (fun h2=>⟨by omega,by omega,iteI (fun h3=>?_) (fun h3=>⟨by omega,by omega,iteI (fun h4=>?_) (fun h4=>⟨by omega,by omega,iteI (fun h5=>?_) (fun h5=>?_)⟩)⟩)⟩)⟩)⟩
   ·refine ⟨by omega,by omega,?_⟩
    rw [e9]
    refine Callx.hand [2,6,7] (l1SpoilEvent b (m % 9) (growE r.es r.aft b r.p) hB hcl (by omega) growE_len hgr) (by decide) (by simp only [push_cast,zA,zB,zC,zD,zE,zF,zG,↓reduceIte,reduceCtorEq]<;>trivial) rfl rfl (by simp only [push_cast,zA,zB,zC,zD,zE,zF,zG,↓reduceIte,reduceCtorEq]<;>first | rfl | trivial) rfl (.inr ⟨rfl,by simp only [push_cast,zA,zB,zC,zD,zE,zF,zG,↓reduceIte,reduceCtorEq]<;>first | rfl | trivial⟩) ?_
    simp -implicitDefEqProofs (maxSteps:=2000000) only [push_cast,zA,zB,zC,zD,zE,zF,zG,↓reduceIte,reduceCtorEq]
    have hR1 : R.1=r.es:=by rw [← hR]; exact if_neg (by omega)
    have hR2 : R.2=spoilE (nx b (m % 9)) (nx b (np b (m % 9))) (growE r.es r.aft b r.p):=by rw [← hR]; simp only [diE]; rw [if_pos (by omega)]
    refine ⟨rfl,by omega,by omega,iteI (fun h=>absurd h (by omega)) (fun _=>⟨by omega,by omega,iteI (fun h=>absurd h (by omega)) (fun _=>⟨by omega,by omega,iteI (fun h=>absurd h (by omega)) (fun _=>⟨by omega,by omega,iteI (fun h=>absurd h (by omega)) (fun _=>?_)⟩)⟩)⟩)⟩
    refine ⟨(),Wk.trans (Wk.sealBox 5 (y:=eRoom ⟨R.1⟩) (ids:=[3]) ?_ rfl) (Wk.trans (Wk.sealBox 8 (y:=eEvent R.2) (ids:=[]) ?_ rfl) (Keep.wk (ids:=[some 0,some 1,some 5,some 8]) ?_))⟩
    ·rw [hR1]
     simp only [push_cast,zA,zB,zC,zD,zE,zF,zG,↓reduceIte,reduceCtorEq,boxTake,eRoom,eEventS]<;>rfl
    ·rw [hR2]
     simp only [push_cast,zA,zB,zC,zD,zE,zF,zG,↓reduceIte,reduceCtorEq,boxTake,killAll,eEvent,eStringS,eGrantS,hgr,List.map_append,List.map_cons,List.map_nil]<;>rfl
    ·simp only [push_cast,zA,zB,zC,zD,zE,zF,zG,↓reduceIte,reduceCtorEq,killAll,zEv]<;>trivial
   ·intro _
    have em : ((m:Int) % (r.es.length : Int)).toNat=m % r.es.length:=by rw [show ((m:Int) % (r.es.length : Int))=((m % r.es.length : Nat) : Int) by simp,Int.toNat_natCast]
    have em2 : ((m:Int) % (r.es.length : Int))=((m % r.es.length : Nat) : Int):=by simp
    have hml:=Nat.mod_lt m hr0
    rw [em,em2]
    refine ⟨by omega,by omega,by omega,by omega,fun a ha=>⟨rfl,by omega,by omega,iteI (fun h=>absurd h (by omega)) (fun _=>⟨by omega,by omega,iteI (fun h=>absurd h (by omega)) (fun _=>⟨by omega,by omega,iteI (fun h=>absurd h (by omega)) (fun _=>?_)⟩)⟩)⟩⟩
    have hR1 : R.1=r.es:=by rw [← hR]; exact if_neg (by omega)
    have hR2 : R.2=a:=by rw [← hR]; simp only [diE]; rw [if_neg (by omega),if_pos (by omega),ha]; rfl
    refine ⟨(),Wk.trans (Wk.sealBox 5 (y:=eRoom ⟨R.1⟩) (ids:=[3]) ?_ rfl) (Wk.trans (Wk.sealBox 8 (y:=eEvent R.2) (ids:=[]) ?_ rfl) (Keep.wk (ids:=[some 0,some 1,some 5,some 8]) ?_))⟩
    ·rw [hR1]
     simp only [push_cast,zA,zB,zC,zD,zE,zF,zG,↓reduceIte,reduceCtorEq,boxTake,eRoom,eEventS]<;>rfl
    ·rw [hR2]
     simp only [push_cast,zA,zB,zC,zD,zE,zF,zG,↓reduceIte,reduceCtorEq,boxTake,killAll,eEvent,eStringS,eGrantS,hgr,List.map_append,List.map_cons,List.map_nil]<;>rfl
    ·simp only [push_cast,zA,zB,zC,zD,zE,zF,zG,↓reduceIte,reduceCtorEq,killAll,zEv]<;>trivial
   ·refine ⟨rfl,by omega,rfl,by omega,by omega,by omega,by omega,iteI (fun h=>absurd h (by omega)) (fun _=>⟨by omega,by omega,iteI (fun h=>absurd h (by omega)) (fun _=>?_)⟩)⟩
    have hR1 : R.1=r.es:=by rw [← hR]; exact if_neg (by omega)
    have hR2 : R.2 = { growE r.es r.aft b r.p with prev:=(growE r.es r.aft b r.p).prev ++ [[36,110,111,110,101]] }:=by rw [← hR]; simp only [diE]; rw [if_neg (by omega),if_neg (by omega),if_pos (by omega)]
    refine ⟨(),Wk.trans (Wk.sealBox 5 (y:=eRoom ⟨R.1⟩) (ids:=[3]) ?_ rfl) (Wk.trans (Wk.sealBox 8 (y:=eEvent R.2) (ids:=[10,7]) ?_ rfl) (Keep.wk (ids:=[some 0,some 1,some 5,some 8]) ?_))⟩
    ·rw [hR1]
     simp only [push_cast,zA,zB,zC,zD,zE,zF,zG,↓reduceIte,reduceCtorEq,boxTake,eRoom,eEventS]<;>rfl
    ·rw [hR2]
     simp only [push_cast,zA,zB,zC,zD,zE,zF,zG,↓reduceIte,reduceCtorEq,boxTake,killAll,eEvent,eStringS,eGrantS,hgr,List.map_append,List.map_cons,List.map_nil]<;>rfl
    ·simp only [push_cast,zA,zB,zC,zD,zE,zF,zG,↓reduceIte,reduceCtorEq,killAll,zEv]<;>trivial
   ·refine ⟨by omega,by omega,by omega,by omega,by omega,by omega,iteI (fun h=>absurd h (by omega)) (fun _=>?_)⟩
    have e2 : ((m:Int) % 2).toNat=m % 2:=by omega
    have hR1 : R.1=r.es.take (m % 2):=by rw [← hR]; exact if_pos (by omega)
    have hR2 : R.2=growE r.es r.aft b r.p:=by rw [← hR]; simp only [diE]; rw [if_neg (by omega),if_neg (by omega),if_neg (by omega),if_neg (by omega)]
    refine ⟨(),Wk.trans (Wk.sealBox 5 (y:=eRoom ⟨R.1⟩) (ids:=[9]) ?_ rfl) (Wk.trans (Wk.sealBox 8 (y:=eEvent R.2) (ids:=[6,7]) ?_ rfl) (Keep.wk (ids:=[some 0,some 1,some 5,some 8]) ?_))⟩
    ·rw [hR1]
     simp only [push_cast,zA,zB,zC,zD,zE,zF,zG,↓reduceIte,reduceCtorEq,boxTake,eRoom,eEventS,e2,List.map_take]<;>rfl
    ·rw [hR2]
     simp only [push_cast,zA,zB,zC,zD,zE,zF,zG,↓reduceIte,reduceCtorEq,boxTake,killAll,eEvent,eStringS,eGrantS,hgr,List.map_append,List.map_cons,List.map_nil]<;>rfl
    ·simp only [push_cast,zA,zB,zC,zD,zE,zF,zG,↓reduceIte,reduceCtorEq,killAll,zEv]<;>trivial
   ·have hR1 : R.1=r.es:=by rw [← hR]; exact if_neg (by omega)
    have hR2 : R.2=diN:=by rw [← hR]; simp only [diE]; rw [if_neg (by omega),if_neg (by omega),if_neg (by omega),if_pos (by omega)]
    refine ⟨(),Wk.trans (Wk.sealBox 5 (y:=eRoom ⟨R.1⟩) (ids:=[3]) ?_ rfl) (Wk.trans (Wk.sealBox 8 (y:=eEvent R.2) (ids:=[]) ?_ rfl) (Keep.wk (ids:=[some 0,some 1,some 5,some 8]) ?_))⟩
    ·rw [hR1]
     simp only [push_cast,zA,zB,zC,zD,zE,zF,zG,↓reduceIte,reduceCtorEq,boxTake,eRoom,eEventS]<;>rfl
    ·rw [hR2]
     simp only [push_cast,zA,zB,zC,zD,zE,zF,zG,↓reduceIte,reduceCtorEq,boxTake,killAll,eEvent,eStringS,eGrantS,hgr,List.map_append,List.map_cons,List.map_nil,diN]<;>rfl
    ·simp only [push_cast,zA,zB,zC,zD,zE,zF,zG,↓reduceIte,reduceCtorEq,killAll,zEv]<;>trivial
   ·have hR1 : R.1=r.es:=by rw [← hR]; exact if_neg (by omega)
    have hR2 : R.2=growE r.es r.aft b r.p:=by rw [← hR]; simp only [diE]; rw [if_neg (by omega),if_neg (by omega),if_neg (by omega),if_neg (by omega)]
    refine ⟨(),Wk.trans (Wk.sealBox 5 (y:=eRoom ⟨R.1⟩) (ids:=[3]) ?_ rfl) (Wk.trans (Wk.sealBox 8 (y:=eEvent R.2) (ids:=[6,7]) ?_ rfl) (Keep.wk (ids:=[some 0,some 1,some 5,some 8]) ?_))⟩
    ·rw [hR1]
     simp only [push_cast,zA,zB,zC,zD,zE,zF,zG,↓reduceIte,reduceCtorEq,boxTake,eRoom,eEventS]<;>rfl
    ·rw [hR2]
     simp only [push_cast,zA,zB,zC,zD,zE,zF,zG,↓reduceIte,reduceCtorEq,boxTake,killAll,eEvent,eStringS,eGrantS,hgr,List.map_append,List.map_cons,List.map_nil]<;>rfl
    ·simp only [push_cast,zA,zB,zC,zD,zE,zF,zG,↓reduceIte,reduceCtorEq,killAll,zEv]<;>trivial
end Go.Proofs.YtmgdkkhnjkepiaaGreat.BX
namespace Go.Proofs.YtmgdkkhnjkepiaaGreat.BX
open Nat renaming reduceEqDiff → zA, reduceLT → zB, reduceLeDiff → zC, reduceAdd → zD, reduceMul → zE, reduceSub → zF, reduceBEq → zG
set_option linter.unusedSectionVars false
set_option linter.unusedSimpArgs false
set_option linter.unusedVariables false
open Go Go.RowKit
set_option maxRecDepth 20000
set_option maxHeartbeats 400000
variable [Bd]
theorem sameEvent (e:Event) : Con P0 37 [eEvent e,eEvent e] (.t (.b true)) []:=by
 refine Con.intro (fn:=Tryz.f37) [.tmp 4] (fun i=>if i=18 then (11,[]) else if i=13 then (11,[]) else if i=8 then (11,[]) else (0,[])) mixed (by kernel_rfl) rfl (by decide) rfl (by rfl) (by kernel_rfl) ?_
 simp -implicitDefEqProofs (maxSteps:=2000000) only [push_cast,zA,zB,zC,zD,zE,zF,zG,↓reduceIte,reduceCtorEq,eEvent]
 intro _ _ _ _ _ _
 have:=Bd.lo
 have hhi:=Bd.hi
 refine WL.loop (ι:=Nat) (D:=(fun i=>if i=18 then (11,[]) else if i=13 then (11,[]) else if i=8 then (11,[]) else (0,[]))) (fun i=>i≤e.prev.length) (fun i=>⟨134,[(2,.rf 0 0),(3,.rf 1 0),(5,.t (.i .i64 i))],[.box (.t (eEvent e)),.box (.t (eEvent e))]⟩) (fun i=>e.prev.length - i) mixed (by kernel_rfl) 0 (Nat.zero_le _) (Keep.wk (ids:=[some 0,some 1]) ?_) ?_
 ·simp only [push_cast,zA,zB,zC,zD,zE,zF,zG,↓reduceIte,reduceCtorEq,eEvent,eStringS,eGrantS]<;>trivial
 intro i hi
 simp -implicitDefEqProofs (maxSteps:=2000000) only [push_cast,zA,zB,zC,zD,zE,zF,zG,↓reduceIte,reduceCtorEq,eEvent,eStringS,eGrantS]
 intro _
 refine iteI (fun h=>⟨by omega,fun a ha=>⟨by omega,fun a' ha'=>?_⟩⟩) (fun h=>?_)
 ·rw [ha] at ha'
  cases ha'
  refine iteI (fun hn=>absurd rfl hn) (fun _=>⟨by unfold inI64; omega,i + 1,by omega,by omega,Keep.wk (ids:=[some 0,some 1]) ?_⟩)
  simp only [push_cast,zA,zB,zC,zD,zE,zF,zG,↓reduceIte,reduceCtorEq,eEvent,eStringS,eGrantS]<;>trivial
 refine WL.loop (ι:=Nat) (D:=(fun i=>if i=18 then (11,[]) else if i=13 then (11,[]) else if i=8 then (11,[]) else (0,[]))) (fun i=>i≤e.auth.length) (fun i=>⟨134,[(2,.rf 0 0),(3,.rf 1 0),(6,.t (.i .i64 i))],[.box (.t (eEvent e)),.box (.t (eEvent e))]⟩) (fun i=>e.auth.length - i) mixed (by kernel_rfl) 0 (Nat.zero_le _) (Keep.wk (ids:=[some 0,some 1]) ?_) ?_
 ·simp only [push_cast,zA,zB,zC,zD,zE,zF,zG,↓reduceIte,reduceCtorEq,eEvent,eStringS,eGrantS]<;>trivial
 intro i hi
 simp -implicitDefEqProofs (maxSteps:=2000000) only [push_cast,zA,zB,zC,zD,zE,zF,zG,↓reduceIte,reduceCtorEq,eEvent,eStringS,eGrantS]
 intro _
 refine iteI (fun h=>⟨by omega,fun a ha=>⟨by omega,fun a' ha'=>?_⟩⟩) (fun h=>?_)
 ·rw [ha] at ha'
  cases ha'
  refine iteI (fun hn=>absurd rfl hn) (fun _=>⟨by unfold inI64; omega,i + 1,by omega,by omega,Keep.wk (ids:=[some 0,some 1]) ?_⟩)
  simp only [push_cast,zA,zB,zC,zD,zE,zF,zG,↓reduceIte,reduceCtorEq,eEvent,eStringS,eGrantS]<;>trivial
 refine WL.loop (ι:=Nat) (D:=(fun i=>if i=18 then (11,[]) else if i=13 then (11,[]) else if i=8 then (11,[]) else (0,[]))) (fun i=>i≤e.grants.length) (fun i=>⟨134,[(2,.rf 0 0),(3,.rf 1 0),(7,.t (.i .i64 i))],[.box (.t (eEvent e)),.box (.t (eEvent e))]⟩) (fun i=>e.grants.length - i) mixed (by kernel_rfl) 0 (Nat.zero_le _) (Keep.wk (ids:=[some 0,some 1]) ?_) ?_
 ·simp only [push_cast,zA,zB,zC,zD,zE,zF,zG,↓reduceIte,reduceCtorEq,eEvent,eStringS,eGrantS]<;>trivial
 intro i hi
 simp -implicitDefEqProofs (maxSteps:=2000000) only [push_cast,zA,zB,zC,zD,zE,zF,zG,↓reduceIte,reduceCtorEq,eEvent,eStringS,eGrantS]
 intro _
 refine iteI (fun h=>⟨by omega,fun a ha=>⟨by omega,fun a' ha'=>?_⟩⟩) (fun h=>trivial)
 rw [ha] at ha'
 cases ha'
 simp -implicitDefEqProofs (maxSteps:=2000000) only [push_cast,zA,zB,zC,zD,zE,zF,zG,↓reduceIte,reduceCtorEq,eGrant]
 refine ⟨by unfold inI64; omega,i + 1,by omega,by omega,Keep.wk (ids:=[some 0,some 1]) ?_⟩
 simp only [push_cast,zA,zB,zC,zD,zE,zF,zG,↓reduceIte,reduceCtorEq,eEvent,eStringS,eGrantS]<;>trivial
theorem implInsertT (es:List Event) (e:Event) (hB:Bd.B≤2147483648) (hf:∀ x∈es,Fine x) (he:Fine e) (hl:es.length + 1 < Bd.B) : Con P0 36 [eRoom ⟨es⟩,eEvent e] (.t (.tp [eRoom ⟨insE es e⟩,.i .i64 (codeE es e)])) [] :=
 Con.seal (ids:=[0]) (implInsert es e hB hf he hl) (by simp only [push_cast,zA,zB,zC,zD,zE,zF,zG,↓reduceIte,reduceCtorEq]<;>rfl) rfl
theorem drIns_fine (c:List UInt8) : (∀ x∈(drIns c).1,Fine x)∧Fine (drIns c).2∧(drIns c).1.length≤301:=by
 have hlo:=Bd.lo
 unfold drIns
 generalize c.take 1000=b
 unfold drB
 split
 ·refine ⟨fun x hx=>?_,?_,?_⟩
  ·rw [List.eq_of_mem_replicate hx]; refine ⟨?_,?_,?_⟩<;>simp<;>omega
  ·refine ⟨?_,?_,?_⟩<;>simp [diX]<;>omega
  ·show (List.replicate _ _).length≤_
   rw [List.length_replicate]; omega
 ·obtain ⟨j,hrs,hj0,hj⟩:=roomR_ok (b:=b) (p:=np b (np b 0)) (np_le (np_le (Nat.zero_le _)))
  have hfi:=hrs.val.fine
  have hrl:=hrs.le
  have hgl:=growE_len (es:=(roomR b (np b (np b 0))).es) (aft:=(roomR b (np b (np b 0))).aft) (b:=b) (p:=(roomR b (np b (np b 0))).p)
  have hgf:=growE_fine (es:=(roomR b (np b (np b 0))).es) (aft:=(roomR b (np b (np b 0))).aft) (b:=b) (p:=(roomR b (np b (np b 0))).p)
  generalize roomR b (np b (np b 0))=r at *
  generalize nx b 0=k
  generalize nx b (np b 0)=m
  have hdn : Fine diN:=by refine ⟨?_,?_,?_⟩<;>simp [diN]<;>omega
  refine ⟨fun x hx=>?_,?_,?_⟩
  ·refine hfi x ?_
   have hx : x∈diR k m r:=hx
   unfold diR at hx
   split at hx
   ·exact List.mem_of_mem_take hx
   ·exact hx
  ·show Fine (diE b k m r)
   unfold diE
   generalize growE r.es r.aft b r.p=g at *
   split
   ·exact spoil_fine hgl
   split
   ·cases hx : r.es[m % r.es.length]? with
    | none => exact hdn
    | some x => exact hfi x (List.mem_of_getElem? hx)
   split
   ·refine ⟨?_,hgf.2.1,hgf.2.2⟩
    simp only [List.length_append,List.length_cons,List.length_nil]; omega
   split
   ·exact hdn
   ·exact hgf
  ·show (diR k m r).length≤_
   unfold diR
   split
   ·rw [List.length_take]; omega
   ·omega
theorem insE_valid {es:List Event} {e:Event} : (codeE es e=0→roomB (insE es e)=roomB es):=fun h=>by
 unfold insE
 rw [if_pos h]
 by_cases hv : Valid es
 ·rw [room_is hv,room_is (hv.snoc h)]
 ·have h1 : roomB es=false:=by
   cases hb : roomB es with
   | false => rfl
   | true => exact absurd (room_valid hb) hv
  have h2 : roomB (es ++ [e])=false:=by
   cases hb : roomB (es ++ [e]) with
   | false => rfl
   | true =>
     have:=(room_valid hb).take (n:=es.length)
     rw [List.take_left] at this
     exact absurd this hv
  rw [h1,h2]
theorem lawFnInsert (c:List UInt8) (hB:mxs [.sl (c.map eU8)]≤1048576→Bd.B≤2147483648) : Con P0 6 [.sl (c.map eU8)] (.t (.b true)) []:=by
 refine Con.intro (fn:=Tryz.f6) [.tmp 2] (fun i=>if i=20 then (8,[]) else (0,[])) mixed (by kernel_rfl) rfl (by decide) rfl (by rfl) (by kernel_rfl) ?_
 simp -implicitDefEqProofs (maxSteps:=2000000) only [push_cast,zA,zB,zC,zD,zE,zF,zG,↓reduceIte,reduceCtorEq]
 intro hlen
 refine iteI (fun h=>trivial) (fun h=>?_)
 have hB:=hB (mxs_cons (by rw [mxCode]; omega) mxs_nil)
 have hlo:=Bd.lo
 have hhi:=Bd.hi
 have cD:=drawInsert c hB
 obtain ⟨hf,he,hl⟩:=drIns_fine c
 generalize drIns c=R at *
 obtain ⟨es,e⟩:=R
 simp only at hf he hl cD
 have cS:=specInsert es e hB hf he (by omega)
 have cI:=implInsertT es e hB hf he (by omega)
 have cR:=specRoomOk es
 have cQ:=implRoomOk es hB
 have cN:=implRoomOk (insE es e) hB
 have hiv:=insE_valid (es:=es) (e:=e)
 simp only [eRoom,insT] at cD cS cI cR cQ cN
 refine Callx.closed cD rfl rfl (.inl rfl) ?_
 simp -implicitDefEqProofs (maxSteps:=2000000) only [push_cast,zA,zB,zC,zD,zE,zF,zG,↓reduceIte,reduceCtorEq]
 refine ⟨rfl,Callx.closed cS rfl rfl (.inl rfl) ?_⟩
 simp -implicitDefEqProofs (maxSteps:=2000000) only [push_cast,zA,zB,zC,zD,zE,zF,zG,↓reduceIte,reduceCtorEq]
 refine Callx.closed cD rfl rfl (.inl rfl) ?_
 simp -implicitDefEqProofs (maxSteps:=2000000) only [push_cast,zA,zB,zC,zD,zE,zF,zG,↓reduceIte,reduceCtorEq]
 refine ⟨rfl,Callx.closed cI rfl rfl (.inl rfl) ?_⟩
 simp -implicitDefEqProofs (maxSteps:=2000000) only [push_cast,zA,zB,zC,zD,zE,zF,zG,↓reduceIte,reduceCtorEq]
 have hil : (insE es e).length=es.length + (if codeE es e=0 then 1 else 0):=by unfold insE; split<;>simp
 have hget : ∀ i,i < (insE es e).length→(insE es e)[i]? = some (if h:i < es.length then es[i] else e):=fun i hi=>by
  unfold insE at hi ⊢
  by_cases h0 : codeE es e=0
  ·rw [if_pos h0] at hi ⊢
   by_cases h1 : i < es.length
   ·rw [dif_pos h1,List.getElem?_append_left h1,List.getElem?_eq_getElem h1]
   ·rw [dif_neg h1]
    have : i=es.length:=by simp at hi; omega
    subst this
    rw [List.getElem?_append_right (Nat.le_refl _),Nat.sub_self]; rfl
  ·rw [if_neg h0] at hi ⊢
   rw [dif_pos hi,List.getElem?_eq_getElem hi]
 generalize insE es e=ns at *
 generalize codeE es e=w at *
 have cE:=sameEvent
 intro _
 refine iteI (fun h0=>⟨by unfold inI64; omega,fun _=>iteI (fun hn=>absurd (by rw [hil,if_pos h0]; omega) hn) (fun hn=>?_)⟩) (fun h0=>fun _=>iteI (fun hn=>absurd (by rw [hil,if_neg h0]; omega) hn) (fun hn=>?_))
 all_goals
  refine WL.loop (ι:=Nat) (D:=(fun i=>if i=20 then (8,[]) else (0,[]))) (fun n=>n≤ns.length) (fun n=>⟨95,[(2,.t (.b false)),(3,.rf 0 0),(4,.rf 1 0),(6,.t (.i .i64 w)),(7,.rf 3 0),(9,.rf 5 0),(11,.t (.i .i64 ns.length)),(12,.t (.i .i64 n))],[.box (.t (eRoom ⟨es⟩)),.box (.t (eEvent e)),.box (.t (eRoom ⟨ns⟩)),.box (.t (eRoom ⟨es⟩)),.box (.t (eEvent e)),.box (.t (eRoom ⟨ns⟩))]⟩) (fun n=>ns.length - n) mixed (by kernel_rfl) 0 (Nat.zero_le _) (Keep.wk (ids:=[some 0,some 1,some 2,some 3,some 4,some 5]) ?_) ?_
  ·have hn : (ns.length : Int)=_:=Classical.not_not.1 hn
   simp only [push_cast,zA,zB,zC,zD,zE,zF,zG,↓reduceIte,reduceCtorEq,eRoom,hn]<;>trivial
  intro n hnl
  simp -implicitDefEqProofs (maxSteps:=2000000) only [push_cast,zA,zB,zC,zD,zE,zF,zG,↓reduceIte,reduceCtorEq,eRoom]
  refine iteI (fun h1=>⟨rfl,fun _=>iteI (fun h2=>⟨by omega,fun a ha=>⟨rfl,by omega,fun b hb=>?_⟩⟩) (fun h2=>⟨by omega,fun b hb=>?_⟩)⟩) (fun h1=>?_)
  ·have hg:=hget n (by omega)
   rw [Int.toNat_natCast] at ha hb
   rw [hb,dif_pos (by omega)] at hg
   have : b=a:=by
    have:=List.getElem?_eq_some_iff.1 ha
    obtain ⟨_,h3⟩:=this
    cases hg
    exact h3
   subst this
   refine CallV.t (cE b) (.inl rfl) ?_
   simp -implicitDefEqProofs (maxSteps:=2000000) only [push_cast,zA,zB,zC,zD,zE,zF,zG,↓reduceIte,reduceCtorEq,eRoom]
   refine ⟨by unfold inI64; omega,n + 1,by omega,by omega,Keep.wk (ids:=[some 0,some 1,some 2,some 3,some 4,some 5]) ?_⟩
   simp only [push_cast,zA,zB,zC,zD,zE,zF,zG,↓reduceIte,reduceCtorEq,eRoom]<;>trivial
  ·have hg:=hget n (by omega)
   rw [Int.toNat_natCast] at hb
   rw [hb,dif_neg (by omega)] at hg
   cases hg
   refine CallV.t (cE e) (.inl rfl) ?_
   simp -implicitDefEqProofs (maxSteps:=2000000) only [push_cast,zA,zB,zC,zD,zE,zF,zG,↓reduceIte,reduceCtorEq,eRoom]
   refine ⟨by unfold inI64; omega,n + 1,by omega,by omega,Keep.wk (ids:=[some 0,some 1,some 2,some 3,some 4,some 5]) ?_⟩
   simp only [push_cast,zA,zB,zC,zD,zE,zF,zG,↓reduceIte,reduceCtorEq,eRoom]<;>trivial
  ·refine Callx.closed cR rfl rfl (.inl rfl) ?_
   simp -implicitDefEqProofs (maxSteps:=2000000) only [push_cast,zA,zB,zC,zD,zE,zF,zG,↓reduceIte,reduceCtorEq,eRoom]
   refine Callx.closed cQ rfl rfl (.inl rfl) ?_
   simp -implicitDefEqProofs (maxSteps:=2000000) only [push_cast,zA,zB,zC,zD,zE,zF,zG,↓reduceIte,reduceCtorEq,eRoom]
   refine iteI (fun _=>trivial) (fun hw=>?_)
   rw [hiv (Classical.not_not.1 hw)] at cN
   refine Callx.closed cN rfl rfl (.inl rfl) ?_
   simp -implicitDefEqProofs (maxSteps:=2000000) only [push_cast,zA,zB,zC,zD,zE,zF,zG,↓reduceIte,reduceCtorEq,eRoom]
end Go.Proofs.YtmgdkkhnjkepiaaGreat.BX