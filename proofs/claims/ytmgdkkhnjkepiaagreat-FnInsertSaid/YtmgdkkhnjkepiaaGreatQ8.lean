/-
  Part 8 of what LFnInsert leans on: its texts, merged by a program (prune.py), with what it needs alone.
-/
import Derived.Test.YtmgdkkhnjkepiaaGreatQ7
namespace Go.Proofs.YtmgdkkhnjkepiaaGreat.BX
open Nat renaming reduceEqDiff → zA, reduceLT → zB, reduceLeDiff → zC, reduceAdd → zD, reduceMul → zE, reduceSub → zF, reduceBEq → zG
set_option linter.unusedSectionVars false
set_option linter.unusedSimpArgs false
set_option linter.unusedVariables false
open Go Go.RowKit
set_option maxRecDepth 20000
set_option maxHeartbeats 400000
def letters : List UInt8:=[113,119,101,114,116,121,117,105,111,112,97,115,100,102]
def tmG (k:Nat) : Int:=100 + (k:Int) % 7
def letterL (i:Nat) : List UInt8:=(letters.take (i + 1)).drop i
def newE (n k:Nat) : Event:=⟨36 :: (letterL ((k + n) % 14) ++ decT n),userT (k / 4 % 16 % 5),[],false,[],tmG k,[],[],[],[]⟩
def cntG (k:Nat) : Nat:=if 5≤k % 8 then 2 + k % 8 / 7 else 1
def posG (n k i:Nat) : Nat:=if k % 3=0 then n - 1 - i % n else n - 1 - (k / 8 % 4 + i * 3) % n
def idG (es:List Event) (p:Nat) : List UInt8:=((es[p]?).map Event.id).getD []
def prevG (es:List Event) (after:List (List Entry)) (k:Nat) : Nat→List (List UInt8) × List (List Entry)
 | 0 => ([],[])
 | i + 1 => if idG es (posG es.length k i)∈(prevG es after k i).1 then prevG es after k i else ((prevG es after k i).1 ++ [idG es (posG es.length k i)],(prevG es after k i).2 ++ [(after[posG es.length k i]?).getD []])
noncomputable def authG (s:List Entry) (ks:List Slot) : List (List UInt8):=ks.filterMap fun x=>if fOk s x.typ x.key=true then some (fId s x.typ x.key) else none
def auth2 (es:List Event) (k:Nat) (a:List (List UInt8)) : List (List UInt8):=if a=[] ∨ k % 32=31 then [idG es 0] else a
def auth3 (es:List Event) (k:Nat) (a:List (List UInt8)) : List (List UInt8):=if k % 16=7∧idG es (es.length - 1) ∉ a then a ++ [idG es (es.length - 1)] else a
def bodyG (es:List Event) (after:List (List Entry)) (b:List UInt8) (p:Nat) : Event × Nat:=contE b (np b p) { newE es.length (nx b p) with prev:=(prevG es after (nx b p) (cntG (nx b p))).1 }
noncomputable def authL (es:List Event) (after:List (List Entry)) (b:List UInt8) (p:Nat) : List (List UInt8):=auth3 es (nx b p) (auth2 es (nx b p) (authG (resR es (prevG es after (nx b p) (cntG (nx b p))).2) (needOf (bodyG es after b p).1)))
noncomputable def growE (es:List Event) (after:List (List Entry)) (b:List UInt8) (p:Nat) : Event:={ (bodyG es after b p).1 with auth:=authL es after b p }
theorem cntG_le {k:Nat} : 1≤cntG k∧cntG k≤3:=by
 unfold cntG
 split<;>omega
theorem posG_lt {n k i:Nat} (h:0 < n) : posG n k i < n:=by
 unfold posG
 split<;>omega
theorem prevG_len {es:List Event} {after:List (List Entry)} {k:Nat} : ∀ {i:Nat},(prevG es after k i).1.length≤i∧(prevG es after k i).2.length=(prevG es after k i).1.length
 | 0 => ⟨Nat.le_refl _,rfl⟩
 | i + 1 => by
   have h:=prevG_len (es:=es) (after:=after) (k:=k) (i:=i)
   unfold prevG
   split
   ·omega
   ·simp only [List.length_append,List.length_singleton]; omega
theorem contE_auth {b:List UInt8} {p:Nat} {e:Event} : (contE b p e).1.auth=e.auth:=by
 unfold contE
 repeat' split
 all_goals rfl
theorem contE_prev {b:List UInt8} {p:Nat} {e:Event} : (contE b p e).1.prev=e.prev:=by
 unfold contE
 repeat' split
 all_goals rfl
theorem contE_gr {b:List UInt8} {p:Nat} {e:Event} (h:e.grants.length≤11) : (contE b p e).1.grants.length≤11:=by
 unfold contE
 repeat' split
 all_goals first | exact grL_len | exact h
theorem contE_p {b:List UInt8} {p:Nat} {e:Event} (h:p≤b.length) : (contE b p e).2≤b.length:=by
 unfold contE
 repeat' split
 all_goals first | exact grL_p (np_le h) | exact np_le h
variable [Bd]
abbrev evX (e:Event) (x:AV) : AV:=.ag [.t (.s e.id),.t (.s e.sender),.t (.s e.typ),.t (.b e.isState),.t (.s e.key),.t (.i .i64 e.time),.t (eStringS e.prev),x,.t (.s e.value),.t (eGrantS e.grants)]
def auA : List (List UInt8)→AV
 | [] => .ns
 | _ :: _ => .sr 9
def auO : List (List UInt8)→Ob
 | [] => .dead
 | x :: l => .arr 9 1 (.own .leaf) (T.s x :: l.map T.s)
abbrev nwA (n k:Nat) (x:AV) : AV:=.ag [.t (.s (newE n k).id),.t (.s (newE n k).sender),.t (.s []),.t (.b false),.t (.s []),.t (.i .i64 (tmG k)),x,.ns,.t (.s []),.ns]
def pvA : Nat→AV
 | 0 => .ns
 | _ + 1 => .sr 7
def pvO (l:List (List UInt8)) : Nat→Ob
 | 0 => .dead
 | _ + 1 => .arr 9 1 (.own .leaf) (l.map T.s)
abbrev rmO (es:List Event) : Ob:=.arr 42 10 .clo (es.map eEvent)
abbrev afO (after:List (List Entry)) : Ob:=.arr 38 1 .clo (after.map eEntryS)
theorem l2Grow (es:List Event) (after:List (List Entry)) (b:List UInt8) (p:Nat) (hB:Bd.B≤2147483648) (hb:b.length≤1000) (hp:p≤b.length) (hn:0 < es.length) (hm:es.length≤300) (hl:after.length=es.length) : ConM P0 87 [.rf 0 0,.ag [.sr 1],.sr 2] [rdO b p,rmO es,afO after] (.t (eEvent (growE es after b p))) [rdO b (bodyG es after b p).2,rmO es,afO after]:=by
 refine ConM.intro (fn:=Tryz.f87) [.cell 6 42] (fun i=>if i=1000030 then (999999,[]) else if i=1000028 then (999999,[]) else if i=17 then (999999,[]) else if i=1000014 then (999999,[]) else if i=1000007 then (999999,[]) else if i=29 then (10,[(false,0),(false,1),(false,2),(false,3),(false,4),(false,5),(false,6),(false,7),(false,8),(true,9)]) else if i=28 then (16,[]) else if i=23 then (17,[]) else if i=15 then (9,[(false,0),(false,1),(false,2),(false,3),(false,4),(false,5),(false,6),(false,7),(true,8)]) else if i=14 then (10,[]) else if i=3 then (24,[(false,0),(false,1),(false,2),(false,3),(false,4),(false,5),(false,6),(false,7),(false,8),(false,9),(false,10),(false,11),(false,12),(false,13),(false,14),(false,15),(false,16),(false,17),(false,18),(false,19),(false,20),(false,21),(false,22),(true,23)]) else (0,[])) mixed (by kernel_rfl) rfl (by decide) rfl (by rfl) (by kernel_rfl) ?_
 simp -implicitDefEqProofs (maxSteps:=2000000) only [push_cast,zA,zB,zC,zD,zE,zF,zG,↓reduceIte,reduceCtorEq]
 have:=Bd.lo
 have hhi:=Bd.hi
 intro _
 refine Callx.hand [0] (rdNext b p hb hp) (by decide) (by simp only [push_cast,zA,zB,zC,zD,zE,zF,zG,↓reduceIte,reduceCtorEq]) rfl rfl (by simp only [push_cast,zA,zB,zC,zD,zE,zF,zG,↓reduceIte,reduceCtorEq]<;>rfl) rfl (.inr ⟨rfl,by simp only [push_cast,zA,zB,zC,zD,zE,zF,zG,↓reduceIte,reduceCtorEq]⟩) ?_
 simp -implicitDefEqProofs (maxSteps:=2000000) only [push_cast,zA,zB,zC,zD,zE,zF,zG,↓reduceIte,reduceCtorEq]
 have hk:=nx_lt (b:=b) (p:=p)
 have hq:=np_le hp
 obtain ⟨k,hke⟩ : ∃ k,nx b p=k:=⟨_,rfl⟩
 rw [hke] at hk ⊢
 have h64 : inI64 ((k:Int) + es.length):=by unfold inI64; omega
 have e1 : (((k:Int) + es.length) % 14).toNat=(k + es.length) % 14:=by omega
 have e2 : (((k:Int) + es.length) % 14 + 1).toNat=(k + es.length) % 14 + 1:=by omega
 have hll : (letterL ((k + es.length) % 14)).length=1:=by
  unfold letterL
  rw [List.length_drop,List.length_take]
  have : letters.length=14:=rfl
  omega
 rw [e1,e2,show List.drop ((k + es.length) % 14) (List.take ((k + es.length) % 14 + 1) [113,119,101,114,116,121,117,105,111,112,97,115,100,102])=letterL ((k + es.length) % 14) from rfl]
 refine ⟨h64,by omega,by omega,h64,by omega,by omega,by unfold inI64; omega,by omega,by omega,?_⟩
 refine CallV.t (l1Dec es.length (by omega)) (.inl rfl) ?_
 simp -implicitDefEqProofs (maxSteps:=2000000) only [push_cast,zA,zB,zC,zD,zE,zF,zG,↓reduceIte,reduceCtorEq]
 have hdl:=decT_len es.length 15 (by omega)
 have hk64 : inI64 (k:Int):=by unfold inI64; omega
 have e5 : (k:Int) / 4 % 16 % 5=((k / 4 % 16 % 5 : Nat) : Int):=by simp
 rw [e5]
 refine ⟨by omega,by omega,by omega,hk64,by omega,by omega,by omega,by omega,?_⟩
 refine CallV.t (l1User (k / 4 % 16 % 5) (by omega)) (.inl rfl) ?_
 simp -implicitDefEqProofs (maxSteps:=2000000) only [push_cast,zA,zB,zC,zD,zE,zF,zG,↓reduceIte,reduceCtorEq]
 refine ⟨by omega,by omega,by unfold inI64; omega,?_⟩
 refine W.join (ι:=Unit) (D:=(fun i=>if i=1000030 then (999999,[]) else if i=1000028 then (999999,[]) else if i=17 then (999999,[]) else if i=1000014 then (999999,[]) else if i=1000007 then (999999,[]) else if i=29 then (10,[(false,0),(false,1),(false,2),(false,3),(false,4),(false,5),(false,6),(false,7),(false,8),(true,9)]) else if i=28 then (16,[]) else if i=23 then (17,[]) else if i=15 then (9,[(false,0),(false,1),(false,2),(false,3),(false,4),(false,5),(false,6),(false,7),(true,8)]) else if i=14 then (10,[]) else if i=3 then (24,[(false,0),(false,1),(false,2),(false,3),(false,4),(false,5),(false,6),(false,7),(false,8),(false,9),(false,10),(false,11),(false,12),(false,13),(false,14),(false,15),(false,16),(false,17),(false,18),(false,19),(false,20),(false,21),(false,22),(true,23)]) else (0,[]))) (fun _=>True) (fun _=>⟨193,[(0,.rf 0 0),(2,.sr 2),(4,.rf 3 0),(6,.rf 4 0),(7,.t (.i .i64 es.length)),(8,.t (.i .i64 k)),(9,.rf 5 0),(10,.t (.i .i64 (cntG k)))],[rdO b (np b p),rmO es,afO after,.box (.ag [.sr 1]),.box zEv,.box (nwA es.length k .ns)]⟩) mixed (by kernel_rfl) ?_ (fun _ _=>?_)
 ·simp -implicitDefEqProofs (maxSteps:=2000000) only [push_cast,zA,zB,zC,zD,zE,zF,zG,↓reduceIte,reduceCtorEq]
  refine ⟨by omega,by omega,iteI (fun h=>?_) (fun h=>?_)⟩
  ·have hcn : ((cntG k:Nat) : Int)=2 + (k:Int) % 8 / 7:=by rw [show cntG k=2 + k % 8 / 7 from if_pos (by omega)]; omega
   refine ⟨by omega,by omega,by omega,by omega,by unfold inI64; omega,by unfold inI64; omega,(),Keep.wk (ids:=[some 0,some 1,some 2,some 3,some 4,some 5]) ?_⟩
   simp only [push_cast,zA,zB,zC,zD,zE,zF,zG,↓reduceIte,reduceCtorEq,hcn,zEv,nwA,newE,userT,tmG]<;>rfl
  ·have hcn : ((cntG k:Nat) : Int)=1:=by rw [show cntG k=1 from if_neg (by omega)]; rfl
   refine ⟨(),Keep.wk (ids:=[some 0,some 1,some 2,some 3,some 4,some 5]) ?_⟩
   simp only [push_cast,zA,zB,zC,zD,zE,zF,zG,↓reduceIte,reduceCtorEq,hcn,zEv,nwA,newE,userT,tmG]<;>rfl
 simp -implicitDefEqProofs (maxSteps:=2000000) only [push_cast,zA,zB,zC,zD,zE,zF,zG,↓reduceIte,reduceCtorEq]
 have hcl:=cntG_le (k:=k)
 refine ⟨rfl,by omega,?_⟩
 refine WL.loop (ι:=Nat) (D:=(fun i=>if i=1000030 then (999999,[]) else if i=1000028 then (999999,[]) else if i=17 then (999999,[]) else if i=1000014 then (999999,[]) else if i=1000007 then (999999,[]) else if i=29 then (10,[(false,0),(false,1),(false,2),(false,3),(false,4),(false,5),(false,6),(false,7),(false,8),(true,9)]) else if i=28 then (16,[]) else if i=23 then (17,[]) else if i=15 then (9,[(false,0),(false,1),(false,2),(false,3),(false,4),(false,5),(false,6),(false,7),(true,8)]) else if i=14 then (10,[]) else if i=3 then (24,[(false,0),(false,1),(false,2),(false,3),(false,4),(false,5),(false,6),(false,7),(false,8),(false,9),(false,10),(false,11),(false,12),(false,13),(false,14),(false,15),(false,16),(false,17),(false,18),(false,19),(false,20),(false,21),(false,22),(true,23)]) else (0,[]))) (fun i=>i≤cntG k) (fun i=>⟨193,[(0,.rf 0 0),(2,.sr 2),(4,.rf 3 0),(6,.rf 4 0),(7,.t (.i .i64 es.length)),(8,.t (.i .i64 k)),(9,.rf 5 0),(10,.t (.i .i64 (cntG k))),(11,.sr 6),(12,.t (.i .i64 i))],[rdO b (np b p),rmO es,afO after,.box (.ag [.sr 1]),.box zEv,.box (nwA es.length k (pvA i)),afO (prevG es after k i).2,pvO (prevG es after k i).1 i]⟩) (fun i=>cntG k - i) mixed (by kernel_rfl) 0 (by omega) (Wk.trans (Wk.clo 6 rfl) (Keep.wk (ids:=[some 0,some 1,some 2,some 3,some 4,some 5,some 6,none]) ?_)) ?_
 ·simp only [push_cast,zA,zB,zC,zD,zE,zF,zG,↓reduceIte,reduceCtorEq,zEv,nwA,pvA,pvO,prevG,List.map_nil]<;>trivial
 intro i hi
 generalize hpn : posG es.length k i=m
 have hmn : m < es.length:=by rw [← hpn]; exact posG_lt hn
 have hpl:=prevG_len (es:=es) (after:=after) (k:=k) (i:=i)
 simp -implicitDefEqProofs (maxSteps:=2000000) only [push_cast,zA,zB,zC,zD,zE,zF,zG,↓reduceIte,reduceCtorEq]
 have hz : ((k:Int) / 8 % 4 + i * 3) % es.length=(((k / 8 % 4 + i * 3) % es.length : Nat) : Int):=by simp
 have hz2 : ((i:Int) % es.length)=((i % es.length : Nat) : Int):=by simp
 have hzl:=Nat.mod_lt (k / 8 % 4 + i * 3) hn
 have hzl2:=Nat.mod_lt i hn
 rw [hz]
 refine iteI (fun h=>?_) (fun h=>?_)
 ·refine ⟨by unfold inI64; omega,by omega,by omega,hk64,by omega,by omega,by unfold inI64; omega,by unfold inI64; omega,by omega,by omega,by unfold inI64; omega,?_⟩
  refine W.join (ι:=Unit) (D:=(fun i=>if i=1000030 then (999999,[]) else if i=1000028 then (999999,[]) else if i=17 then (999999,[]) else if i=1000014 then (999999,[]) else if i=1000007 then (999999,[]) else if i=29 then (10,[(false,0),(false,1),(false,2),(false,3),(false,4),(false,5),(false,6),(false,7),(false,8),(true,9)]) else if i=28 then (16,[]) else if i=23 then (17,[]) else if i=15 then (9,[(false,0),(false,1),(false,2),(false,3),(false,4),(false,5),(false,6),(false,7),(true,8)]) else if i=14 then (10,[]) else if i=3 then (24,[(false,0),(false,1),(false,2),(false,3),(false,4),(false,5),(false,6),(false,7),(false,8),(false,9),(false,10),(false,11),(false,12),(false,13),(false,14),(false,15),(false,16),(false,17),(false,18),(false,19),(false,20),(false,21),(false,22),(true,23)]) else (0,[]))) (fun _=>True) (fun _=>⟨193,[(0,.rf 0 0),(2,.sr 2),(4,.rf 3 0),(6,.rf 4 0),(7,.t (.i .i64 es.length)),(8,.t (.i .i64 k)),(9,.rf 5 0),(10,.t (.i .i64 (cntG k))),(11,.sr 6),(12,.t (.i .i64 i)),(13,.t (.i .i64 m))],[rdO b (np b p),rmO es,afO after,.box (.ag [.sr 1]),.box zEv,.box (nwA es.length k (pvA i)),afO (prevG es after k i).2,pvO (prevG es after k i).1 i]⟩) mixed (by kernel_rfl) ?_ (fun _ _=>?_)
  ·simp -implicitDefEqProofs (maxSteps:=2000000) only [push_cast,zA,zB,zC,zD,zE,zF,zG,↓reduceIte,reduceCtorEq]
   rw [hz2]
   refine ⟨by omega,by omega,iteI (fun h3=>?_) (fun h3=>?_)⟩
   ·have hmz : (m:Int)=(es.length : Int) - 1 - ((i % es.length : Nat) : Int):=by
     rw [← hpn,show posG es.length k i=es.length - 1 - i % es.length from if_pos (by omega)]; omega
    refine ⟨by unfold inI64; omega,by omega,by omega,by unfold inI64; omega,(),Keep.wk (ids:=[some 0,some 1,some 2,some 3,some 4,some 5,some 6,some 7]) ?_⟩
    simp only [push_cast,zA,zB,zC,zD,zE,zF,zG,↓reduceIte,reduceCtorEq,hmz]
    cases i<;>simp only [push_cast,zA,zB,zC,zD,zE,zF,zG,↓reduceIte,reduceCtorEq,pvA,pvO]<;>trivial
   ·have hmz : (m:Int)=(es.length : Int) - 1 - (((k / 8 % 4 + i * 3) % es.length : Nat) : Int):=by
     rw [← hpn,show posG es.length k i=es.length - 1 - (k / 8 % 4 + i * 3) % es.length from if_neg (by omega)]; omega
    refine ⟨(),Keep.wk (ids:=[some 0,some 1,some 2,some 3,some 4,some 5,some 6,some 7]) ?_⟩
    simp only [push_cast,zA,zB,zC,zD,zE,zF,zG,↓reduceIte,reduceCtorEq,hmz]
    cases i<;>simp only [push_cast,zA,zB,zC,zD,zE,zF,zG,↓reduceIte,reduceCtorEq,pvA,pvO]<;>trivial
  obtain ⟨em,hem⟩ : ∃ e,es[m]? = some e:=⟨_,List.getElem?_eq_getElem hmn⟩
  obtain ⟨am,ham⟩ : ∃ s,after[m]? = some s:=⟨_,List.getElem?_eq_getElem (by omega)⟩
  have more : ∀ {e1 s1},es[m]? = some e1→after[m]? = some s1→idG es m ∉ (prevG es after k i).1→prevG es after k (i + 1)=((prevG es after k i).1 ++ [e1.id],(prevG es after k i).2 ++ [s1]):=fun {e1 s1} h1 h2 h3=>by
   have : prevG es after k (i + 1)=((prevG es after k i).1 ++ [idG es (posG es.length k i)],(prevG es after k i).2 ++ [(after[posG es.length k i]?).getD []]):=if_neg (by rw [hpn]; exact h3)
   rw [this,hpn,h2]
   unfold idG
   rw [h1]; rfl
  cases i with
  | zero =>
    simp only [nwA,pvA,pvO]
    simp -implicitDefEqProofs (maxSteps:=2000000) only [push_cast,zA,zB,zC,zD,zE,zF,zG,↓reduceIte,reduceCtorEq]
    refine ⟨by omega,by omega,fun e' he'=>?_⟩
    rw [Int.toNat_natCast,hem] at he'
    cases he'
    simp -implicitDefEqProofs (maxSteps:=2000000) only [push_cast,zA,zB,zC,zD,zE,zF,zG,↓reduceIte,reduceCtorEq,eEvent]
    have hH : Con P0 143 [T.sl [],T.s em.id] (.t (.b (decide (em.id∈([] : List (List UInt8)))))) []:=l1Has [] em.id
    refine CallV.t hH (.inr rfl) ?_
    simp -implicitDefEqProofs (maxSteps:=2000000) only [push_cast,zA,zB,zC,zD,zE,zF,zG,↓reduceIte,reduceCtorEq,eEvent]
    refine ⟨by omega,by omega,fun e1 he1=>⟨rfl,by omega,rfl,by omega,by omega,by omega,by omega,fun s1 hs1=>⟨rfl,by omega,rfl,by omega,by omega,by unfold inI64; omega,1,by omega,by omega,Keep.wk (ids:=[some 0,some 1,some 2,some 3,some 4,some 5,some 11,some 9]) ?_⟩⟩⟩
    rw [Int.toNat_natCast] at he1 hs1
    have hnx : prevG es after k 1=_:=more he1 hs1 (by simp [prevG])
    simp only [push_cast,zA,zB,zC,zD,zE,zF,zG,↓reduceIte,reduceCtorEq,hnx,show prevG es after k 0=([],[]) from rfl,List.map_append,List.map_cons,List.map_nil,List.nil_append]<;>first | rfl | trivial
  | succ i =>
    simp only [nwA,pvA,pvO]
    simp -implicitDefEqProofs (maxSteps:=2000000) only [push_cast,zA,zB,zC,zD,zE,zF,zG,↓reduceIte,reduceCtorEq]
    refine ⟨by omega,by omega,fun e' he'=>?_⟩
    rw [Int.toNat_natCast,hem] at he'
    cases he'
    simp -implicitDefEqProofs (maxSteps:=2000000) only [push_cast,zA,zB,zC,zD,zE,zF,zG,↓reduceIte,reduceCtorEq,eEvent]
    refine CallV.t (l1Has (prevG es after k (i + 1)).1 em.id) (.inr rfl) ?_
    simp -implicitDefEqProofs (maxSteps:=2000000) only [push_cast,zA,zB,zC,zD,zE,zF,zG,↓reduceIte,reduceCtorEq,eEvent]
    have hidm : idG es m=em.id:=by unfold idG; rw [hem]; rfl
    refine iteI (fun hx=>?_) (fun hx=>?_)
    ·refine ⟨by omega,by omega,fun e1 he1=>⟨rfl,by omega,rfl,by omega,by omega,by omega,by omega,fun s1 hs1=>⟨rfl,by omega,rfl,by omega,by omega,by unfold inI64; omega,i + 1 + 1,by omega,by omega,Keep.wk (ids:=[some 0,some 1,some 2,some 3,some 4,some 5,some 11,some 9]) ?_⟩⟩⟩
     rw [Int.toNat_natCast] at he1 hs1
     have hnx:=more he1 hs1 (by rw [hidm]; simpa using hx)
     simp only [push_cast,zA,zB,zC,zD,zE,zF,zG,↓reduceIte,reduceCtorEq,hnx,List.map_append,List.map_cons,List.map_nil]<;>first | rfl | trivial
    ·refine ⟨by unfold inI64; omega,i + 1 + 1,by omega,by omega,Keep.wk (ids:=[some 0,some 1,some 2,some 3,some 4,some 5,some 6,some 7]) ?_⟩
     have hnx : prevG es after k (i + 1 + 1)=prevG es after k (i + 1):=if_pos (by rw [hpn,hidm]; simpa using hx)
     simp only [push_cast,zA,zB,zC,zD,zE,zF,zG,↓reduceIte,reduceCtorEq,hnx]<;>first | rfl | trivial
 ·have hi : i=cntG k:=by omega
  subst hi
  obtain ⟨c,hc⟩ : ∃ c,cntG k=c + 1:=⟨cntG k - 1,by omega⟩
  have hbd : bodyG es after b p=contE b (np b p) { newE es.length k with prev:=(prevG es after k (cntG k)).1 }:=by unfold bodyG; rw [hke]
  rw [hc] at hbd hpl ⊢
  simp only [pvA,pvO]
  refine W.cut (ι:=Unit) (D:=(fun i=>if i=1000030 then (999999,[]) else if i=1000028 then (999999,[]) else if i=29 then (10,[(false,0),(false,1),(false,2),(false,3),(false,4),(false,5),(false,6),(false,7),(false,8),(true,9)]) else if i=28 then (16,[]) else if i=23 then (17,[]) else if i=15 then (9,[(false,0),(false,1),(false,2),(false,3),(false,4),(false,5),(false,6),(false,7),(true,8)]) else if i=14 then (10,[]) else if i=3 then (24,[(false,0),(false,1),(false,2),(false,3),(false,4),(false,5),(false,6),(false,7),(false,8),(false,9),(false,10),(false,11),(false,12),(false,13),(false,14),(false,15),(false,16),(false,17),(false,18),(false,19),(false,20),(false,21),(false,22),(true,23)]) else (0,[]))) (fun _=>True) (fun _=>⟨193,[(0,.rf 0 0),(2,.sr 2),(4,.rf 3 0),(6,.rf 4 0),(7,.t (.i .i64 es.length)),(8,.t (.i .i64 k)),(9,.rf 5 0),(11,.sr 6)],[rdO b (np b p),rmO es,afO after,.box (.ag [.sr 1]),.box zEv,.box (evN { newE es.length k with prev:=(prevG es after k ((c + 1))).1 }),afO (prevG es after k ((c + 1))).2]⟩) mixed (by kernel_rfl) () trivial (Wk.trans (Wk.sealBoxP 5 keep7 (ids:=[7]) (by simp only [push_cast,zA,zB,zC,zD,zE,zF,zG,↓reduceIte,reduceCtorEq,boxSeal,sealL,nwA]<;>rfl) rfl) (Keep.wk (ids:=[some 0,some 1,some 2,some 3,some 4,some 5,some 6]) ?_)) (fun _ _=>?_)
  ·simp only [push_cast,zA,zB,zC,zD,zE,zF,zG,↓reduceIte,reduceCtorEq,killAll,nwA,zEv]<;>trivial
  simp -implicitDefEqProofs (maxSteps:=2000000) only [push_cast,zA,zB,zC,zD,zE,zF,zG,↓reduceIte,reduceCtorEq]
  refine Callx.hand [0] (l1DrawContent b (np b p) { newE es.length k with prev:=(prevG es after k (c + 1)).1 } hB hb hq) (by decide) (by simp only [push_cast,zA,zB,zC,zD,zE,zF,zG,↓reduceIte,reduceCtorEq]) rfl rfl (by simp only [push_cast,zA,zB,zC,zD,zE,zF,zG,↓reduceIte,reduceCtorEq]<;>rfl) rfl (.inr ⟨rfl,by simp only [push_cast,zA,zB,zC,zD,zE,zF,zG,↓reduceIte,reduceCtorEq]⟩) ?_
  simp -implicitDefEqProofs (maxSteps:=2000000) only [push_cast,zA,zB,zC,zD,zE,zF,zG,↓reduceIte,reduceCtorEq]
  have hAu : (contE b (np b p) { newE es.length k with prev:=(prevG es after k (c + 1)).1 }).1.auth=[]:=contE_auth
  generalize contE b (np b p) { newE es.length k with prev:=(prevG es after k (c + 1)).1 }=ce at *
  obtain ⟨e2,p2⟩:=ce
  generalize hss : (prevG es after k (c + 1)).2=ss at *
  have cR:=specResolve es ss hB
  simp only [eRoom] at cR
  refine Callx.closed cR rfl rfl (.inr ⟨rfl,rfl⟩) ?_
  simp -implicitDefEqProofs (maxSteps:=2000000) only [push_cast,zA,zB,zC,zD,zE,zF,zG,↓reduceIte,reduceCtorEq]
  have cN:=specNeeded e2 hB
  simp only [eEvent,show e2.auth=[] from hAu,List.map_nil] at cN
  refine Callx.closed cN rfl rfl (.inl rfl) ?_
  simp -implicitDefEqProofs (maxSteps:=2000000) only [push_cast,zA,zB,zC,zD,zE,zF,zG,↓reduceIte,reduceCtorEq]
  have hkl:=need_len (e:=e2)
  have hgr : growE es after b p = { e2 with auth:=auth3 es k (auth2 es k (authG (resR es ss) (needOf e2))) }:=by
   unfold growE authL
   rw [hbd,hke,hc,hss]
  rw [hgr,hbd]
  clear hgr cN
  generalize needOf e2=ks at *
  generalize resR es ss=sr at *
  refine WL.loop (ι:=Nat) (D:=(fun i=>if i=1000030 then (999999,[]) else if i=1000028 then (999999,[]) else if i=29 then (10,[(false,0),(false,1),(false,2),(false,3),(false,4),(false,5),(false,6),(false,7),(false,8),(true,9)]) else if i=28 then (16,[]) else if i=23 then (17,[]) else if i=15 then (9,[(false,0),(false,1),(false,2),(false,3),(false,4),(false,5),(false,6),(false,7),(true,8)]) else if i=14 then (10,[]) else if i=3 then (24,[(false,0),(false,1),(false,2),(false,3),(false,4),(false,5),(false,6),(false,7),(false,8),(false,9),(false,10),(false,11),(false,12),(false,13),(false,14),(false,15),(false,16),(false,17),(false,18),(false,19),(false,20),(false,21),(false,22),(true,23)]) else (0,[]))) (fun j=>j≤ks.length) (fun j=>⟨193,[(0,.rf 0 0),(4,.rf 3 0),(6,.rf 4 0),(7,.t (.i .i64 es.length)),(8,.t (.i .i64 k)),(9,.rf 5 0),(14,.sr 7),(16,.sr 8),(17,.t (.i .i64 j))],[rdO b p2,rmO es,afO after,.box (.ag [.sr 1]),.box zEv,.box (evX e2 (auA (authG sr (ks.take j)))),afO ss,enO sr,slO ks,auO (authG sr (ks.take j))]⟩) (fun j=>ks.length - j) mixed (by kernel_rfl) 0 (by omega) (Keep.wk (ids:=[some 0,some 1,some 2,some 3,some 4,some 5,some 6,some 7,some 8,none]) ?_) ?_
  ·simp only [push_cast,zA,zB,zC,zD,zE,zF,zG,↓reduceIte,reduceCtorEq,authG,List.take_zero,List.filterMap_nil,auA,auO]<;>trivial
  intro j hj
  have hal : (authG sr (ks.take j)).length≤j:=by
   have:=List.length_filterMap_le (fun x:Slot=>if fOk sr x.typ x.key=true then some (fId sr x.typ x.key) else none) (ks.take j)
   rw [List.length_take] at this
   unfold authG
   omega
  simp -implicitDefEqProofs (maxSteps:=2000000) only [push_cast,zA,zB,zC,zD,zE,zF,zG,↓reduceIte,reduceCtorEq,eSlot]
  intro _
  refine iteI (fun h1=>⟨by omega,by omega,fun q hq=>⟨by omega,by omega,fun q' hq'=>?_⟩⟩) (fun h1=>?_)
  ·rw [Int.toNat_natCast] at hq hq'
   rw [hq] at hq'
   cases hq'
   refine CallV.t (specFind sr q.typ q.key) (.inr rfl) ?_
   simp -implicitDefEqProofs (maxSteps:=2000000) only [push_cast,zA,zB,zC,zD,zE,zF,zG,↓reduceIte,reduceCtorEq,eSlot]
   have hsn : authG sr (ks.take (j + 1))=authG sr (ks.take j) ++ (if fOk sr q.typ q.key=true then [fId sr q.typ q.key] else []):=by
    unfold authG
    rw [List.take_add_one,hq,List.filterMap_append]
    simp only [Option.toList_some,List.filterMap_cons,List.filterMap_nil]
    split<;>simp_all
   refine iteI (fun h2=>⟨rfl,by omega,?_⟩) (fun h2=>?_)
   ·rw [if_pos h2] at hsn
    rcases ha : authG sr (ks.take j) with _ | ⟨x,l⟩
    ·rw [ha] at hsn hal
     simp only [auA,auO]
     simp -implicitDefEqProofs (maxSteps:=2000000) only [push_cast,zA,zB,zC,zD,zE,zF,zG,↓reduceIte,reduceCtorEq]
     refine ⟨rfl,by omega,by omega,by unfold inI64; omega,j + 1,by omega,by omega,Keep.wk (ids:=[some 0,some 1,some 2,some 3,some 4,some 5,some 6,some 7,some 8,some 11]) ?_⟩
     simp only [push_cast,zA,zB,zC,zD,zE,zF,zG,↓reduceIte,reduceCtorEq,hsn,List.nil_append,auA,auO]<;>trivial
    ·rw [ha] at hsn hal
     simp only [auA,auO]
     simp -implicitDefEqProofs (maxSteps:=2000000) only [push_cast,zA,zB,zC,zD,zE,zF,zG,↓reduceIte,reduceCtorEq]
     simp only [List.length_cons] at hal
     refine ⟨rfl,by omega,by omega,by unfold inI64; omega,j + 1,by omega,by omega,Keep.wk (ids:=[some 0,some 1,some 2,some 3,some 4,some 5,some 6,some 7,some 8,some 11]) ?_⟩
     simp only [push_cast,zA,zB,zC,zD,zE,zF,zG,↓reduceIte,reduceCtorEq,hsn,List.cons_append,auA,auO,List.map_append,List.map_cons,List.map_nil]<;>trivial
   ·rw [if_neg h2,List.append_nil] at hsn
    refine ⟨by unfold inI64; omega,j + 1,by omega,by omega,Keep.wk (ids:=[some 0,some 1,some 2,some 3,some 4,some 5,some 6,some 7,some 8,some 9]) ?_⟩
    rw [hsn]
    rcases ha : authG sr (ks.take j) with _ | ⟨x,l⟩<;>simp only [push_cast,zA,zB,zC,zD,zE,zF,zG,↓reduceIte,reduceCtorEq,auA,auO]<;>trivial
  ·have hj : j=ks.length:=by omega
   subst hj
   rw [List.take_length] at hal ⊢
   generalize authG sr ks=a at *
   obtain ⟨em,hem⟩ : ∃ e,es[0]? = some e:=⟨_,List.getElem?_eq_getElem hn⟩
   obtain ⟨en,hen⟩ : ∃ e,es[es.length - 1]? = some e:=⟨_,List.getElem?_eq_getElem (by omega)⟩
   have hid0 : idG es 0=em.id:=by unfold idG; rw [hem]; rfl
   have hidn : idG es (es.length - 1)=en.id:=by unfold idG; rw [hen]; rfl
   refine W.join (ι:=Unit) (D:=(fun i=>if i=1000030 then (999999,[]) else if i=29 then (10,[(false,0),(false,1),(false,2),(false,3),(false,4),(false,5),(false,6),(false,7),(false,8),(true,9)]) else if i=28 then (16,[]) else if i=23 then (17,[]) else if i=15 then (9,[(false,0),(false,1),(false,2),(false,3),(false,4),(false,5),(false,6),(false,7),(true,8)]) else if i=14 then (10,[]) else if i=3 then (24,[(false,0),(false,1),(false,2),(false,3),(false,4),(false,5),(false,6),(false,7),(false,8),(false,9),(false,10),(false,11),(false,12),(false,13),(false,14),(false,15),(false,16),(false,17),(false,18),(false,19),(false,20),(false,21),(false,22),(true,23)]) else (0,[]))) (fun _=>True) (fun _=>⟨193,[(0,.rf 0 0),(4,.rf 3 0),(6,.rf 4 0),(7,.t (.i .i64 es.length)),(8,.t (.i .i64 k)),(9,.rf 5 0)],[rdO b p2,rmO es,afO after,.box (.ag [.sr 1]),.box zEv,.box (evX e2 (.sr 6)),.arr 9 1 (.own .leaf) ((auth2 es k a).map T.s)]⟩) mixed (by kernel_rfl) ?_ (fun _ _=>?_)
   ·rcases a with _ | ⟨x,l⟩
    ·simp only [auA,auO]
     simp -implicitDefEqProofs (maxSteps:=2000000) only [push_cast,zA,zB,zC,zD,zE,zF,zG,↓reduceIte,reduceCtorEq]
     refine ⟨by omega,by omega,fun e' he'=>?_⟩
     rw [show Int.toNat 0=0 from rfl,hem] at he'
     cases he'
     simp -implicitDefEqProofs (maxSteps:=2000000) only [push_cast,zA,zB,zC,zD,zE,zF,zG,↓reduceIte,reduceCtorEq,eEvent]
     refine ⟨rfl,by omega,(),Keep.wk (ids:=[some 0,some 1,some 2,some 3,some 4,some 5,some 10]) ?_⟩
     rw [show auth2 es k []=[idG es 0] from if_pos (.inl rfl),hid0]
     simp only [push_cast,zA,zB,zC,zD,zE,zF,zG,↓reduceIte,reduceCtorEq,List.map_cons,List.map_nil]<;>trivial
    ·simp only [auA,auO]
     simp -implicitDefEqProofs (maxSteps:=2000000) only [push_cast,zA,zB,zC,zD,zE,zF,zG,↓reduceIte,reduceCtorEq]
     simp only [List.length_cons] at hal
     intro _
     refine iteI (fun h1=>by omega) (fun h1=>⟨by omega,by omega,iteI (fun h2=>?_) (fun h2=>?_)⟩)
     ·refine ⟨by omega,by omega,fun e' he'=>?_⟩
      rw [show Int.toNat 0=0 from rfl,hem] at he'
      cases he'
      simp -implicitDefEqProofs (maxSteps:=2000000) only [push_cast,zA,zB,zC,zD,zE,zF,zG,↓reduceIte,reduceCtorEq,eEvent]
      refine ⟨rfl,by omega,(),Keep.wk (ids:=[some 0,some 1,some 2,some 3,some 4,some 5,some 10]) ?_⟩
      rw [show auth2 es k (x :: l)=[idG es 0] from if_pos (.inr (by omega)),hid0]
      simp only [push_cast,zA,zB,zC,zD,zE,zF,zG,↓reduceIte,reduceCtorEq,List.map_cons,List.map_nil]<;>trivial
     ·refine ⟨(),Keep.wk (ids:=[some 0,some 1,some 2,some 3,some 4,some 5,some 9]) ?_⟩
      rw [show auth2 es k (x :: l)=x :: l from if_neg (by rintro (h | h)<;>first | cases h | omega)]
      simp only [push_cast,zA,zB,zC,zD,zE,zF,zG,↓reduceIte,reduceCtorEq,List.map_cons]<;>trivial
   have ha2 : (auth2 es k a).length≤6:=by
    unfold auth2
    split
    ·simp
    ·omega
   have hau3 : auth3 es k (auth2 es k a)=auth3 es k (auth2 es k a):=rfl
   conv at hau3=>rhs; unfold auth3
   generalize auth2 es k a=a2 at *
   simp -implicitDefEqProofs (maxSteps:=2000000) only [push_cast,zA,zB,zC,zD,zE,zF,zG,↓reduceIte,reduceCtorEq]
   refine W.join (ι:=Unit) (D:=(fun i=>if i=29 then (10,[(false,0),(false,1),(false,2),(false,3),(false,4),(false,5),(false,6),(false,7),(false,8),(true,9)]) else if i=28 then (16,[]) else if i=23 then (17,[]) else if i=15 then (9,[(false,0),(false,1),(false,2),(false,3),(false,4),(false,5),(false,6),(false,7),(true,8)]) else if i=14 then (10,[]) else if i=3 then (24,[(false,0),(false,1),(false,2),(false,3),(false,4),(false,5),(false,6),(false,7),(false,8),(false,9),(false,10),(false,11),(false,12),(false,13),(false,14),(false,15),(false,16),(false,17),(false,18),(false,19),(false,20),(false,21),(false,22),(true,23)]) else (0,[]))) (fun _=>True) (fun _=>⟨193,[(6,.rf 4 0),(9,.rf 5 0)],[rdO b p2,rmO es,afO after,.dead,.box zEv,.box (.t (eEvent { e2 with auth:=auth3 es k a2 }))]⟩) mixed (by kernel_rfl) ?_ (fun _ _=>?_)
   ·simp -implicitDefEqProofs (maxSteps:=2000000) only [push_cast,zA,zB,zC,zD,zE,zF,zG,↓reduceIte,reduceCtorEq]
    have el : ((es.length : Int) - 1).toNat=es.length - 1:=by omega
    refine ⟨by omega,by omega,iteI (fun h1=>⟨by unfold inI64; omega,⟨by omega,by omega⟩,by omega,fun e' he'=>?_⟩) (fun h1=>?_)⟩
    ·rw [el,hen] at he'
     cases he'
     simp -implicitDefEqProofs (maxSteps:=2000000) only [push_cast,zA,zB,zC,zD,zE,zF,zG,↓reduceIte,reduceCtorEq,eEvent]
     refine CallV.t (l1Has a2 en.id) (.inr rfl) ?_
     simp -implicitDefEqProofs (maxSteps:=2000000) only [push_cast,zA,zB,zC,zD,zE,zF,zG,↓reduceIte,reduceCtorEq,eEvent]
     refine iteI (fun h2=>⟨by unfold inI64; omega,⟨by omega,by omega⟩,by omega,fun e' he'=>?_⟩) (fun h2=>?_)
     ·rw [el,hen] at he'
      cases he'
      rw [if_pos ⟨by omega,by rw [hidn]; simpa using h2⟩] at hau3
      refine ⟨rfl,by omega,rfl,by omega,by omega,(),Wk.trans (Wk.sealBox 5 (y:=eEvent { e2 with auth:=auth3 es k a2 }) (ids:=[8]) ?_ rfl) (Keep.wk (ids:=[some 0,some 1,some 2,none,some 4,some 5]) ?_)⟩
      ·rw [hau3,hidn]
       simp only [push_cast,zA,zB,zC,zD,zE,zF,zG,↓reduceIte,reduceCtorEq,boxTake,eEvent,eStringS,List.map_append,List.map_cons,List.map_nil]<;>rfl
      ·simp only [push_cast,zA,zB,zC,zD,zE,zF,zG,↓reduceIte,reduceCtorEq,killAll]<;>trivial
     ·rw [if_neg (by rintro ⟨_,h⟩; rw [hidn] at h; simp_all)] at hau3
      refine ⟨(),Wk.trans (Wk.sealBox 5 (y:=eEvent { e2 with auth:=auth3 es k a2 }) (ids:=[6]) ?_ rfl) (Keep.wk (ids:=[some 0,some 1,some 2,none,some 4,some 5]) ?_)⟩
      ·rw [hau3]
       simp only [push_cast,zA,zB,zC,zD,zE,zF,zG,↓reduceIte,reduceCtorEq,boxTake]<;>rfl
      ·simp only [push_cast,zA,zB,zC,zD,zE,zF,zG,↓reduceIte,reduceCtorEq,killAll]<;>trivial
    ·rw [if_neg (by rintro ⟨h,_⟩; omega)] at hau3
     refine ⟨(),Wk.trans (Wk.sealBox 5 (y:=eEvent { e2 with auth:=auth3 es k a2 }) (ids:=[6]) ?_ rfl) (Keep.wk (ids:=[some 0,some 1,some 2,none,some 4,some 5]) ?_)⟩
     ·rw [hau3]
      simp only [push_cast,zA,zB,zC,zD,zE,zF,zG,↓reduceIte,reduceCtorEq,boxTake]<;>rfl
     ·simp only [push_cast,zA,zB,zC,zD,zE,zF,zG,↓reduceIte,reduceCtorEq,killAll]<;>trivial
   simp -implicitDefEqProofs (maxSteps:=2000000) only [push_cast,zA,zB,zC,zD,zE,zF,zG,↓reduceIte,reduceCtorEq]
   exact ⟨rfl,Rest.of [some 0,some 1,some 2] rfl rfl (by simp only [push_cast,zA,zB,zC,zD,zE,zF,zG,↓reduceIte,reduceCtorEq]<;>first | rfl | trivial)⟩
end Go.Proofs.YtmgdkkhnjkepiaaGreat.BX
namespace Go.Proofs.YtmgdkkhnjkepiaaGreat.BX
open Nat renaming reduceEqDiff → zA, reduceLT → zB, reduceLeDiff → zC, reduceAdd → zD, reduceMul → zE, reduceSub → zF, reduceBEq → zG
set_option linter.unusedSectionVars false
set_option linter.unusedSimpArgs false
set_option linter.unusedVariables false
open Go Go.RowKit
set_option maxRecDepth 20000
set_option maxHeartbeats 400000
variable [Bd]
abbrev evO (e:Event) (g:AV) : AV:=.ag [.t (.s e.id),.t (.s e.sender),.t (.s e.typ),.t (.b e.isState),.t (.s e.key),.t (.i .i64 e.time),.sr 1,.ns,.t (.s e.value),g]
abbrev stO (l:List (List UInt8)) : Ob:=.arr 9 1 (.own .leaf) (l.map T.s)
theorem l1DrawContentO (b:List UInt8) (p:Nat) (e:Event) (hB:Bd.B≤2147483648) (hb:b.length≤1000) (hp:p≤b.length) (hpw:nx b p % 8≠3) : ConM P0 155 [.rf 0 0,evO e .ns] [rdO b p,stO e.prev] (evO (contE b p e).1 .ns) [rdO b (contE b p e).2,stO e.prev]:=by
 refine ConM.intro (fn:=Tryz.f155) [.cell 4 42] (fun _=>(0,[])) mixed (by kernel_rfl) rfl (by decide) rfl (by rfl) (by kernel_rfl) ?_
 simp -implicitDefEqProofs (maxSteps:=2000000) only [push_cast,zA,zB,zC,zD,zE,zF,zG,↓reduceIte,reduceCtorEq,eEvent]
 have:=Bd.lo
 have hhi:=Bd.hi
 refine Callx.hand [0] (rdNext b p hb hp) (by decide) (by simp only [push_cast,zA,zB,zC,zD,zE,zF,zG,↓reduceIte,reduceCtorEq]) rfl rfl (by simp only [push_cast,zA,zB,zC,zD,zE,zF,zG,↓reduceIte,reduceCtorEq]<;>rfl) rfl (.inr ⟨rfl,by simp only [push_cast,zA,zB,zC,zD,zE,zF,zG,↓reduceIte,reduceCtorEq]⟩) ?_
 simp -implicitDefEqProofs (maxSteps:=2000000) only [push_cast,zA,zB,zC,zD,zE,zF,zG,↓reduceIte,reduceCtorEq,eEvent]
 have hk:=nx_lt (b:=b) (p:=p)
 have hq:=np_le hp
 have hc : contE b p e=contE b p e:=rfl
 conv at hc=>rhs; unfold contE
 generalize nx b p=k at *
 have e8 : (k:Int) / 8=((k / 8 : Nat) : Int):=by omega
 have e16 : (k:Int) / 16=((k / 16 : Nat) : Int):=by omega
 have h64 : inI64 (k:Int):=by unfold inI64; omega
 refine ⟨by omega,by omega,iteI (fun h1=>⟨by omega,by omega,iteI (fun h2=>⟨by omega,by omega,h64,?_⟩) (fun h2=>iteI (fun h3=>⟨by omega,by omega,h64,?_⟩) (fun h3=>?_))⟩) (fun h1=>⟨by omega,by omega,iteI (fun h4=>?_) (fun h4=>⟨by omega,by omega,iteI (fun h5=>?_) (fun h5=>⟨by omega,by omega,iteI (fun h6=>⟨by omega,by omega,iteI (fun h7=>⟨by omega,by omega,h64,?_⟩) (fun h7=>⟨by omega,by omega,h64,?_⟩)⟩) (fun h6=>?_)⟩)⟩)⟩)⟩
 iterate 2
  focus
   rw [if_pos (by omega),if_pos (by omega)] at hc
   rw [hc,e8]
   refine Callx.closed (l1User (k / 8) (by omega)) rfl rfl (.inl rfl) ?_
   simp -implicitDefEqProofs (maxSteps:=2000000) only [push_cast,zA,zB,zC,zD,zE,zF,zG,↓reduceIte,reduceCtorEq,eEvent]
   have e32 : (k:Int) / 32=((k / 32 : Nat) : Int):=by omega
   have e4 : ((k:Int) / 32 % 4).toNat=k / 32 % 4:=by omega
   rw [e4]
   refine ⟨rfl,by omega,by omega,by omega,h64,by omega,by omega,by omega,by omega,fun y hy=>?_⟩
   have hy : y = .s (([sJoin,sInvite,sLeave,sBan][k / 32 % 4]?).getD []):=by
    have h4 : k / 32 % 4=0 ∨ k / 32 % 4=1 ∨ k / 32 % 4=2 ∨ k / 32 % 4=3:=by omega
    rcases h4 with h | h | h | h<;>rw [h] at hy ⊢ <;> (cases hy; rfl)
   subst hy
   generalize ([sJoin,sInvite,sLeave,sBan][k / 32 % 4]?).getD []=v
   simp -implicitDefEqProofs (maxSteps:=2000000) only [push_cast,zA,zB,zC,zD,zE,zF,zG,↓reduceIte,reduceCtorEq,eEvent]
   exact Close.of [some 0,some 1] rfl rfl rfl (by simp only [push_cast,zA,zB,zC,zD,zE,zF,zG,↓reduceIte,reduceCtorEq]<;>first | rfl | trivial) (by simp only [push_cast,zA,zB,zC,zD,zE,zF,zG,↓reduceIte,reduceCtorEq]<;>first | rfl | trivial)
 ·rw [if_pos (by omega),if_neg (by omega)] at hc
  rw [hc]
  exact Close.of [some 0,some 1] rfl rfl rfl (by simp only [push_cast,zA,zB,zC,zD,zE,zF,zG,↓reduceIte,reduceCtorEq]<;>first | rfl | trivial) (by simp only [push_cast,zA,zB,zC,zD,zE,zF,zG,↓reduceIte,reduceCtorEq]<;>first | rfl | trivial)
 ·omega
 ·rw [if_neg (by omega),if_neg (by omega),if_pos (by omega)] at hc
  rw [hc]
  have e2 : ((k:Int) / 8 % 2).toNat=k / 8 % 2:=by omega
  rw [e2]
  refine ⟨rfl,by omega,by omega,by omega,h64,by omega,by omega,by omega,by omega,fun y hy=>?_⟩
  have hy : y = .s (([sPublic,sInvite][k / 8 % 2]?).getD []):=by
   have h4 : k / 8 % 2=0 ∨ k / 8 % 2=1:=by omega
   rcases h4 with h | h<;>rw [h] at hy ⊢ <;> (cases hy; rfl)
  subst hy
  generalize ([sPublic,sInvite][k / 8 % 2]?).getD []=v
  simp -implicitDefEqProofs (maxSteps:=2000000) only [push_cast,zA,zB,zC,zD,zE,zF,zG,↓reduceIte,reduceCtorEq,eEvent]
  exact Close.of [some 0,some 1] rfl rfl rfl (by simp only [push_cast,zA,zB,zC,zD,zE,zF,zG,↓reduceIte,reduceCtorEq]<;>first | rfl | trivial) (by simp only [push_cast,zA,zB,zC,zD,zE,zF,zG,↓reduceIte,reduceCtorEq]<;>first | rfl | trivial)
 ·rw [if_neg (by omega),if_neg (by omega),if_neg (by omega),if_pos (by omega),if_pos (by omega)] at hc
  rw [hc]
  rw [e16]
  refine Callx.closed (l1User (k / 16) (by omega)) rfl rfl (.inl rfl) ?_
  simp -implicitDefEqProofs (maxSteps:=2000000) only [push_cast,zA,zB,zC,zD,zE,zF,zG,↓reduceIte,reduceCtorEq,eEvent]
  rw [e16]
  refine ⟨by omega,by omega,h64,Callx.closed (l1Dec (k / 16) (by omega)) rfl rfl (.inl rfl) ?_⟩
  simp -implicitDefEqProofs (maxSteps:=2000000) only [push_cast,zA,zB,zC,zD,zE,zF,zG,↓reduceIte,reduceCtorEq,eEvent]
  have hl:=decT_len (k / 16) 15 (by omega)
  refine ⟨by omega,?_⟩
  exact Close.of [some 0,some 1] rfl rfl rfl (by simp only [push_cast,zA,zB,zC,zD,zE,zF,zG,↓reduceIte,reduceCtorEq]<;>first | rfl | trivial) (by simp only [push_cast,zA,zB,zC,zD,zE,zF,zG,↓reduceIte,reduceCtorEq]<;>first | rfl | trivial)
 ·rw [if_neg (by omega),if_neg (by omega),if_neg (by omega),if_pos (by omega),if_neg (by omega)] at hc
  rw [hc]
  rw [e16]
  refine Callx.closed (l1Dec (k / 16) (by omega)) rfl rfl (.inl rfl) ?_
  simp -implicitDefEqProofs (maxSteps:=2000000) only [push_cast,zA,zB,zC,zD,zE,zF,zG,↓reduceIte,reduceCtorEq,eEvent]
  have hl:=decT_len (k / 16) 15 (by omega)
  refine ⟨by omega,?_⟩
  exact Close.of [some 0,some 1] rfl rfl rfl (by simp only [push_cast,zA,zB,zC,zD,zE,zF,zG,↓reduceIte,reduceCtorEq]<;>first | rfl | trivial) (by simp only [push_cast,zA,zB,zC,zD,zE,zF,zG,↓reduceIte,reduceCtorEq]<;>first | rfl | trivial)
 ·rw [if_neg (by omega),if_neg (by omega),if_neg (by omega),if_neg (by omega)] at hc
  rw [hc]
  exact Close.of [some 0,some 1] rfl rfl rfl (by simp only [push_cast,zA,zB,zC,zD,zE,zF,zG,↓reduceIte,reduceCtorEq]<;>first | rfl | trivial) (by simp only [push_cast,zA,zB,zC,zD,zE,zF,zG,↓reduceIte,reduceCtorEq]<;>first | rfl | trivial)
theorem l1DrawContentP (b:List UInt8) (p:Nat) (e:Event) (hB:Bd.B≤2147483648) (hb:b.length≤1000) (hp:p≤b.length) (hpw:nx b p % 8=3) : ConM P0 155 [.rf 0 0,evO e .ns] [rdO b p,stO e.prev] (evO (contE b p e).1 (.sr 2)) [rdO b (contE b p e).2,stO e.prev,grO (contE b p e).1.grants]:=by
 refine ConM.intro (fn:=Tryz.f155) [.cell 4 42] (fun _=>(0,[])) mixed (by kernel_rfl) rfl (by decide) rfl (by rfl) (by kernel_rfl) ?_
 simp -implicitDefEqProofs (maxSteps:=2000000) only [push_cast,zA,zB,zC,zD,zE,zF,zG,↓reduceIte,reduceCtorEq,eEvent]
 have:=Bd.lo
 have hhi:=Bd.hi
 refine Callx.hand [0] (rdNext b p hb hp) (by decide) (by simp only [push_cast,zA,zB,zC,zD,zE,zF,zG,↓reduceIte,reduceCtorEq]) rfl rfl (by simp only [push_cast,zA,zB,zC,zD,zE,zF,zG,↓reduceIte,reduceCtorEq]<;>rfl) rfl (.inr ⟨rfl,by simp only [push_cast,zA,zB,zC,zD,zE,zF,zG,↓reduceIte,reduceCtorEq]⟩) ?_
 simp -implicitDefEqProofs (maxSteps:=2000000) only [push_cast,zA,zB,zC,zD,zE,zF,zG,↓reduceIte,reduceCtorEq,eEvent]
 have hk:=nx_lt (b:=b) (p:=p)
 have hq:=np_le hp
 have hc : contE b p e=contE b p e:=rfl
 conv at hc=>rhs; unfold contE
 generalize nx b p=k at *
 have e8 : (k:Int) / 8=((k / 8 : Nat) : Int):=by omega
 have e16 : (k:Int) / 16=((k / 16 : Nat) : Int):=by omega
 have h64 : inI64 (k:Int):=by unfold inI64; omega
 refine ⟨by omega,by omega,iteI (fun h1=>by omega) (fun h1=>⟨by omega,by omega,iteI (fun h4=>?_) (fun h4=>by omega)⟩)⟩
 rw [if_neg (by omega),if_pos (by omega)] at hc
 rw [hc]
 refine Callx.hand [0] (l1DrawGrants b (np b p) hB hb hq) (by decide) (by simp only [push_cast,zA,zB,zC,zD,zE,zF,zG,↓reduceIte,reduceCtorEq]) rfl rfl (by simp only [push_cast,zA,zB,zC,zD,zE,zF,zG,↓reduceIte,reduceCtorEq]<;>rfl) rfl (.inr ⟨rfl,by simp only [push_cast,zA,zB,zC,zD,zE,zF,zG,↓reduceIte,reduceCtorEq]⟩) ?_
 simp -implicitDefEqProofs (maxSteps:=2000000) only [push_cast,zA,zB,zC,zD,zE,zF,zG,↓reduceIte,reduceCtorEq,eEvent]
 exact Close.of [some 0,some 1,some 4] rfl rfl rfl (by simp only [push_cast,zA,zB,zC,zD,zE,zF,zG,↓reduceIte,reduceCtorEq]<;>first | rfl | trivial) (by simp only [push_cast,zA,zB,zC,zD,zE,zF,zG,↓reduceIte,reduceCtorEq]<;>first | rfl | trivial)
end Go.Proofs.YtmgdkkhnjkepiaaGreat.BX
namespace Go.Proofs.YtmgdkkhnjkepiaaGreat.BX
open Nat renaming reduceEqDiff → zA, reduceLT → zB, reduceLeDiff → zC, reduceAdd → zD, reduceMul → zE, reduceSub → zF, reduceBEq → zG
set_option linter.unusedSectionVars false
set_option linter.unusedSimpArgs false
set_option linter.unusedVariables false
open Go Go.RowKit
set_option maxRecDepth 20000
set_option maxHeartbeats 400000
theorem contE_nogr {b:List UInt8} {p:Nat} {e:Event} (h:nx b p % 8≠3) (hg:e.grants=[]:=by rfl) : (contE b p e).1.grants=[]:=by
 unfold contE
 repeat' split
 all_goals first | exact hg | (rename_i hh; exact absurd hh h)
variable [Bd]
abbrev evW (e:Event) (a p g:AV) : AV:=.ag [.t (.s e.id),.t (.s e.sender),.t (.s e.typ),.t (.b e.isState),.t (.s e.key),.t (.i .i64 e.time),p,a,.t (.s e.value),g]
theorem l2GrowO (es:List Event) (after:List (List Entry)) (b:List UInt8) (p:Nat) (hB:Bd.B≤2147483648) (hb:b.length≤1000) (hp:p≤b.length) (hn:0 < es.length) (hm:es.length≤300) (hl:after.length=es.length) (hpw:nx b (np b p) % 8≠3) : ConM P0 87 [.rf 0 0,.ag [.sr 1],.sr 2] [rdO b p,rmO es,afO after] (evW (growE es after b p) (.sr 4) (.sr 3) .ns) [rdO b (bodyG es after b p).2,rmO es,afO after,stO (growE es after b p).prev,stO (growE es after b p).auth]:=by
 refine ConM.intro (fn:=Tryz.f87) [.cell 6 42] (fun i=>if i=1000030 then (999999,[]) else if i=1000028 then (999999,[]) else if i=1000014 then (999999,[]) else if i=1000007 then (999999,[]) else if i=29 then (10,[(false,0),(false,1),(false,2),(false,3),(false,4),(false,5),(false,6),(false,7),(false,8),(true,9)]) else if i=28 then (16,[]) else if i=23 then (17,[]) else if i=15 then (9,[(false,0),(false,1),(false,2),(false,3),(false,4),(false,5),(false,6),(false,7),(true,8)]) else if i=14 then (10,[]) else if i=3 then (24,[(false,0),(false,1),(false,2),(false,3),(false,4),(false,5),(false,6),(false,7),(false,8),(false,9),(false,10),(false,11),(false,12),(false,13),(false,14),(false,15),(false,16),(false,17),(false,18),(false,19),(false,20),(false,21),(false,22),(true,23)]) else (0,[])) mixed (by kernel_rfl) rfl (by decide) rfl (by rfl) (by kernel_rfl) ?_
 simp -implicitDefEqProofs (maxSteps:=2000000) only [push_cast,zA,zB,zC,zD,zE,zF,zG,↓reduceIte,reduceCtorEq]
 have:=Bd.lo
 have hhi:=Bd.hi
 intro _
 refine Callx.hand [0] (rdNext b p hb hp) (by decide) (by simp only [push_cast,zA,zB,zC,zD,zE,zF,zG,↓reduceIte,reduceCtorEq]) rfl rfl (by simp only [push_cast,zA,zB,zC,zD,zE,zF,zG,↓reduceIte,reduceCtorEq]<;>rfl) rfl (.inr ⟨rfl,by simp only [push_cast,zA,zB,zC,zD,zE,zF,zG,↓reduceIte,reduceCtorEq]⟩) ?_
 simp -implicitDefEqProofs (maxSteps:=2000000) only [push_cast,zA,zB,zC,zD,zE,zF,zG,↓reduceIte,reduceCtorEq]
 have hk:=nx_lt (b:=b) (p:=p)
 have hq:=np_le hp
 obtain ⟨k,hke⟩ : ∃ k,nx b p=k:=⟨_,rfl⟩
 rw [hke] at hk ⊢
 have h64 : inI64 ((k:Int) + es.length):=by unfold inI64; omega
 have e1 : (((k:Int) + es.length) % 14).toNat=(k + es.length) % 14:=by omega
 have e2 : (((k:Int) + es.length) % 14 + 1).toNat=(k + es.length) % 14 + 1:=by omega
 have hll : (letterL ((k + es.length) % 14)).length=1:=by
  unfold letterL
  rw [List.length_drop,List.length_take]
  have : letters.length=14:=rfl
  omega
 rw [e1,e2,show List.drop ((k + es.length) % 14) (List.take ((k + es.length) % 14 + 1) [113,119,101,114,116,121,117,105,111,112,97,115,100,102])=letterL ((k + es.length) % 14) from rfl]
 refine ⟨h64,by omega,by omega,h64,by omega,by omega,by unfold inI64; omega,by omega,by omega,?_⟩
 refine CallV.t (l1Dec es.length (by omega)) (.inl rfl) ?_
 simp -implicitDefEqProofs (maxSteps:=2000000) only [push_cast,zA,zB,zC,zD,zE,zF,zG,↓reduceIte,reduceCtorEq]
 have hdl:=decT_len es.length 15 (by omega)
 have hk64 : inI64 (k:Int):=by unfold inI64; omega
 have e5 : (k:Int) / 4 % 16 % 5=((k / 4 % 16 % 5 : Nat) : Int):=by simp
 rw [e5]
 refine ⟨by omega,by omega,by omega,hk64,by omega,by omega,by omega,by omega,?_⟩
 refine CallV.t (l1User (k / 4 % 16 % 5) (by omega)) (.inl rfl) ?_
 simp -implicitDefEqProofs (maxSteps:=2000000) only [push_cast,zA,zB,zC,zD,zE,zF,zG,↓reduceIte,reduceCtorEq]
 refine ⟨by omega,by omega,by unfold inI64; omega,?_⟩
 refine W.join (ι:=Unit) (D:=(fun i=>if i=1000030 then (999999,[]) else if i=1000028 then (999999,[]) else if i=1000014 then (999999,[]) else if i=1000007 then (999999,[]) else if i=29 then (10,[(false,0),(false,1),(false,2),(false,3),(false,4),(false,5),(false,6),(false,7),(false,8),(true,9)]) else if i=28 then (16,[]) else if i=23 then (17,[]) else if i=15 then (9,[(false,0),(false,1),(false,2),(false,3),(false,4),(false,5),(false,6),(false,7),(true,8)]) else if i=14 then (10,[]) else if i=3 then (24,[(false,0),(false,1),(false,2),(false,3),(false,4),(false,5),(false,6),(false,7),(false,8),(false,9),(false,10),(false,11),(false,12),(false,13),(false,14),(false,15),(false,16),(false,17),(false,18),(false,19),(false,20),(false,21),(false,22),(true,23)]) else (0,[]))) (fun _=>True) (fun _=>⟨193,[(0,.rf 0 0),(2,.sr 2),(4,.rf 3 0),(6,.rf 4 0),(7,.t (.i .i64 es.length)),(8,.t (.i .i64 k)),(9,.rf 5 0),(10,.t (.i .i64 (cntG k)))],[rdO b (np b p),rmO es,afO after,.box (.ag [.sr 1]),.box zEv,.box (nwA es.length k .ns)]⟩) mixed (by kernel_rfl) ?_ (fun _ _=>?_)
 ·simp -implicitDefEqProofs (maxSteps:=2000000) only [push_cast,zA,zB,zC,zD,zE,zF,zG,↓reduceIte,reduceCtorEq]
  refine ⟨by omega,by omega,iteI (fun h=>?_) (fun h=>?_)⟩
  ·have hcn : ((cntG k:Nat) : Int)=2 + (k:Int) % 8 / 7:=by rw [show cntG k=2 + k % 8 / 7 from if_pos (by omega)]; omega
   refine ⟨by omega,by omega,by omega,by omega,by unfold inI64; omega,by unfold inI64; omega,(),Keep.wk (ids:=[some 0,some 1,some 2,some 3,some 4,some 5]) ?_⟩
   simp only [push_cast,zA,zB,zC,zD,zE,zF,zG,↓reduceIte,reduceCtorEq,hcn,zEv,nwA,newE,userT,tmG]<;>rfl
  ·have hcn : ((cntG k:Nat) : Int)=1:=by rw [show cntG k=1 from if_neg (by omega)]; rfl
   refine ⟨(),Keep.wk (ids:=[some 0,some 1,some 2,some 3,some 4,some 5]) ?_⟩
   simp only [push_cast,zA,zB,zC,zD,zE,zF,zG,↓reduceIte,reduceCtorEq,hcn,zEv,nwA,newE,userT,tmG]<;>rfl
 simp -implicitDefEqProofs (maxSteps:=2000000) only [push_cast,zA,zB,zC,zD,zE,zF,zG,↓reduceIte,reduceCtorEq]
 have hcl:=cntG_le (k:=k)
 refine ⟨rfl,by omega,?_⟩
 refine WL.loop (ι:=Nat) (D:=(fun i=>if i=1000030 then (999999,[]) else if i=1000028 then (999999,[]) else if i=1000014 then (999999,[]) else if i=1000007 then (999999,[]) else if i=29 then (10,[(false,0),(false,1),(false,2),(false,3),(false,4),(false,5),(false,6),(false,7),(false,8),(true,9)]) else if i=28 then (16,[]) else if i=23 then (17,[]) else if i=15 then (9,[(false,0),(false,1),(false,2),(false,3),(false,4),(false,5),(false,6),(false,7),(true,8)]) else if i=14 then (10,[]) else if i=3 then (24,[(false,0),(false,1),(false,2),(false,3),(false,4),(false,5),(false,6),(false,7),(false,8),(false,9),(false,10),(false,11),(false,12),(false,13),(false,14),(false,15),(false,16),(false,17),(false,18),(false,19),(false,20),(false,21),(false,22),(true,23)]) else (0,[]))) (fun i=>i≤cntG k) (fun i=>⟨193,[(0,.rf 0 0),(2,.sr 2),(4,.rf 3 0),(6,.rf 4 0),(7,.t (.i .i64 es.length)),(8,.t (.i .i64 k)),(9,.rf 5 0),(10,.t (.i .i64 (cntG k))),(11,.sr 6),(12,.t (.i .i64 i))],[rdO b (np b p),rmO es,afO after,.box (.ag [.sr 1]),.box zEv,.box (nwA es.length k (pvA i)),afO (prevG es after k i).2,pvO (prevG es after k i).1 i]⟩) (fun i=>cntG k - i) mixed (by kernel_rfl) 0 (by omega) (Wk.trans (Wk.clo 6 rfl) (Keep.wk (ids:=[some 0,some 1,some 2,some 3,some 4,some 5,some 6,none]) ?_)) ?_
 ·simp only [push_cast,zA,zB,zC,zD,zE,zF,zG,↓reduceIte,reduceCtorEq,zEv,nwA,pvA,pvO,prevG,List.map_nil]<;>trivial
 intro i hi
 generalize hpn : posG es.length k i=m
 have hmn : m < es.length:=by rw [← hpn]; exact posG_lt hn
 have hpl:=prevG_len (es:=es) (after:=after) (k:=k) (i:=i)
 simp -implicitDefEqProofs (maxSteps:=2000000) only [push_cast,zA,zB,zC,zD,zE,zF,zG,↓reduceIte,reduceCtorEq]
 have hz : ((k:Int) / 8 % 4 + i * 3) % es.length=(((k / 8 % 4 + i * 3) % es.length : Nat) : Int):=by simp
 have hz2 : ((i:Int) % es.length)=((i % es.length : Nat) : Int):=by simp
 have hzl:=Nat.mod_lt (k / 8 % 4 + i * 3) hn
 have hzl2:=Nat.mod_lt i hn
 rw [hz]
 refine iteI (fun h=>?_) (fun h=>?_)
 ·refine ⟨by unfold inI64; omega,by omega,by omega,hk64,by omega,by omega,by unfold inI64; omega,by unfold inI64; omega,by omega,by omega,by unfold inI64; omega,?_⟩
  refine W.join (ι:=Unit) (D:=(fun i=>if i=1000030 then (999999,[]) else if i=1000028 then (999999,[]) else if i=1000014 then (999999,[]) else if i=1000007 then (999999,[]) else if i=29 then (10,[(false,0),(false,1),(false,2),(false,3),(false,4),(false,5),(false,6),(false,7),(false,8),(true,9)]) else if i=28 then (16,[]) else if i=23 then (17,[]) else if i=15 then (9,[(false,0),(false,1),(false,2),(false,3),(false,4),(false,5),(false,6),(false,7),(true,8)]) else if i=14 then (10,[]) else if i=3 then (24,[(false,0),(false,1),(false,2),(false,3),(false,4),(false,5),(false,6),(false,7),(false,8),(false,9),(false,10),(false,11),(false,12),(false,13),(false,14),(false,15),(false,16),(false,17),(false,18),(false,19),(false,20),(false,21),(false,22),(true,23)]) else (0,[]))) (fun _=>True) (fun _=>⟨193,[(0,.rf 0 0),(2,.sr 2),(4,.rf 3 0),(6,.rf 4 0),(7,.t (.i .i64 es.length)),(8,.t (.i .i64 k)),(9,.rf 5 0),(10,.t (.i .i64 (cntG k))),(11,.sr 6),(12,.t (.i .i64 i)),(13,.t (.i .i64 m))],[rdO b (np b p),rmO es,afO after,.box (.ag [.sr 1]),.box zEv,.box (nwA es.length k (pvA i)),afO (prevG es after k i).2,pvO (prevG es after k i).1 i]⟩) mixed (by kernel_rfl) ?_ (fun _ _=>?_)
  ·simp -implicitDefEqProofs (maxSteps:=2000000) only [push_cast,zA,zB,zC,zD,zE,zF,zG,↓reduceIte,reduceCtorEq]
   rw [hz2]
   refine ⟨by omega,by omega,iteI (fun h3=>?_) (fun h3=>?_)⟩
   ·have hmz : (m:Int)=(es.length : Int) - 1 - ((i % es.length : Nat) : Int):=by
     rw [← hpn,show posG es.length k i=es.length - 1 - i % es.length from if_pos (by omega)]; omega
    refine ⟨by unfold inI64; omega,by omega,by omega,by unfold inI64; omega,(),Keep.wk (ids:=[some 0,some 1,some 2,some 3,some 4,some 5,some 6,some 7]) ?_⟩
    simp only [push_cast,zA,zB,zC,zD,zE,zF,zG,↓reduceIte,reduceCtorEq,hmz]
    cases i<;>simp only [push_cast,zA,zB,zC,zD,zE,zF,zG,↓reduceIte,reduceCtorEq,pvA,pvO]<;>trivial
   ·have hmz : (m:Int)=(es.length : Int) - 1 - (((k / 8 % 4 + i * 3) % es.length : Nat) : Int):=by
     rw [← hpn,show posG es.length k i=es.length - 1 - (k / 8 % 4 + i * 3) % es.length from if_neg (by omega)]; omega
    refine ⟨(),Keep.wk (ids:=[some 0,some 1,some 2,some 3,some 4,some 5,some 6,some 7]) ?_⟩
    simp only [push_cast,zA,zB,zC,zD,zE,zF,zG,↓reduceIte,reduceCtorEq,hmz]
    cases i<;>simp only [push_cast,zA,zB,zC,zD,zE,zF,zG,↓reduceIte,reduceCtorEq,pvA,pvO]<;>trivial
  obtain ⟨em,hem⟩ : ∃ e,es[m]? = some e:=⟨_,List.getElem?_eq_getElem hmn⟩
  obtain ⟨am,ham⟩ : ∃ s,after[m]? = some s:=⟨_,List.getElem?_eq_getElem (by omega)⟩
  have more : ∀ {e1 s1},es[m]? = some e1→after[m]? = some s1→idG es m ∉ (prevG es after k i).1→prevG es after k (i + 1)=((prevG es after k i).1 ++ [e1.id],(prevG es after k i).2 ++ [s1]):=fun {e1 s1} h1 h2 h3=>by
   have : prevG es after k (i + 1)=((prevG es after k i).1 ++ [idG es (posG es.length k i)],(prevG es after k i).2 ++ [(after[posG es.length k i]?).getD []]):=if_neg (by rw [hpn]; exact h3)
   rw [this,hpn,h2]
   unfold idG
   rw [h1]; rfl
  cases i with
  | zero =>
    simp only [nwA,pvA,pvO]
    simp -implicitDefEqProofs (maxSteps:=2000000) only [push_cast,zA,zB,zC,zD,zE,zF,zG,↓reduceIte,reduceCtorEq]
    refine ⟨by omega,by omega,fun e' he'=>?_⟩
    rw [Int.toNat_natCast,hem] at he'
    cases he'
    simp -implicitDefEqProofs (maxSteps:=2000000) only [push_cast,zA,zB,zC,zD,zE,zF,zG,↓reduceIte,reduceCtorEq,eEvent]
    have hH : Con P0 143 [T.sl [],T.s em.id] (.t (.b (decide (em.id∈([] : List (List UInt8)))))) []:=l1Has [] em.id
    refine CallV.t hH (.inr rfl) ?_
    simp -implicitDefEqProofs (maxSteps:=2000000) only [push_cast,zA,zB,zC,zD,zE,zF,zG,↓reduceIte,reduceCtorEq,eEvent]
    refine ⟨by omega,by omega,fun e1 he1=>⟨rfl,by omega,rfl,by omega,by omega,by omega,by omega,fun s1 hs1=>⟨rfl,by omega,rfl,by omega,by omega,by unfold inI64; omega,1,by omega,by omega,Keep.wk (ids:=[some 0,some 1,some 2,some 3,some 4,some 5,some 11,some 9]) ?_⟩⟩⟩
    rw [Int.toNat_natCast] at he1 hs1
    have hnx : prevG es after k 1=_:=more he1 hs1 (by simp [prevG])
    simp only [push_cast,zA,zB,zC,zD,zE,zF,zG,↓reduceIte,reduceCtorEq,hnx,show prevG es after k 0=([],[]) from rfl,List.map_append,List.map_cons,List.map_nil,List.nil_append]<;>first | rfl | trivial
  | succ i =>
    simp only [nwA,pvA,pvO]
    simp -implicitDefEqProofs (maxSteps:=2000000) only [push_cast,zA,zB,zC,zD,zE,zF,zG,↓reduceIte,reduceCtorEq]
    refine ⟨by omega,by omega,fun e' he'=>?_⟩
    rw [Int.toNat_natCast,hem] at he'
    cases he'
    simp -implicitDefEqProofs (maxSteps:=2000000) only [push_cast,zA,zB,zC,zD,zE,zF,zG,↓reduceIte,reduceCtorEq,eEvent]
    refine CallV.t (l1Has (prevG es after k (i + 1)).1 em.id) (.inr rfl) ?_
    simp -implicitDefEqProofs (maxSteps:=2000000) only [push_cast,zA,zB,zC,zD,zE,zF,zG,↓reduceIte,reduceCtorEq,eEvent]
    have hidm : idG es m=em.id:=by unfold idG; rw [hem]; rfl
    refine iteI (fun hx=>?_) (fun hx=>?_)
    ·refine ⟨by omega,by omega,fun e1 he1=>⟨rfl,by omega,rfl,by omega,by omega,by omega,by omega,fun s1 hs1=>⟨rfl,by omega,rfl,by omega,by omega,by unfold inI64; omega,i + 1 + 1,by omega,by omega,Keep.wk (ids:=[some 0,some 1,some 2,some 3,some 4,some 5,some 11,some 9]) ?_⟩⟩⟩
     rw [Int.toNat_natCast] at he1 hs1
     have hnx:=more he1 hs1 (by rw [hidm]; simpa using hx)
     simp only [push_cast,zA,zB,zC,zD,zE,zF,zG,↓reduceIte,reduceCtorEq,hnx,List.map_append,List.map_cons,List.map_nil]<;>first | rfl | trivial
    ·refine ⟨by unfold inI64; omega,i + 1 + 1,by omega,by omega,Keep.wk (ids:=[some 0,some 1,some 2,some 3,some 4,some 5,some 6,some 7]) ?_⟩
     have hnx : prevG es after k (i + 1 + 1)=prevG es after k (i + 1):=if_pos (by rw [hpn,hidm]; simpa using hx)
     simp only [push_cast,zA,zB,zC,zD,zE,zF,zG,↓reduceIte,reduceCtorEq,hnx]<;>first | rfl | trivial
 ·have hi : i=cntG k:=by omega
  subst hi
  obtain ⟨c,hc⟩ : ∃ c,cntG k=c + 1:=⟨cntG k - 1,by omega⟩
  have hbd : bodyG es after b p=contE b (np b p) { newE es.length k with prev:=(prevG es after k (cntG k)).1 }:=by unfold bodyG; rw [hke]
  rw [hc] at hbd hpl ⊢
  simp only [pvA,pvO]
  have hPv : (contE b (np b p) { newE es.length k with prev:=(prevG es after k (c + 1)).1 }).1.prev=(prevG es after k (c + 1)).1:=contE_prev
  have hGr : (contE b (np b p) { newE es.length k with prev:=(prevG es after k (c + 1)).1 }).1.grants=[]:=contE_nogr hpw
  have hAu : (contE b (np b p) { newE es.length k with prev:=(prevG es after k (c + 1)).1 }).1.auth=[]:=contE_auth
  have cC:=l1DrawContentO b (np b p) { newE es.length k with prev:=(prevG es after k (c + 1)).1 } hB hb hq hpw
  generalize contE b (np b p) { newE es.length k with prev:=(prevG es after k (c + 1)).1 }=ce at *
  obtain ⟨e2,p2⟩:=ce
  generalize hss : (prevG es after k (c + 1)).2=ss at *
  generalize hpp : (prevG es after k (c + 1)).1=pv at *
  simp only at hPv hAu hGr cC
  simp only [evO] at cC
  simp -implicitDefEqProofs (maxSteps:=2000000) only [push_cast,zA,zB,zC,zD,zE,zF,zG,↓reduceIte,reduceCtorEq]
  refine Callx.hand [0,7] cC (by decide) (by simp only [push_cast,zA,zB,zC,zD,zE,zF,zG,↓reduceIte,reduceCtorEq]<;>trivial) rfl rfl (by simp only [push_cast,zA,zB,zC,zD,zE,zF,zG,↓reduceIte,reduceCtorEq]<;>first | rfl | trivial) rfl (.inr ⟨rfl,by simp only [push_cast,zA,zB,zC,zD,zE,zF,zG,↓reduceIte,reduceCtorEq]<;>first | rfl | trivial⟩) ?_
  simp -implicitDefEqProofs (maxSteps:=2000000) only [push_cast,zA,zB,zC,zD,zE,zF,zG,↓reduceIte,reduceCtorEq]
  have cR:=specResolve es ss hB
  simp only [eRoom] at cR
  refine Callx.closed cR rfl rfl (.inr ⟨rfl,rfl⟩) ?_
  simp -implicitDefEqProofs (maxSteps:=2000000) only [push_cast,zA,zB,zC,zD,zE,zF,zG,↓reduceIte,reduceCtorEq]
  have cN:=specNeeded e2 hB
  simp only [eEvent,show e2.auth=[] from hAu,show e2.grants=[] from hGr,show e2.prev=pv from hPv,List.map_nil] at cN
  refine Callx.closed cN rfl rfl (.inr ⟨rfl,rfl⟩) ?_
  simp -implicitDefEqProofs (maxSteps:=2000000) only [push_cast,zA,zB,zC,zD,zE,zF,zG,↓reduceIte,reduceCtorEq]
  have hkl:=need_len (e:=e2)
  have hgr : growE es after b p = { e2 with auth:=auth3 es k (auth2 es k (authG (resR es ss) (needOf e2))) }:=by
   unfold growE authL
   rw [hbd,hke,hc,hss]
  rw [hgr,hbd]
  simp only [show e2.prev=pv from hPv]
  clear hgr cN
  generalize needOf e2=ks at *
  generalize resR es ss=sr at *
  refine WL.loop (ι:=Nat) (D:=(fun i=>if i=1000030 then (999999,[]) else if i=1000028 then (999999,[]) else if i=29 then (10,[(false,0),(false,1),(false,2),(false,3),(false,4),(false,5),(false,6),(false,7),(false,8),(true,9)]) else if i=28 then (16,[]) else if i=23 then (17,[]) else if i=15 then (9,[(false,0),(false,1),(false,2),(false,3),(false,4),(false,5),(false,6),(false,7),(true,8)]) else if i=14 then (10,[]) else if i=3 then (24,[(false,0),(false,1),(false,2),(false,3),(false,4),(false,5),(false,6),(false,7),(false,8),(false,9),(false,10),(false,11),(false,12),(false,13),(false,14),(false,15),(false,16),(false,17),(false,18),(false,19),(false,20),(false,21),(false,22),(true,23)]) else (0,[]))) (fun j=>j≤ks.length) (fun j=>⟨193,[(0,.rf 0 0),(4,.rf 3 0),(6,.rf 4 0),(7,.t (.i .i64 es.length)),(8,.t (.i .i64 k)),(9,.rf 5 0),(14,.sr 7),(16,.sr 8),(17,.t (.i .i64 j))],[rdO b p2,rmO es,afO after,.box (.ag [.sr 1]),.box zEv,.box (evW e2 (auA (authG sr (ks.take j))) (.sr 10) .ns),Ob.dead,enO sr,slO ks,auO (authG sr (ks.take j)),stO pv]⟩) (fun j=>ks.length - j) mixed (by kernel_rfl) 0 (by omega) (Keep.wk (ids:=[some 0,some 1,some 2,some 3,some 4,some 5,none,some 8,some 9,none,some 7]) ?_) ?_
  ·simp only [push_cast,zA,zB,zC,zD,zE,zF,zG,↓reduceIte,reduceCtorEq,authG,List.take_zero,List.filterMap_nil,auA,auO]<;>trivial
  intro j hj
  have hal : (authG sr (ks.take j)).length≤j:=by
   have:=List.length_filterMap_le (fun x:Slot=>if fOk sr x.typ x.key=true then some (fId sr x.typ x.key) else none) (ks.take j)
   rw [List.length_take] at this
   unfold authG
   omega
  simp -implicitDefEqProofs (maxSteps:=2000000) only [push_cast,zA,zB,zC,zD,zE,zF,zG,↓reduceIte,reduceCtorEq,eSlot]
  intro _
  refine iteI (fun h1=>⟨by omega,by omega,fun q hq=>⟨by omega,by omega,fun q' hq'=>?_⟩⟩) (fun h1=>?_)
  ·rw [Int.toNat_natCast] at hq hq'
   rw [hq] at hq'
   cases hq'
   refine CallV.t (specFind sr q.typ q.key) (.inr rfl) ?_
   simp -implicitDefEqProofs (maxSteps:=2000000) only [push_cast,zA,zB,zC,zD,zE,zF,zG,↓reduceIte,reduceCtorEq,eSlot]
   have hsn : authG sr (ks.take (j + 1))=authG sr (ks.take j) ++ (if fOk sr q.typ q.key=true then [fId sr q.typ q.key] else []):=by
    unfold authG
    rw [List.take_add_one,hq,List.filterMap_append]
    simp only [Option.toList_some,List.filterMap_cons,List.filterMap_nil]
    split<;>simp_all
   refine iteI (fun h2=>⟨rfl,by omega,?_⟩) (fun h2=>?_)
   ·rw [if_pos h2] at hsn
    rcases ha : authG sr (ks.take j) with _ | ⟨x,l⟩
    ·rw [ha] at hsn hal
     simp only [auA,auO]
     simp -implicitDefEqProofs (maxSteps:=2000000) only [push_cast,zA,zB,zC,zD,zE,zF,zG,↓reduceIte,reduceCtorEq]
     refine ⟨rfl,by omega,by omega,by unfold inI64; omega,j + 1,by omega,by omega,Keep.wk (ids:=[some 0,some 1,some 2,some 3,some 4,some 5,none,some 7,some 8,some 12,some 10]) ?_⟩
     simp only [push_cast,zA,zB,zC,zD,zE,zF,zG,↓reduceIte,reduceCtorEq,hsn,List.nil_append,auA,auO]<;>trivial
    ·rw [ha] at hsn hal
     simp only [auA,auO]
     simp -implicitDefEqProofs (maxSteps:=2000000) only [push_cast,zA,zB,zC,zD,zE,zF,zG,↓reduceIte,reduceCtorEq]
     simp only [List.length_cons] at hal
     refine ⟨rfl,by omega,by omega,by unfold inI64; omega,j + 1,by omega,by omega,Keep.wk (ids:=[some 0,some 1,some 2,some 3,some 4,some 5,none,some 7,some 8,some 12,some 10]) ?_⟩
     simp only [push_cast,zA,zB,zC,zD,zE,zF,zG,↓reduceIte,reduceCtorEq,hsn,List.cons_append,auA,auO,List.map_append,List.map_cons,List.map_nil]<;>trivial
   ·rw [if_neg h2,List.append_nil] at hsn
    refine ⟨by unfold inI64; omega,j + 1,by omega,by omega,Keep.wk (ids:=[some 0,some 1,some 2,some 3,some 4,some 5,none,some 7,some 8,some 9,some 10]) ?_⟩
    rw [hsn]
    rcases ha : authG sr (ks.take j) with _ | ⟨x,l⟩<;>simp only [push_cast,zA,zB,zC,zD,zE,zF,zG,↓reduceIte,reduceCtorEq,auA,auO]<;>trivial
  ·have hj : j=ks.length:=by omega
   subst hj
   rw [List.take_length] at hal ⊢
   generalize authG sr ks=a at *
   obtain ⟨em,hem⟩ : ∃ e,es[0]? = some e:=⟨_,List.getElem?_eq_getElem hn⟩
   obtain ⟨en,hen⟩ : ∃ e,es[es.length - 1]? = some e:=⟨_,List.getElem?_eq_getElem (by omega)⟩
   have hid0 : idG es 0=em.id:=by unfold idG; rw [hem]; rfl
   have hidn : idG es (es.length - 1)=en.id:=by unfold idG; rw [hen]; rfl
   refine W.join (ι:=Unit) (D:=(fun i=>if i=1000030 then (999999,[]) else if i=29 then (10,[(false,0),(false,1),(false,2),(false,3),(false,4),(false,5),(false,6),(false,7),(false,8),(true,9)]) else if i=28 then (16,[]) else if i=23 then (17,[]) else if i=15 then (9,[(false,0),(false,1),(false,2),(false,3),(false,4),(false,5),(false,6),(false,7),(true,8)]) else if i=14 then (10,[]) else if i=3 then (24,[(false,0),(false,1),(false,2),(false,3),(false,4),(false,5),(false,6),(false,7),(false,8),(false,9),(false,10),(false,11),(false,12),(false,13),(false,14),(false,15),(false,16),(false,17),(false,18),(false,19),(false,20),(false,21),(false,22),(true,23)]) else (0,[]))) (fun _=>True) (fun _=>⟨193,[(0,.rf 0 0),(4,.rf 3 0),(6,.rf 4 0),(7,.t (.i .i64 es.length)),(8,.t (.i .i64 k)),(9,.rf 5 0)],[rdO b p2,rmO es,afO after,.box (.ag [.sr 1]),.box zEv,.box (evW e2 (.sr 6) (.sr 7) .ns),stO (auth2 es k a),stO pv]⟩) mixed (by kernel_rfl) ?_ (fun _ _=>?_)
   ·rcases a with _ | ⟨x,l⟩
    ·simp only [auA,auO]
     simp -implicitDefEqProofs (maxSteps:=2000000) only [push_cast,zA,zB,zC,zD,zE,zF,zG,↓reduceIte,reduceCtorEq]
     refine ⟨by omega,by omega,fun e' he'=>?_⟩
     rw [show Int.toNat 0=0 from rfl,hem] at he'
     cases he'
     simp -implicitDefEqProofs (maxSteps:=2000000) only [push_cast,zA,zB,zC,zD,zE,zF,zG,↓reduceIte,reduceCtorEq,eEvent]
     refine ⟨rfl,by omega,(),Keep.wk (ids:=[some 0,some 1,some 2,some 3,some 4,some 5,some 11,some 10]) ?_⟩
     rw [show auth2 es k []=[idG es 0] from if_pos (.inl rfl),hid0]
     simp only [push_cast,zA,zB,zC,zD,zE,zF,zG,↓reduceIte,reduceCtorEq,List.map_cons,List.map_nil]<;>trivial
    ·simp only [auA,auO]
     simp -implicitDefEqProofs (maxSteps:=2000000) only [push_cast,zA,zB,zC,zD,zE,zF,zG,↓reduceIte,reduceCtorEq]
     simp only [List.length_cons] at hal
     intro _
     refine iteI (fun h1=>by omega) (fun h1=>⟨by omega,by omega,iteI (fun h2=>?_) (fun h2=>?_)⟩)
     ·refine ⟨by omega,by omega,fun e' he'=>?_⟩
      rw [show Int.toNat 0=0 from rfl,hem] at he'
      cases he'
      simp -implicitDefEqProofs (maxSteps:=2000000) only [push_cast,zA,zB,zC,zD,zE,zF,zG,↓reduceIte,reduceCtorEq,eEvent]
      refine ⟨rfl,by omega,(),Keep.wk (ids:=[some 0,some 1,some 2,some 3,some 4,some 5,some 11,some 10]) ?_⟩
      rw [show auth2 es k (x :: l)=[idG es 0] from if_pos (.inr (by omega)),hid0]
      simp only [push_cast,zA,zB,zC,zD,zE,zF,zG,↓reduceIte,reduceCtorEq,List.map_cons,List.map_nil]<;>trivial
     ·refine ⟨(),Keep.wk (ids:=[some 0,some 1,some 2,some 3,some 4,some 5,some 9,some 10]) ?_⟩
      rw [show auth2 es k (x :: l)=x :: l from if_neg (by rintro (h | h)<;>first | cases h | omega)]
      simp only [push_cast,zA,zB,zC,zD,zE,zF,zG,↓reduceIte,reduceCtorEq,List.map_cons]<;>trivial
   have ha2 : (auth2 es k a).length≤6:=by
    unfold auth2
    split
    ·simp
    ·omega
   have hau3 : auth3 es k (auth2 es k a)=auth3 es k (auth2 es k a):=rfl
   conv at hau3=>rhs; unfold auth3
   generalize auth2 es k a=a2 at *
   simp -implicitDefEqProofs (maxSteps:=2000000) only [push_cast,zA,zB,zC,zD,zE,zF,zG,↓reduceIte,reduceCtorEq]
   refine W.join (ι:=Unit) (D:=(fun i=>if i=29 then (10,[(false,0),(false,1),(false,2),(false,3),(false,4),(false,5),(false,6),(false,7),(false,8),(true,9)]) else if i=28 then (16,[]) else if i=23 then (17,[]) else if i=15 then (9,[(false,0),(false,1),(false,2),(false,3),(false,4),(false,5),(false,6),(false,7),(true,8)]) else if i=14 then (10,[]) else if i=3 then (24,[(false,0),(false,1),(false,2),(false,3),(false,4),(false,5),(false,6),(false,7),(false,8),(false,9),(false,10),(false,11),(false,12),(false,13),(false,14),(false,15),(false,16),(false,17),(false,18),(false,19),(false,20),(false,21),(false,22),(true,23)]) else (0,[]))) (fun _=>True) (fun _=>⟨193,[(6,.rf 4 0),(9,.rf 5 0)],[rdO b p2,rmO es,afO after,.dead,.box zEv,.box (evW e2 (.sr 6) (.sr 7) .ns),stO (auth3 es k a2),stO pv]⟩) mixed (by kernel_rfl) ?_ (fun _ _=>?_)
   ·simp -implicitDefEqProofs (maxSteps:=2000000) only [push_cast,zA,zB,zC,zD,zE,zF,zG,↓reduceIte,reduceCtorEq]
    have el : ((es.length : Int) - 1).toNat=es.length - 1:=by omega
    refine ⟨by omega,by omega,iteI (fun h1=>⟨by unfold inI64; omega,⟨by omega,by omega⟩,by omega,fun e' he'=>?_⟩) (fun h1=>?_)⟩
    ·rw [el,hen] at he'
     cases he'
     simp -implicitDefEqProofs (maxSteps:=2000000) only [push_cast,zA,zB,zC,zD,zE,zF,zG,↓reduceIte,reduceCtorEq,eEvent]
     refine CallV.t (l1Has a2 en.id) (.inr rfl) ?_
     simp -implicitDefEqProofs (maxSteps:=2000000) only [push_cast,zA,zB,zC,zD,zE,zF,zG,↓reduceIte,reduceCtorEq,eEvent]
     refine iteI (fun h2=>⟨by unfold inI64; omega,⟨by omega,by omega⟩,by omega,fun e' he'=>?_⟩) (fun h2=>?_)
     ·rw [el,hen] at he'
      cases he'
      rw [if_pos ⟨by omega,by rw [hidn]; simpa using h2⟩] at hau3
      refine ⟨rfl,by omega,rfl,by omega,by omega,(),Keep.wk (ids:=[some 0,some 1,some 2,none,some 4,some 5,some 9,some 7]) ?_⟩
      rw [hau3,hidn]
      simp only [push_cast,zA,zB,zC,zD,zE,zF,zG,↓reduceIte,reduceCtorEq,List.map_append,List.map_cons,List.map_nil]<;>trivial
     ·rw [if_neg (by rintro ⟨_,h⟩; rw [hidn] at h; simp_all)] at hau3
      refine ⟨(),Keep.wk (ids:=[some 0,some 1,some 2,none,some 4,some 5,some 6,some 7]) ?_⟩
      rw [hau3]
      simp only [push_cast,zA,zB,zC,zD,zE,zF,zG,↓reduceIte,reduceCtorEq]<;>trivial
    ·rw [if_neg (by rintro ⟨h,_⟩; omega)] at hau3
     refine ⟨(),Keep.wk (ids:=[some 0,some 1,some 2,none,some 4,some 5,some 6,some 7]) ?_⟩
     rw [hau3]
     simp only [push_cast,zA,zB,zC,zD,zE,zF,zG,↓reduceIte,reduceCtorEq]<;>trivial
   simp -implicitDefEqProofs (maxSteps:=2000000) only [push_cast,zA,zB,zC,zD,zE,zF,zG,↓reduceIte,reduceCtorEq]
   exact Close.of [some 0,some 1,some 2,some 7,some 6] rfl rfl rfl (by simp only [push_cast,zA,zB,zC,zD,zE,zF,zG,↓reduceIte,reduceCtorEq]<;>first | rfl | trivial) (by simp only [push_cast,zA,zB,zC,zD,zE,zF,zG,↓reduceIte,reduceCtorEq]<;>first | rfl | trivial)
theorem l2GrowP (es:List Event) (after:List (List Entry)) (b:List UInt8) (p:Nat) (hB:Bd.B≤2147483648) (hb:b.length≤1000) (hp:p≤b.length) (hn:0 < es.length) (hm:es.length≤300) (hl:after.length=es.length) (hpw:nx b (np b p) % 8=3) : ConM P0 87 [.rf 0 0,.ag [.sr 1],.sr 2] [rdO b p,rmO es,afO after] (evW (growE es after b p) (.sr 4) (.sr 3) (.sr 5)) [rdO b (bodyG es after b p).2,rmO es,afO after,stO (growE es after b p).prev,stO (growE es after b p).auth,grO (growE es after b p).grants]:=by
 refine ConM.intro (fn:=Tryz.f87) [.cell 6 42] (fun i=>if i=1000030 then (999999,[]) else if i=1000028 then (999999,[]) else if i=1000014 then (999999,[]) else if i=1000007 then (999999,[]) else if i=29 then (10,[(false,0),(false,1),(false,2),(false,3),(false,4),(false,5),(false,6),(false,7),(false,8),(true,9)]) else if i=28 then (16,[]) else if i=23 then (17,[]) else if i=15 then (9,[(false,0),(false,1),(false,2),(false,3),(false,4),(false,5),(false,6),(false,7),(true,8)]) else if i=14 then (10,[]) else if i=3 then (24,[(false,0),(false,1),(false,2),(false,3),(false,4),(false,5),(false,6),(false,7),(false,8),(false,9),(false,10),(false,11),(false,12),(false,13),(false,14),(false,15),(false,16),(false,17),(false,18),(false,19),(false,20),(false,21),(false,22),(true,23)]) else (0,[])) mixed (by kernel_rfl) rfl (by decide) rfl (by rfl) (by kernel_rfl) ?_
 simp -implicitDefEqProofs (maxSteps:=2000000) only [push_cast,zA,zB,zC,zD,zE,zF,zG,↓reduceIte,reduceCtorEq]
 have:=Bd.lo
 have hhi:=Bd.hi
 intro _
 refine Callx.hand [0] (rdNext b p hb hp) (by decide) (by simp only [push_cast,zA,zB,zC,zD,zE,zF,zG,↓reduceIte,reduceCtorEq]) rfl rfl (by simp only [push_cast,zA,zB,zC,zD,zE,zF,zG,↓reduceIte,reduceCtorEq]<;>rfl) rfl (.inr ⟨rfl,by simp only [push_cast,zA,zB,zC,zD,zE,zF,zG,↓reduceIte,reduceCtorEq]⟩) ?_
 simp -implicitDefEqProofs (maxSteps:=2000000) only [push_cast,zA,zB,zC,zD,zE,zF,zG,↓reduceIte,reduceCtorEq]
 have hk:=nx_lt (b:=b) (p:=p)
 have hq:=np_le hp
 obtain ⟨k,hke⟩ : ∃ k,nx b p=k:=⟨_,rfl⟩
 rw [hke] at hk ⊢
 have h64 : inI64 ((k:Int) + es.length):=by unfold inI64; omega
 have e1 : (((k:Int) + es.length) % 14).toNat=(k + es.length) % 14:=by omega
 have e2 : (((k:Int) + es.length) % 14 + 1).toNat=(k + es.length) % 14 + 1:=by omega
 have hll : (letterL ((k + es.length) % 14)).length=1:=by
  unfold letterL
  rw [List.length_drop,List.length_take]
  have : letters.length=14:=rfl
  omega
 rw [e1,e2,show List.drop ((k + es.length) % 14) (List.take ((k + es.length) % 14 + 1) [113,119,101,114,116,121,117,105,111,112,97,115,100,102])=letterL ((k + es.length) % 14) from rfl]
 refine ⟨h64,by omega,by omega,h64,by omega,by omega,by unfold inI64; omega,by omega,by omega,?_⟩
 refine CallV.t (l1Dec es.length (by omega)) (.inl rfl) ?_
 simp -implicitDefEqProofs (maxSteps:=2000000) only [push_cast,zA,zB,zC,zD,zE,zF,zG,↓reduceIte,reduceCtorEq]
 have hdl:=decT_len es.length 15 (by omega)
 have hk64 : inI64 (k:Int):=by unfold inI64; omega
 have e5 : (k:Int) / 4 % 16 % 5=((k / 4 % 16 % 5 : Nat) : Int):=by simp
 rw [e5]
 refine ⟨by omega,by omega,by omega,hk64,by omega,by omega,by omega,by omega,?_⟩
 refine CallV.t (l1User (k / 4 % 16 % 5) (by omega)) (.inl rfl) ?_
 simp -implicitDefEqProofs (maxSteps:=2000000) only [push_cast,zA,zB,zC,zD,zE,zF,zG,↓reduceIte,reduceCtorEq]
 refine ⟨by omega,by omega,by unfold inI64; omega,?_⟩
 refine W.join (ι:=Unit) (D:=(fun i=>if i=1000030 then (999999,[]) else if i=1000028 then (999999,[]) else if i=1000014 then (999999,[]) else if i=1000007 then (999999,[]) else if i=29 then (10,[(false,0),(false,1),(false,2),(false,3),(false,4),(false,5),(false,6),(false,7),(false,8),(true,9)]) else if i=28 then (16,[]) else if i=23 then (17,[]) else if i=15 then (9,[(false,0),(false,1),(false,2),(false,3),(false,4),(false,5),(false,6),(false,7),(true,8)]) else if i=14 then (10,[]) else if i=3 then (24,[(false,0),(false,1),(false,2),(false,3),(false,4),(false,5),(false,6),(false,7),(false,8),(false,9),(false,10),(false,11),(false,12),(false,13),(false,14),(false,15),(false,16),(false,17),(false,18),(false,19),(false,20),(false,21),(false,22),(true,23)]) else (0,[]))) (fun _=>True) (fun _=>⟨193,[(0,.rf 0 0),(2,.sr 2),(4,.rf 3 0),(6,.rf 4 0),(7,.t (.i .i64 es.length)),(8,.t (.i .i64 k)),(9,.rf 5 0),(10,.t (.i .i64 (cntG k)))],[rdO b (np b p),rmO es,afO after,.box (.ag [.sr 1]),.box zEv,.box (nwA es.length k .ns)]⟩) mixed (by kernel_rfl) ?_ (fun _ _=>?_)
 ·simp -implicitDefEqProofs (maxSteps:=2000000) only [push_cast,zA,zB,zC,zD,zE,zF,zG,↓reduceIte,reduceCtorEq]
  refine ⟨by omega,by omega,iteI (fun h=>?_) (fun h=>?_)⟩
  ·have hcn : ((cntG k:Nat) : Int)=2 + (k:Int) % 8 / 7:=by rw [show cntG k=2 + k % 8 / 7 from if_pos (by omega)]; omega
   refine ⟨by omega,by omega,by omega,by omega,by unfold inI64; omega,by unfold inI64; omega,(),Keep.wk (ids:=[some 0,some 1,some 2,some 3,some 4,some 5]) ?_⟩
   simp only [push_cast,zA,zB,zC,zD,zE,zF,zG,↓reduceIte,reduceCtorEq,hcn,zEv,nwA,newE,userT,tmG]<;>rfl
  ·have hcn : ((cntG k:Nat) : Int)=1:=by rw [show cntG k=1 from if_neg (by omega)]; rfl
   refine ⟨(),Keep.wk (ids:=[some 0,some 1,some 2,some 3,some 4,some 5]) ?_⟩
   simp only [push_cast,zA,zB,zC,zD,zE,zF,zG,↓reduceIte,reduceCtorEq,hcn,zEv,nwA,newE,userT,tmG]<;>rfl
 simp -implicitDefEqProofs (maxSteps:=2000000) only [push_cast,zA,zB,zC,zD,zE,zF,zG,↓reduceIte,reduceCtorEq]
 have hcl:=cntG_le (k:=k)
 refine ⟨rfl,by omega,?_⟩
 refine WL.loop (ι:=Nat) (D:=(fun i=>if i=1000030 then (999999,[]) else if i=1000028 then (999999,[]) else if i=1000014 then (999999,[]) else if i=1000007 then (999999,[]) else if i=29 then (10,[(false,0),(false,1),(false,2),(false,3),(false,4),(false,5),(false,6),(false,7),(false,8),(true,9)]) else if i=28 then (16,[]) else if i=23 then (17,[]) else if i=15 then (9,[(false,0),(false,1),(false,2),(false,3),(false,4),(false,5),(false,6),(false,7),(true,8)]) else if i=14 then (10,[]) else if i=3 then (24,[(false,0),(false,1),(false,2),(false,3),(false,4),(false,5),(false,6),(false,7),(false,8),(false,9),(false,10),(false,11),(false,12),(false,13),(false,14),(false,15),(false,16),(false,17),(false,18),(false,19),(false,20),(false,21),(false,22),(true,23)]) else (0,[]))) (fun i=>i≤cntG k) (fun i=>⟨193,[(0,.rf 0 0),(2,.sr 2),(4,.rf 3 0),(6,.rf 4 0),(7,.t (.i .i64 es.length)),(8,.t (.i .i64 k)),(9,.rf 5 0),(10,.t (.i .i64 (cntG k))),(11,.sr 6),(12,.t (.i .i64 i))],[rdO b (np b p),rmO es,afO after,.box (.ag [.sr 1]),.box zEv,.box (nwA es.length k (pvA i)),afO (prevG es after k i).2,pvO (prevG es after k i).1 i]⟩) (fun i=>cntG k - i) mixed (by kernel_rfl) 0 (by omega) (Wk.trans (Wk.clo 6 rfl) (Keep.wk (ids:=[some 0,some 1,some 2,some 3,some 4,some 5,some 6,none]) ?_)) ?_
 ·simp only [push_cast,zA,zB,zC,zD,zE,zF,zG,↓reduceIte,reduceCtorEq,zEv,nwA,pvA,pvO,prevG,List.map_nil]<;>trivial
 intro i hi
 generalize hpn : posG es.length k i=m
 have hmn : m < es.length:=by rw [← hpn]; exact posG_lt hn
 have hpl:=prevG_len (es:=es) (after:=after) (k:=k) (i:=i)
 simp -implicitDefEqProofs (maxSteps:=2000000) only [push_cast,zA,zB,zC,zD,zE,zF,zG,↓reduceIte,reduceCtorEq]
 have hz : ((k:Int) / 8 % 4 + i * 3) % es.length=(((k / 8 % 4 + i * 3) % es.length : Nat) : Int):=by simp
 have hz2 : ((i:Int) % es.length)=((i % es.length : Nat) : Int):=by simp
 have hzl:=Nat.mod_lt (k / 8 % 4 + i * 3) hn
 have hzl2:=Nat.mod_lt i hn
 rw [hz]
 refine iteI (fun h=>?_) (fun h=>?_)
 ·refine ⟨by unfold inI64; omega,by omega,by omega,hk64,by omega,by omega,by unfold inI64; omega,by unfold inI64; omega,by omega,by omega,by unfold inI64; omega,?_⟩
  refine W.join (ι:=Unit) (D:=(fun i=>if i=1000030 then (999999,[]) else if i=1000028 then (999999,[]) else if i=1000014 then (999999,[]) else if i=1000007 then (999999,[]) else if i=29 then (10,[(false,0),(false,1),(false,2),(false,3),(false,4),(false,5),(false,6),(false,7),(false,8),(true,9)]) else if i=28 then (16,[]) else if i=23 then (17,[]) else if i=15 then (9,[(false,0),(false,1),(false,2),(false,3),(false,4),(false,5),(false,6),(false,7),(true,8)]) else if i=14 then (10,[]) else if i=3 then (24,[(false,0),(false,1),(false,2),(false,3),(false,4),(false,5),(false,6),(false,7),(false,8),(false,9),(false,10),(false,11),(false,12),(false,13),(false,14),(false,15),(false,16),(false,17),(false,18),(false,19),(false,20),(false,21),(false,22),(true,23)]) else (0,[]))) (fun _=>True) (fun _=>⟨193,[(0,.rf 0 0),(2,.sr 2),(4,.rf 3 0),(6,.rf 4 0),(7,.t (.i .i64 es.length)),(8,.t (.i .i64 k)),(9,.rf 5 0),(10,.t (.i .i64 (cntG k))),(11,.sr 6),(12,.t (.i .i64 i)),(13,.t (.i .i64 m))],[rdO b (np b p),rmO es,afO after,.box (.ag [.sr 1]),.box zEv,.box (nwA es.length k (pvA i)),afO (prevG es after k i).2,pvO (prevG es after k i).1 i]⟩) mixed (by kernel_rfl) ?_ (fun _ _=>?_)
  ·simp -implicitDefEqProofs (maxSteps:=2000000) only [push_cast,zA,zB,zC,zD,zE,zF,zG,↓reduceIte,reduceCtorEq]
   rw [hz2]
   refine ⟨by omega,by omega,iteI (fun h3=>?_) (fun h3=>?_)⟩
   ·have hmz : (m:Int)=(es.length : Int) - 1 - ((i % es.length : Nat) : Int):=by
     rw [← hpn,show posG es.length k i=es.length - 1 - i % es.length from if_pos (by omega)]; omega
    refine ⟨by unfold inI64; omega,by omega,by omega,by unfold inI64; omega,(),Keep.wk (ids:=[some 0,some 1,some 2,some 3,some 4,some 5,some 6,some 7]) ?_⟩
    simp only [push_cast,zA,zB,zC,zD,zE,zF,zG,↓reduceIte,reduceCtorEq,hmz]
    cases i<;>simp only [push_cast,zA,zB,zC,zD,zE,zF,zG,↓reduceIte,reduceCtorEq,pvA,pvO]<;>trivial
   ·have hmz : (m:Int)=(es.length : Int) - 1 - (((k / 8 % 4 + i * 3) % es.length : Nat) : Int):=by
     rw [← hpn,show posG es.length k i=es.length - 1 - (k / 8 % 4 + i * 3) % es.length from if_neg (by omega)]; omega
    refine ⟨(),Keep.wk (ids:=[some 0,some 1,some 2,some 3,some 4,some 5,some 6,some 7]) ?_⟩
    simp only [push_cast,zA,zB,zC,zD,zE,zF,zG,↓reduceIte,reduceCtorEq,hmz]
    cases i<;>simp only [push_cast,zA,zB,zC,zD,zE,zF,zG,↓reduceIte,reduceCtorEq,pvA,pvO]<;>trivial
  obtain ⟨em,hem⟩ : ∃ e,es[m]? = some e:=⟨_,List.getElem?_eq_getElem hmn⟩
  obtain ⟨am,ham⟩ : ∃ s,after[m]? = some s:=⟨_,List.getElem?_eq_getElem (by omega)⟩
  have more : ∀ {e1 s1},es[m]? = some e1→after[m]? = some s1→idG es m ∉ (prevG es after k i).1→prevG es after k (i + 1)=((prevG es after k i).1 ++ [e1.id],(prevG es after k i).2 ++ [s1]):=fun {e1 s1} h1 h2 h3=>by
   have : prevG es after k (i + 1)=((prevG es after k i).1 ++ [idG es (posG es.length k i)],(prevG es after k i).2 ++ [(after[posG es.length k i]?).getD []]):=if_neg (by rw [hpn]; exact h3)
   rw [this,hpn,h2]
   unfold idG
   rw [h1]; rfl
  cases i with
  | zero =>
    simp only [nwA,pvA,pvO]
    simp -implicitDefEqProofs (maxSteps:=2000000) only [push_cast,zA,zB,zC,zD,zE,zF,zG,↓reduceIte,reduceCtorEq]
    refine ⟨by omega,by omega,fun e' he'=>?_⟩
    rw [Int.toNat_natCast,hem] at he'
    cases he'
    simp -implicitDefEqProofs (maxSteps:=2000000) only [push_cast,zA,zB,zC,zD,zE,zF,zG,↓reduceIte,reduceCtorEq,eEvent]
    have hH : Con P0 143 [T.sl [],T.s em.id] (.t (.b (decide (em.id∈([] : List (List UInt8)))))) []:=l1Has [] em.id
    refine CallV.t hH (.inr rfl) ?_
    simp -implicitDefEqProofs (maxSteps:=2000000) only [push_cast,zA,zB,zC,zD,zE,zF,zG,↓reduceIte,reduceCtorEq,eEvent]
    refine ⟨by omega,by omega,fun e1 he1=>⟨rfl,by omega,rfl,by omega,by omega,by omega,by omega,fun s1 hs1=>⟨rfl,by omega,rfl,by omega,by omega,by unfold inI64; omega,1,by omega,by omega,Keep.wk (ids:=[some 0,some 1,some 2,some 3,some 4,some 5,some 11,some 9]) ?_⟩⟩⟩
    rw [Int.toNat_natCast] at he1 hs1
    have hnx : prevG es after k 1=_:=more he1 hs1 (by simp [prevG])
    simp only [push_cast,zA,zB,zC,zD,zE,zF,zG,↓reduceIte,reduceCtorEq,hnx,show prevG es after k 0=([],[]) from rfl,List.map_append,List.map_cons,List.map_nil,List.nil_append]<;>first | rfl | trivial
  | succ i =>
    simp only [nwA,pvA,pvO]
    simp -implicitDefEqProofs (maxSteps:=2000000) only [push_cast,zA,zB,zC,zD,zE,zF,zG,↓reduceIte,reduceCtorEq]
    refine ⟨by omega,by omega,fun e' he'=>?_⟩
    rw [Int.toNat_natCast,hem] at he'
    cases he'
    simp -implicitDefEqProofs (maxSteps:=2000000) only [push_cast,zA,zB,zC,zD,zE,zF,zG,↓reduceIte,reduceCtorEq,eEvent]
    refine CallV.t (l1Has (prevG es after k (i + 1)).1 em.id) (.inr rfl) ?_
    simp -implicitDefEqProofs (maxSteps:=2000000) only [push_cast,zA,zB,zC,zD,zE,zF,zG,↓reduceIte,reduceCtorEq,eEvent]
    have hidm : idG es m=em.id:=by unfold idG; rw [hem]; rfl
    refine iteI (fun hx=>?_) (fun hx=>?_)
    ·refine ⟨by omega,by omega,fun e1 he1=>⟨rfl,by omega,rfl,by omega,by omega,by omega,by omega,fun s1 hs1=>⟨rfl,by omega,rfl,by omega,by omega,by unfold inI64; omega,i + 1 + 1,by omega,by omega,Keep.wk (ids:=[some 0,some 1,some 2,some 3,some 4,some 5,some 11,some 9]) ?_⟩⟩⟩
     rw [Int.toNat_natCast] at he1 hs1
     have hnx:=more he1 hs1 (by rw [hidm]; simpa using hx)
     simp only [push_cast,zA,zB,zC,zD,zE,zF,zG,↓reduceIte,reduceCtorEq,hnx,List.map_append,List.map_cons,List.map_nil]<;>first | rfl | trivial
    ·refine ⟨by unfold inI64; omega,i + 1 + 1,by omega,by omega,Keep.wk (ids:=[some 0,some 1,some 2,some 3,some 4,some 5,some 6,some 7]) ?_⟩
     have hnx : prevG es after k (i + 1 + 1)=prevG es after k (i + 1):=if_pos (by rw [hpn,hidm]; simpa using hx)
     simp only [push_cast,zA,zB,zC,zD,zE,zF,zG,↓reduceIte,reduceCtorEq,hnx]<;>first | rfl | trivial
 ·have hi : i=cntG k:=by omega
  subst hi
  obtain ⟨c,hc⟩ : ∃ c,cntG k=c + 1:=⟨cntG k - 1,by omega⟩
  have hbd : bodyG es after b p=contE b (np b p) { newE es.length k with prev:=(prevG es after k (cntG k)).1 }:=by unfold bodyG; rw [hke]
  rw [hc] at hbd hpl ⊢
  simp only [pvA,pvO]
  have hPv : (contE b (np b p) { newE es.length k with prev:=(prevG es after k (c + 1)).1 }).1.prev=(prevG es after k (c + 1)).1:=contE_prev
  have hAu : (contE b (np b p) { newE es.length k with prev:=(prevG es after k (c + 1)).1 }).1.auth=[]:=contE_auth
  have cC:=l1DrawContentP b (np b p) { newE es.length k with prev:=(prevG es after k (c + 1)).1 } hB hb hq hpw
  generalize contE b (np b p) { newE es.length k with prev:=(prevG es after k (c + 1)).1 }=ce at *
  obtain ⟨e2,p2⟩:=ce
  generalize hss : (prevG es after k (c + 1)).2=ss at *
  generalize hpp : (prevG es after k (c + 1)).1=pv at *
  simp only at hPv hAu cC
  simp only [evO] at cC
  simp -implicitDefEqProofs (maxSteps:=2000000) only [push_cast,zA,zB,zC,zD,zE,zF,zG,↓reduceIte,reduceCtorEq]
  refine Callx.hand [0,7] cC (by decide) (by simp only [push_cast,zA,zB,zC,zD,zE,zF,zG,↓reduceIte,reduceCtorEq]<;>trivial) rfl rfl (by simp only [push_cast,zA,zB,zC,zD,zE,zF,zG,↓reduceIte,reduceCtorEq]<;>first | rfl | trivial) rfl (.inr ⟨rfl,by simp only [push_cast,zA,zB,zC,zD,zE,zF,zG,↓reduceIte,reduceCtorEq]<;>first | rfl | trivial⟩) ?_
  simp -implicitDefEqProofs (maxSteps:=2000000) only [push_cast,zA,zB,zC,zD,zE,zF,zG,↓reduceIte,reduceCtorEq]
  have cR:=specResolve es ss hB
  simp only [eRoom] at cR
  refine Callx.closed cR rfl rfl (.inr ⟨rfl,rfl⟩) ?_
  simp -implicitDefEqProofs (maxSteps:=2000000) only [push_cast,zA,zB,zC,zD,zE,zF,zG,↓reduceIte,reduceCtorEq]
  have cN:=specNeeded e2 hB
  simp only [eEvent,show e2.auth=[] from hAu,show e2.prev=pv from hPv,List.map_nil] at cN
  refine Callx.closed cN rfl rfl (.inr ⟨rfl,rfl⟩) ?_
  simp -implicitDefEqProofs (maxSteps:=2000000) only [push_cast,zA,zB,zC,zD,zE,zF,zG,↓reduceIte,reduceCtorEq]
  have hkl:=need_len (e:=e2)
  have hgr : growE es after b p = { e2 with auth:=auth3 es k (auth2 es k (authG (resR es ss) (needOf e2))) }:=by
   unfold growE authL
   rw [hbd,hke,hc,hss]
  rw [hgr,hbd]
  simp only [show e2.prev=pv from hPv]
  clear hgr cN
  generalize needOf e2=ks at *
  generalize resR es ss=sr at *
  refine WL.loop (ι:=Nat) (D:=(fun i=>if i=1000030 then (999999,[]) else if i=1000028 then (999999,[]) else if i=29 then (10,[(false,0),(false,1),(false,2),(false,3),(false,4),(false,5),(false,6),(false,7),(false,8),(true,9)]) else if i=28 then (16,[]) else if i=23 then (17,[]) else if i=15 then (9,[(false,0),(false,1),(false,2),(false,3),(false,4),(false,5),(false,6),(false,7),(true,8)]) else if i=14 then (10,[]) else if i=3 then (24,[(false,0),(false,1),(false,2),(false,3),(false,4),(false,5),(false,6),(false,7),(false,8),(false,9),(false,10),(false,11),(false,12),(false,13),(false,14),(false,15),(false,16),(false,17),(false,18),(false,19),(false,20),(false,21),(false,22),(true,23)]) else (0,[]))) (fun j=>j≤ks.length) (fun j=>⟨193,[(0,.rf 0 0),(4,.rf 3 0),(6,.rf 4 0),(7,.t (.i .i64 es.length)),(8,.t (.i .i64 k)),(9,.rf 5 0),(14,.sr 7),(16,.sr 8),(17,.t (.i .i64 j))],[rdO b p2,rmO es,afO after,.box (.ag [.sr 1]),.box zEv,.box (evW e2 (auA (authG sr (ks.take j))) (.sr 10) (.sr 11)),Ob.dead,enO sr,slO ks,auO (authG sr (ks.take j)),stO pv,grO e2.grants]⟩) (fun j=>ks.length - j) mixed (by kernel_rfl) 0 (by omega) (Keep.wk (ids:=[some 0,some 1,some 2,some 3,some 4,some 5,none,some 9,some 10,none,some 7,some 8]) ?_) ?_
  ·simp only [push_cast,zA,zB,zC,zD,zE,zF,zG,↓reduceIte,reduceCtorEq,authG,List.take_zero,List.filterMap_nil,auA,auO]<;>trivial
  intro j hj
  have hal : (authG sr (ks.take j)).length≤j:=by
   have:=List.length_filterMap_le (fun x:Slot=>if fOk sr x.typ x.key=true then some (fId sr x.typ x.key) else none) (ks.take j)
   rw [List.length_take] at this
   unfold authG
   omega
  simp -implicitDefEqProofs (maxSteps:=2000000) only [push_cast,zA,zB,zC,zD,zE,zF,zG,↓reduceIte,reduceCtorEq,eSlot]
  intro _
  refine iteI (fun h1=>⟨by omega,by omega,fun q hq=>⟨by omega,by omega,fun q' hq'=>?_⟩⟩) (fun h1=>?_)
  ·rw [Int.toNat_natCast] at hq hq'
   rw [hq] at hq'
   cases hq'
   refine CallV.t (specFind sr q.typ q.key) (.inr rfl) ?_
   simp -implicitDefEqProofs (maxSteps:=2000000) only [push_cast,zA,zB,zC,zD,zE,zF,zG,↓reduceIte,reduceCtorEq,eSlot]
   have hsn : authG sr (ks.take (j + 1))=authG sr (ks.take j) ++ (if fOk sr q.typ q.key=true then [fId sr q.typ q.key] else []):=by
    unfold authG
    rw [List.take_add_one,hq,List.filterMap_append]
    simp only [Option.toList_some,List.filterMap_cons,List.filterMap_nil]
    split<;>simp_all
   refine iteI (fun h2=>⟨rfl,by omega,?_⟩) (fun h2=>?_)
   ·rw [if_pos h2] at hsn
    rcases ha : authG sr (ks.take j) with _ | ⟨x,l⟩
    ·rw [ha] at hsn hal
     simp only [auA,auO]
     simp -implicitDefEqProofs (maxSteps:=2000000) only [push_cast,zA,zB,zC,zD,zE,zF,zG,↓reduceIte,reduceCtorEq]
     refine ⟨rfl,by omega,by omega,by unfold inI64; omega,j + 1,by omega,by omega,Keep.wk (ids:=[some 0,some 1,some 2,some 3,some 4,some 5,none,some 7,some 8,some 13,some 10,some 11]) ?_⟩
     simp only [push_cast,zA,zB,zC,zD,zE,zF,zG,↓reduceIte,reduceCtorEq,hsn,List.nil_append,auA,auO]<;>trivial
    ·rw [ha] at hsn hal
     simp only [auA,auO]
     simp -implicitDefEqProofs (maxSteps:=2000000) only [push_cast,zA,zB,zC,zD,zE,zF,zG,↓reduceIte,reduceCtorEq]
     simp only [List.length_cons] at hal
     refine ⟨rfl,by omega,by omega,by unfold inI64; omega,j + 1,by omega,by omega,Keep.wk (ids:=[some 0,some 1,some 2,some 3,some 4,some 5,none,some 7,some 8,some 13,some 10,some 11]) ?_⟩
     simp only [push_cast,zA,zB,zC,zD,zE,zF,zG,↓reduceIte,reduceCtorEq,hsn,List.cons_append,auA,auO,List.map_append,List.map_cons,List.map_nil]<;>trivial
   ·rw [if_neg h2,List.append_nil] at hsn
    refine ⟨by unfold inI64; omega,j + 1,by omega,by omega,Keep.wk (ids:=[some 0,some 1,some 2,some 3,some 4,some 5,none,some 7,some 8,some 9,some 10,some 11]) ?_⟩
    rw [hsn]
    rcases ha : authG sr (ks.take j) with _ | ⟨x,l⟩<;>simp only [push_cast,zA,zB,zC,zD,zE,zF,zG,↓reduceIte,reduceCtorEq,auA,auO]<;>trivial
  ·have hj : j=ks.length:=by omega
   subst hj
   rw [List.take_length] at hal ⊢
   generalize authG sr ks=a at *
   obtain ⟨em,hem⟩ : ∃ e,es[0]? = some e:=⟨_,List.getElem?_eq_getElem hn⟩
   obtain ⟨en,hen⟩ : ∃ e,es[es.length - 1]? = some e:=⟨_,List.getElem?_eq_getElem (by omega)⟩
   have hid0 : idG es 0=em.id:=by unfold idG; rw [hem]; rfl
   have hidn : idG es (es.length - 1)=en.id:=by unfold idG; rw [hen]; rfl
   refine W.join (ι:=Unit) (D:=(fun i=>if i=1000030 then (999999,[]) else if i=29 then (10,[(false,0),(false,1),(false,2),(false,3),(false,4),(false,5),(false,6),(false,7),(false,8),(true,9)]) else if i=28 then (16,[]) else if i=23 then (17,[]) else if i=15 then (9,[(false,0),(false,1),(false,2),(false,3),(false,4),(false,5),(false,6),(false,7),(true,8)]) else if i=14 then (10,[]) else if i=3 then (24,[(false,0),(false,1),(false,2),(false,3),(false,4),(false,5),(false,6),(false,7),(false,8),(false,9),(false,10),(false,11),(false,12),(false,13),(false,14),(false,15),(false,16),(false,17),(false,18),(false,19),(false,20),(false,21),(false,22),(true,23)]) else (0,[]))) (fun _=>True) (fun _=>⟨193,[(0,.rf 0 0),(4,.rf 3 0),(6,.rf 4 0),(7,.t (.i .i64 es.length)),(8,.t (.i .i64 k)),(9,.rf 5 0)],[rdO b p2,rmO es,afO after,.box (.ag [.sr 1]),.box zEv,.box (evW e2 (.sr 6) (.sr 7) (.sr 8)),stO (auth2 es k a),stO pv,grO e2.grants]⟩) mixed (by kernel_rfl) ?_ (fun _ _=>?_)
   ·rcases a with _ | ⟨x,l⟩
    ·simp only [auA,auO]
     simp -implicitDefEqProofs (maxSteps:=2000000) only [push_cast,zA,zB,zC,zD,zE,zF,zG,↓reduceIte,reduceCtorEq]
     refine ⟨by omega,by omega,fun e' he'=>?_⟩
     rw [show Int.toNat 0=0 from rfl,hem] at he'
     cases he'
     simp -implicitDefEqProofs (maxSteps:=2000000) only [push_cast,zA,zB,zC,zD,zE,zF,zG,↓reduceIte,reduceCtorEq,eEvent]
     refine ⟨rfl,by omega,(),Keep.wk (ids:=[some 0,some 1,some 2,some 3,some 4,some 5,some 12,some 10,some 11]) ?_⟩
     rw [show auth2 es k []=[idG es 0] from if_pos (.inl rfl),hid0]
     simp only [push_cast,zA,zB,zC,zD,zE,zF,zG,↓reduceIte,reduceCtorEq,List.map_cons,List.map_nil]<;>trivial
    ·simp only [auA,auO]
     simp -implicitDefEqProofs (maxSteps:=2000000) only [push_cast,zA,zB,zC,zD,zE,zF,zG,↓reduceIte,reduceCtorEq]
     simp only [List.length_cons] at hal
     intro _
     refine iteI (fun h1=>by omega) (fun h1=>⟨by omega,by omega,iteI (fun h2=>?_) (fun h2=>?_)⟩)
     ·refine ⟨by omega,by omega,fun e' he'=>?_⟩
      rw [show Int.toNat 0=0 from rfl,hem] at he'
      cases he'
      simp -implicitDefEqProofs (maxSteps:=2000000) only [push_cast,zA,zB,zC,zD,zE,zF,zG,↓reduceIte,reduceCtorEq,eEvent]
      refine ⟨rfl,by omega,(),Keep.wk (ids:=[some 0,some 1,some 2,some 3,some 4,some 5,some 12,some 10,some 11]) ?_⟩
      rw [show auth2 es k (x :: l)=[idG es 0] from if_pos (.inr (by omega)),hid0]
      simp only [push_cast,zA,zB,zC,zD,zE,zF,zG,↓reduceIte,reduceCtorEq,List.map_cons,List.map_nil]<;>trivial
     ·refine ⟨(),Keep.wk (ids:=[some 0,some 1,some 2,some 3,some 4,some 5,some 9,some 10,some 11]) ?_⟩
      rw [show auth2 es k (x :: l)=x :: l from if_neg (by rintro (h | h)<;>first | cases h | omega)]
      simp only [push_cast,zA,zB,zC,zD,zE,zF,zG,↓reduceIte,reduceCtorEq,List.map_cons]<;>trivial
   have ha2 : (auth2 es k a).length≤6:=by
    unfold auth2
    split
    ·simp
    ·omega
   have hau3 : auth3 es k (auth2 es k a)=auth3 es k (auth2 es k a):=rfl
   conv at hau3=>rhs; unfold auth3
   generalize auth2 es k a=a2 at *
   simp -implicitDefEqProofs (maxSteps:=2000000) only [push_cast,zA,zB,zC,zD,zE,zF,zG,↓reduceIte,reduceCtorEq]
   refine W.join (ι:=Unit) (D:=(fun i=>if i=29 then (10,[(false,0),(false,1),(false,2),(false,3),(false,4),(false,5),(false,6),(false,7),(false,8),(true,9)]) else if i=28 then (16,[]) else if i=23 then (17,[]) else if i=15 then (9,[(false,0),(false,1),(false,2),(false,3),(false,4),(false,5),(false,6),(false,7),(true,8)]) else if i=14 then (10,[]) else if i=3 then (24,[(false,0),(false,1),(false,2),(false,3),(false,4),(false,5),(false,6),(false,7),(false,8),(false,9),(false,10),(false,11),(false,12),(false,13),(false,14),(false,15),(false,16),(false,17),(false,18),(false,19),(false,20),(false,21),(false,22),(true,23)]) else (0,[]))) (fun _=>True) (fun _=>⟨193,[(6,.rf 4 0),(9,.rf 5 0)],[rdO b p2,rmO es,afO after,.dead,.box zEv,.box (evW e2 (.sr 6) (.sr 7) (.sr 8)),stO (auth3 es k a2),stO pv,grO e2.grants]⟩) mixed (by kernel_rfl) ?_ (fun _ _=>?_)
   ·simp -implicitDefEqProofs (maxSteps:=2000000) only [push_cast,zA,zB,zC,zD,zE,zF,zG,↓reduceIte,reduceCtorEq]
    have el : ((es.length : Int) - 1).toNat=es.length - 1:=by omega
    refine ⟨by omega,by omega,iteI (fun h1=>⟨by unfold inI64; omega,⟨by omega,by omega⟩,by omega,fun e' he'=>?_⟩) (fun h1=>?_)⟩
    ·rw [el,hen] at he'
     cases he'
     simp -implicitDefEqProofs (maxSteps:=2000000) only [push_cast,zA,zB,zC,zD,zE,zF,zG,↓reduceIte,reduceCtorEq,eEvent]
     refine CallV.t (l1Has a2 en.id) (.inr rfl) ?_
     simp -implicitDefEqProofs (maxSteps:=2000000) only [push_cast,zA,zB,zC,zD,zE,zF,zG,↓reduceIte,reduceCtorEq,eEvent]
     refine iteI (fun h2=>⟨by unfold inI64; omega,⟨by omega,by omega⟩,by omega,fun e' he'=>?_⟩) (fun h2=>?_)
     ·rw [el,hen] at he'
      cases he'
      rw [if_pos ⟨by omega,by rw [hidn]; simpa using h2⟩] at hau3
      refine ⟨rfl,by omega,rfl,by omega,by omega,(),Keep.wk (ids:=[some 0,some 1,some 2,none,some 4,some 5,some 10,some 7,some 8]) ?_⟩
      rw [hau3,hidn]
      simp only [push_cast,zA,zB,zC,zD,zE,zF,zG,↓reduceIte,reduceCtorEq,List.map_append,List.map_cons,List.map_nil]<;>trivial
     ·rw [if_neg (by rintro ⟨_,h⟩; rw [hidn] at h; simp_all)] at hau3
      refine ⟨(),Keep.wk (ids:=[some 0,some 1,some 2,none,some 4,some 5,some 6,some 7,some 8]) ?_⟩
      rw [hau3]
      simp only [push_cast,zA,zB,zC,zD,zE,zF,zG,↓reduceIte,reduceCtorEq]<;>trivial
    ·rw [if_neg (by rintro ⟨h,_⟩; omega)] at hau3
     refine ⟨(),Keep.wk (ids:=[some 0,some 1,some 2,none,some 4,some 5,some 6,some 7,some 8]) ?_⟩
     rw [hau3]
     simp only [push_cast,zA,zB,zC,zD,zE,zF,zG,↓reduceIte,reduceCtorEq]<;>trivial
   simp -implicitDefEqProofs (maxSteps:=2000000) only [push_cast,zA,zB,zC,zD,zE,zF,zG,↓reduceIte,reduceCtorEq]
   exact Close.of [some 0,some 1,some 2,some 7,some 6,some 8] rfl rfl rfl (by simp only [push_cast,zA,zB,zC,zD,zE,zF,zG,↓reduceIte,reduceCtorEq]<;>first | rfl | trivial) (by simp only [push_cast,zA,zB,zC,zD,zE,zF,zG,↓reduceIte,reduceCtorEq]<;>first | rfl | trivial)
end Go.Proofs.YtmgdkkhnjkepiaaGreat.BX
namespace Go.Proofs.YtmgdkkhnjkepiaaGreat.BX
open Nat renaming reduceEqDiff → zA, reduceLT → zB, reduceLeDiff → zC, reduceAdd → zD, reduceMul → zE, reduceSub → zF, reduceBEq → zG
set_option linter.unusedSectionVars false
set_option linter.unusedSimpArgs false
set_option linter.unusedVariables false
open Go Go.RowKit
set_option maxRecDepth 20000
set_option maxHeartbeats 400000
def joinL (s:List UInt8) : List (List UInt8)→List UInt8
 | [] => []
 | x :: r => x ++ r.flatMap fun y=>s ++ y
theorem joinL_snoc {s:List UInt8} {xs:List (List UInt8)} {i:Nat} {x:List UInt8} (h:xs[i]? = some x) : joinL s (xs.take (i + 1))=if i=0 then x else joinL s (xs.take i) ++ s ++ x:=by
 rw [List.take_add_one,h]
 cases i with
 | zero => simp [joinL]
 | succ i =>
   rw [if_neg (by omega)]
   cases xs with
   | nil => simp at h
   | cons y r => simp [joinL,List.flatMap_append]
theorem joinL_len {s:List UInt8} {xs:List (List UInt8)} {i:Nat} : (joinL s (xs.take i)).length≤(joinL s xs).length:=by
 cases xs with
 | nil => simp
 | cons y r =>
   cases i with
   | zero => simp [joinL]
   | succ i =>
     have h : (List.flatMap (fun y=>s ++ y) r).length=(List.flatMap (fun y=>s ++ y) (r.take i)).length + (List.flatMap (fun y=>s ++ y) (r.drop i)).length:=by
      rw [← List.length_append,← List.flatMap_append,List.take_append_drop]
     simp only [List.take_succ_cons,joinL,List.length_append]
     omega
variable [Bd]
theorem l1Join (xs:List (List UInt8)) (s:List UInt8) (hl:(joinL s xs).length < Bd.B) : Con P0 159 [eStringS xs,.s s] (.t (.s (joinL s xs))) []:=by
 refine Con.intro (fn:=Tryz.f159) [.tmp 4] (fun _=>(0,[])) mixed (by kernel_rfl) rfl (by decide) rfl (by rfl) (by kernel_rfl) ?_
 simp -implicitDefEqProofs (maxSteps:=2000000) only [push_cast,zA,zB,zC,zD,zE,zF,zG,↓reduceIte,reduceCtorEq]
 refine WL.loop (ι:=Nat) (D:=(fun _=>(0,[]))) (fun i=>i≤xs.length) (fun i=>⟨25,[(0,.t (eStringS xs)),(1,.t (.s s)),(5,.t (.s (joinL s (xs.take i)))),(6,.t (.i .i64 i))],[]⟩) (fun i=>xs.length - i) mixed (by kernel_rfl) 0 (by omega) (Keep.wk (ids:=[]) ?_) ?_
 ·simp only [push_cast,zA,zB,zC,zD,zE,zF,zG,↓reduceIte,reduceCtorEq,List.take_zero,joinL]<;>rfl
 intro i hi
 simp -implicitDefEqProofs (maxSteps:=2000000) only [push_cast,zA,zB,zC,zD,zE,zF,zG,↓reduceIte,reduceCtorEq]
 intro _
 have:=Bd.hi
 refine iteI (fun h=>?_) (fun h=>?_)
 ·obtain ⟨x,hx⟩ : ∃ x,xs[i]? = some x:=⟨_,List.getElem?_eq_getElem (by omega)⟩
  have hs:=joinL_snoc (s:=s) hx
  have hle:=joinL_len (s:=s) (xs:=xs) (i:=i + 1)
  rw [hs] at hle
  refine iteI (fun h1=>?_) (fun h1=>?_)
  ·rw [if_neg (by omega)] at hs hle
   simp only [List.length_append] at hle
   refine ⟨by omega,by omega,fun a ha=>?_⟩
   rw [Int.toNat_natCast,hx] at ha
   cases ha
   refine ⟨by omega,by unfold inI64; omega,i + 1,by omega,by omega,Keep.wk (ids:=[]) ?_⟩
   simp only [push_cast,zA,zB,zC,zD,zE,zF,zG,↓reduceIte,reduceCtorEq,hs]<;>rfl
  ·have h0 : i=0:=by omega
   subst h0
   rw [if_pos rfl] at hs hle
   refine ⟨by omega,fun a ha=>?_⟩
   rw [Int.toNat_natCast,hx] at ha
   cases ha
   refine ⟨by simp only [List.take_zero,joinL,List.length_nil]; omega,by unfold inI64; omega,0 + 1,by omega,by omega,Keep.wk (ids:=[]) ?_⟩
   simp only [push_cast,zA,zB,zC,zD,zE,zF,zG,↓reduceIte,reduceCtorEq,show joinL s (xs.take 1)=x from hs,List.take_zero,show joinL s []=[] from rfl,List.nil_append]<;>rfl
 ·rw [List.take_of_length_le (by omega)]
end Go.Proofs.YtmgdkkhnjkepiaaGreat.BX
namespace Go.Proofs.YtmgdkkhnjkepiaaGreat.BX
open Nat renaming reduceEqDiff → zA, reduceLT → zB, reduceLeDiff → zC, reduceAdd → zD, reduceMul → zE, reduceSub → zF, reduceBEq → zG
set_option linter.unusedSectionVars false
set_option linter.unusedSimpArgs false
set_option linter.unusedVariables false
open Go Go.RowKit
set_option maxRecDepth 20000
set_option maxHeartbeats 400000
def ten : List UInt8:=[48,49,50,51,52,53,54,55,56,57]
def odds : List (List UInt8):=[[],[97,32,98],[120,44,121],[45],[97,58,98],joinL [] [ten,ten,ten,ten],ten ++ ten ++ ten ++ ten ++ [48],[61],[42,115,116,97,116,101],[111,107]]
def oddT (v:Nat) : List UInt8:=(odds[v % 10]?).getD []
def moreA (n i:Nat) : List (List UInt8):=(List.range (n - i)).map fun j=>[36,102] ++ decT (i + j)
def moreG (n i:Nat) : List Grant:=(List.range (n - i)).map fun j=>⟨122 :: decT (1000 + (i + j)),0⟩
def spoilE (k v:Nat) (e:Event) : Event :=
 if k % 16=0 then { e with id:=oddT v }
 else if k % 16=1 then { e with sender:=oddT v }
 else if k % 16=2 then { e with typ:=oddT v }
 else if k % 16=3 then { e with key:=oddT v }
 else if k % 16=4 then { e with isState:=!e.isState }
 else if k % 16=5 then { e with time:=999999999999 + (v:Int) % 3 }
 else if k % 16=6 then { e with time:=-(v:Int) }
 else if k % 16=7 then { e with prev:=e.prev ++ [oddT v] }
 else if k % 16=8 then { e with auth:=e.auth ++ e.auth }
 else if k % 16=9 then { e with prev:=e.prev ++ [e.id] }
 else if k % 16=10 then { e with auth:=e.auth ++ moreA (9 + v % 3) e.auth.length }
 else if k % 16=11 then { e with value:=oddT v }
 else if k % 16=12 then { e with grants:=e.grants ++ [⟨oddT v,((v:Int) % 3 - 1) * (1000000 + (v:Int) / 128)⟩] }
 else if k % 16=13 then { e with typ:=([sCreate,sMember,sPower,sRules][v % 4]?).getD [] }
 else if k % 16=14 then { e with grants:=e.grants ++ moreG (49 + v % 3) e.grants.length }
 else { e with auth:=[] }
theorem moreA_snoc {i m:Nat} : moreA (i + (m + 1)) i=moreA (i + m) i ++ [[36,102] ++ decT (i + m)]:=by
 unfold moreA
 rw [show i + (m + 1) - i=m + 1 by omega,show i + m - i=m by omega,List.range_succ,List.map_append]
 rfl
theorem moreG_snoc {i m:Nat} : moreG (i + (m + 1)) i=moreG (i + m) i ++ [⟨122 :: decT (1000 + (i + m)),0⟩]:=by
 unfold moreG
 rw [show i + (m + 1) - i=m + 1 by omega,show i + m - i=m by omega,List.range_succ,List.map_append]
 rfl
theorem more0 {n i:Nat} (h:n≤i) : moreA n i=[]∧moreG n i=[]:=by
 unfold moreA moreG
 rw [Nat.sub_eq_zero_of_le h]
 exact ⟨rfl,rfl⟩
theorem moreA_len {n i:Nat} : (moreA n i).length=n - i:=by simp [moreA]
theorem moreG_len {n i:Nat} : (moreG n i).length=n - i:=by simp [moreG]
variable [Bd]
def apX (x:AV) (n:Nat) : Nat→AV
 | 0 => x
 | _ + 1 => .sr n
def apO (o o':Ob) : Nat→Ob
 | 0 => o
 | _ + 1 => o'
theorem l1SpoilEvent (b:List UInt8) (p:Nat) (e:Event) (hB:Bd.B≤2147483648) (hb:b.length≤1000) (hp:p≤500) (hf:e.prev.length≤300∧e.auth.length≤300∧e.grants.length≤300) (hg:e.grants=[]) : ConM P0 88 [.rf 0 0,evW e (.sr 2) (.sr 1) .ns] [rdO b p,stO e.prev,stO e.auth] (.t (eEvent (spoilE (nx b p) (nx b (np b p)) e))) [rdO b (np b (np b p)),.dead,.dead]:=by
 refine ConM.intro (fn:=Tryz.f88) [.cell 4 42] (fun i=>if i=1000041 then (999999,[]) else if i=39 then (8,[(false,0),(false,1),(false,2),(false,3),(false,4),(false,5),(false,6),(true,7)]) else if i=28 then (6,[(false,0),(false,1),(false,2),(false,3),(false,4),(true,5)]) else (0,[])) mixed (by kernel_rfl) rfl (by decide) rfl (by rfl) (by kernel_rfl) ?_
 simp -implicitDefEqProofs (maxSteps:=2000000) only [push_cast,zA,zB,zC,zD,zE,zF,zG,↓reduceIte,reduceCtorEq]
 have hlo:=Bd.lo
 have hhi:=Bd.hi
 obtain ⟨hf1,hf2,hf3⟩:=hf
 have hnp : np b p≤501:=by unfold np; split<;>omega
 refine Callx.hand [0] (rdNextW b p hb (by omega)) (by decide) (by simp only [push_cast,zA,zB,zC,zD,zE,zF,zG,↓reduceIte,reduceCtorEq]) rfl rfl (by simp only [push_cast,zA,zB,zC,zD,zE,zF,zG,↓reduceIte,reduceCtorEq]<;>rfl) rfl (.inr ⟨rfl,by simp only [push_cast,zA,zB,zC,zD,zE,zF,zG,↓reduceIte,reduceCtorEq]⟩) ?_
 simp -implicitDefEqProofs (maxSteps:=2000000) only [push_cast,zA,zB,zC,zD,zE,zF,zG,↓reduceIte,reduceCtorEq]
 refine Callx.hand [0] (rdNextW b (np b p) hb (by omega)) (by decide) (by simp only [push_cast,zA,zB,zC,zD,zE,zF,zG,↓reduceIte,reduceCtorEq]) rfl rfl (by simp only [push_cast,zA,zB,zC,zD,zE,zF,zG,↓reduceIte,reduceCtorEq]<;>rfl) rfl (.inr ⟨rfl,by simp only [push_cast,zA,zB,zC,zD,zE,zF,zG,↓reduceIte,reduceCtorEq]⟩) ?_
 simp -implicitDefEqProofs (maxSteps:=2000000) only [push_cast,zA,zB,zC,zD,zE,zF,zG,↓reduceIte,reduceCtorEq]
 have hk:=nx_lt (b:=b) (p:=p)
 have hv:=nx_lt (b:=b) (p:=np b p)
 generalize nx b (np b p)=v at *
 generalize nx b p=k at *
 refine ⟨rfl,by omega,?_⟩
 have hJ:=l1Join [ten,ten,ten,ten] [] (by show (40:Nat) < _; omega)
 refine Callx.closed hJ rfl rfl (.inr ⟨rfl,rfl⟩) ?_
 simp -implicitDefEqProofs (maxSteps:=2000000) only [push_cast,zA,zB,zC,zD,zE,zF,zG,↓reduceIte,reduceCtorEq]
 have e10 : ((v:Int) % 10).toNat=v % 10:=by omega
 rw [e10]
 refine ⟨rfl,by omega,by omega,by omega,by omega,by omega,fun y hy=>?_⟩
 have hy : y = .s (oddT v):=by
  unfold oddT
  have h10 : v % 10=0 ∨ v % 10=1 ∨ v % 10=2 ∨ v % 10=3 ∨ v % 10=4 ∨ v % 10=5 ∨ v % 10=6 ∨ v % 10=7 ∨ v % 10=8 ∨ v % 10=9:=by omega
  rcases h10 with h | h | h | h | h | h | h | h | h | h<;>rw [h] at hy ⊢ <;> (cases hy; rfl)
 subst hy
 have hol : (oddT v).length≤41:=by
  unfold oddT
  have h10 : v % 10=0 ∨ v % 10=1 ∨ v % 10=2 ∨ v % 10=3 ∨ v % 10=4 ∨ v % 10=5 ∨ v % 10=6 ∨ v % 10=7 ∨ v % 10=8 ∨ v % 10=9:=by omega
  rcases h10 with h | h | h | h | h | h | h | h | h | h<;>rw [h]<;>decide
 have hsp : ∀ {e':Event},spoilE k v e=e'→spoilE k v e=e':=fun h=>h
 simp -implicitDefEqProofs (maxSteps:=2000000) only [push_cast,zA,zB,zC,zD,zE,zF,zG,↓reduceIte,reduceCtorEq]
 refine W.join (ι:=Unit) (D:=(fun i=>if i=39 then (8,[(false,0),(false,1),(false,2),(false,3),(false,4),(false,5),(false,6),(true,7)]) else if i=28 then (6,[(false,0),(false,1),(false,2),(false,3),(false,4),(true,5)]) else (0,[]))) (fun _=>True) (fun _=>⟨167,[(3,.rf 3 0),(4,.rf 4 0)],[rdO b (np b (np b p)),.dead,.dead,.box (.t (eEvent (spoilE k v e))),.box zEv]⟩) mixed (by kernel_rfl) ?_ (fun _ _=>?_)
 rotate_left
 ·simp -implicitDefEqProofs (maxSteps:=2000000) only [push_cast,zA,zB,zC,zD,zE,zF,zG,↓reduceIte,reduceCtorEq]
  exact ⟨rfl,Rest.of [some 0,some 1,some 2] rfl rfl (by simp only [push_cast,zA,zB,zC,zD,zE,zF,zG,↓reduceIte,reduceCtorEq]<;>first | rfl | trivial)⟩
 simp -implicitDefEqProofs (maxSteps:=2000000) only [push_cast,zA,zB,zC,zD,zE,zF,zG,↓reduceIte,reduceCtorEq]
 have sp : spoilE k v e=spoilE k v e:=rfl
 conv at sp=>rhs; unfold spoilE
 clear hy
 refine ⟨by omega,by omega,iteI (fun h=>?_) (fun h=>?_)⟩
 ·have hE:=sp
  rw [if_pos (by omega)] at hE
  refine ⟨(),Wk.trans (Wk.sealBox 3 (y:=eEvent (spoilE k v e)) (ids:=[1,2]) ?_ rfl) (Keep.wk (ids:=[some 0,some 1,some 2,some 3,some 4]) ?_)⟩
  ·rw [hE]
   simp only [push_cast,zA,zB,zC,zD,zE,zF,zG,↓reduceIte,reduceCtorEq,boxTake,eEvent,eStringS,eGrantS,hg,List.map_append,List.map_cons,List.map_nil,List.nil_append]<;>rfl
  ·simp only [push_cast,zA,zB,zC,zD,zE,zF,zG,↓reduceIte,reduceCtorEq,killAll]<;>trivial
 refine ⟨by omega,by omega,iteI (fun h=>?_) (fun h=>?_)⟩
 ·have hE:=sp
  rw [if_neg (by omega),if_pos (by omega)] at hE
  refine ⟨(),Wk.trans (Wk.sealBox 3 (y:=eEvent (spoilE k v e)) (ids:=[1,2]) ?_ rfl) (Keep.wk (ids:=[some 0,some 1,some 2,some 3,some 4]) ?_)⟩
  ·rw [hE]
   simp only [push_cast,zA,zB,zC,zD,zE,zF,zG,↓reduceIte,reduceCtorEq,boxTake,eEvent,eStringS,eGrantS,hg,List.map_append,List.map_cons,List.map_nil,List.nil_append]<;>rfl
  ·simp only [push_cast,zA,zB,zC,zD,zE,zF,zG,↓reduceIte,reduceCtorEq,killAll]<;>trivial
 refine ⟨by omega,by omega,iteI (fun h=>?_) (fun h=>?_)⟩
 ·have hE:=sp
  rw [if_neg (by omega),if_neg (by omega),if_pos (by omega)] at hE
  refine ⟨(),Wk.trans (Wk.sealBox 3 (y:=eEvent (spoilE k v e)) (ids:=[1,2]) ?_ rfl) (Keep.wk (ids:=[some 0,some 1,some 2,some 3,some 4]) ?_)⟩
  ·rw [hE]
   simp only [push_cast,zA,zB,zC,zD,zE,zF,zG,↓reduceIte,reduceCtorEq,boxTake,eEvent,eStringS,eGrantS,hg,List.map_append,List.map_cons,List.map_nil,List.nil_append]<;>rfl
  ·simp only [push_cast,zA,zB,zC,zD,zE,zF,zG,↓reduceIte,reduceCtorEq,killAll]<;>trivial
 refine ⟨by omega,by omega,iteI (fun h=>?_) (fun h=>?_)⟩
 ·have hE:=sp
  rw [if_neg (by omega),if_neg (by omega),if_neg (by omega),if_pos (by omega)] at hE
  refine ⟨(),Wk.trans (Wk.sealBox 3 (y:=eEvent (spoilE k v e)) (ids:=[1,2]) ?_ rfl) (Keep.wk (ids:=[some 0,some 1,some 2,some 3,some 4]) ?_)⟩
  ·rw [hE]
   simp only [push_cast,zA,zB,zC,zD,zE,zF,zG,↓reduceIte,reduceCtorEq,boxTake,eEvent,eStringS,eGrantS,hg,List.map_append,List.map_cons,List.map_nil,List.nil_append]<;>rfl
  ·simp only [push_cast,zA,zB,zC,zD,zE,zF,zG,↓reduceIte,reduceCtorEq,killAll]<;>trivial
 refine ⟨by omega,by omega,iteI (fun h=>?_) (fun h=>?_)⟩
 ·have hE:=sp
  rw [if_neg (by omega),if_neg (by omega),if_neg (by omega),if_neg (by omega),if_pos (by omega)] at hE
  refine ⟨(),Wk.trans (Wk.sealBox 3 (y:=eEvent (spoilE k v e)) (ids:=[1,2]) ?_ rfl) (Keep.wk (ids:=[some 0,some 1,some 2,some 3,some 4]) ?_)⟩
  ·rw [hE]
   simp only [push_cast,zA,zB,zC,zD,zE,zF,zG,↓reduceIte,reduceCtorEq,boxTake,eEvent,eStringS,eGrantS,hg,List.map_append,List.map_cons,List.map_nil,List.nil_append]<;>rfl
  ·simp only [push_cast,zA,zB,zC,zD,zE,zF,zG,↓reduceIte,reduceCtorEq,killAll]<;>trivial
 refine ⟨by omega,by omega,iteI (fun h=>?_) (fun h=>?_)⟩
 ·have hE:=sp
  rw [if_neg (by omega),if_neg (by omega),if_neg (by omega),if_neg (by omega),if_neg (by omega),if_pos (by omega)] at hE
  refine ⟨by omega,by omega,by unfold inI64; omega,(),Wk.trans (Wk.sealBox 3 (y:=eEvent (spoilE k v e)) (ids:=[1,2]) ?_ rfl) (Keep.wk (ids:=[some 0,some 1,some 2,some 3,some 4]) ?_)⟩
  ·rw [hE]
   simp only [push_cast,zA,zB,zC,zD,zE,zF,zG,↓reduceIte,reduceCtorEq,boxTake,eEvent,eStringS,eGrantS,hg,List.map_append,List.map_cons,List.map_nil,List.nil_append]<;>rfl
  ·simp only [push_cast,zA,zB,zC,zD,zE,zF,zG,↓reduceIte,reduceCtorEq,killAll]<;>trivial
 refine ⟨by omega,by omega,iteI (fun h=>?_) (fun h=>?_)⟩
 ·have hE:=sp
  rw [if_neg (by omega),if_neg (by omega),if_neg (by omega),if_neg (by omega),if_neg (by omega),if_neg (by omega),if_pos (by omega)] at hE
  refine ⟨by unfold inI64; omega,(),Wk.trans (Wk.sealBox 3 (y:=eEvent (spoilE k v e)) (ids:=[1,2]) ?_ rfl) (Keep.wk (ids:=[some 0,some 1,some 2,some 3,some 4]) ?_)⟩
  ·rw [hE]
   simp only [push_cast,zA,zB,zC,zD,zE,zF,zG,↓reduceIte,reduceCtorEq,boxTake,eEvent,eStringS,eGrantS,hg,List.map_append,List.map_cons,List.map_nil,List.nil_append,Int.zero_sub]<;>rfl
  ·simp only [push_cast,zA,zB,zC,zD,zE,zF,zG,↓reduceIte,reduceCtorEq,killAll]<;>trivial
 refine ⟨by omega,by omega,iteI (fun h=>?_) (fun h=>?_)⟩
 ·have hE:=sp
  rw [if_neg (by omega),if_neg (by omega),if_neg (by omega),if_neg (by omega),if_neg (by omega),if_neg (by omega),if_neg (by omega),if_pos (by omega)] at hE
  refine ⟨rfl,by omega,rfl,by omega,by omega,(),Wk.trans (Wk.sealBox 3 (y:=eEvent (spoilE k v e)) (ids:=[8,2]) ?_ rfl) (Keep.wk (ids:=[some 0,some 1,some 2,some 3,some 4]) ?_)⟩
  ·rw [hE]
   simp only [push_cast,zA,zB,zC,zD,zE,zF,zG,↓reduceIte,reduceCtorEq,boxTake,eEvent,eStringS,eGrantS,hg,List.map_append,List.map_cons,List.map_nil,List.nil_append]<;>rfl
  ·simp only [push_cast,zA,zB,zC,zD,zE,zF,zG,↓reduceIte,reduceCtorEq,killAll]<;>trivial
 refine ⟨by omega,by omega,iteI (fun h=>?_) (fun h=>?_)⟩
 ·have hE:=sp
  rw [if_neg (by omega),if_neg (by omega),if_neg (by omega),if_neg (by omega),if_neg (by omega),if_neg (by omega),if_neg (by omega),if_neg (by omega),if_pos (by omega)] at hE
  refine ⟨rfl,by omega,by omega,(),Wk.trans (Wk.sealBox 3 (y:=eEvent (spoilE k v e)) (ids:=[1,7]) ?_ rfl) (Keep.wk (ids:=[some 0,some 1,some 2,some 3,some 4]) ?_)⟩
  ·rw [hE]
   simp only [push_cast,zA,zB,zC,zD,zE,zF,zG,↓reduceIte,reduceCtorEq,boxTake,eEvent,eStringS,eGrantS,hg,List.map_append,List.map_cons,List.map_nil,List.nil_append]<;>rfl
  ·simp only [push_cast,zA,zB,zC,zD,zE,zF,zG,↓reduceIte,reduceCtorEq,killAll]<;>trivial
 refine ⟨by omega,by omega,iteI (fun h=>?_) (fun h=>?_)⟩
 ·have hE:=sp
  rw [if_neg (by omega),if_neg (by omega),if_neg (by omega),if_neg (by omega),if_neg (by omega),if_neg (by omega),if_neg (by omega),if_neg (by omega),if_neg (by omega),if_pos (by omega)] at hE
  refine ⟨rfl,by omega,rfl,by omega,by omega,(),Wk.trans (Wk.sealBox 3 (y:=eEvent (spoilE k v e)) (ids:=[8,2]) ?_ rfl) (Keep.wk (ids:=[some 0,some 1,some 2,some 3,some 4]) ?_)⟩
  ·rw [hE]
   simp only [push_cast,zA,zB,zC,zD,zE,zF,zG,↓reduceIte,reduceCtorEq,boxTake,eEvent,eStringS,eGrantS,hg,List.map_append,List.map_cons,List.map_nil,List.nil_append]<;>rfl
  ·simp only [push_cast,zA,zB,zC,zD,zE,zF,zG,↓reduceIte,reduceCtorEq,killAll]<;>trivial
 refine ⟨by omega,by omega,iteI (fun h=>?_) (fun h=>?_)⟩
 ·have hE:=sp
  rw [if_neg (by omega),if_neg (by omega),if_neg (by omega),if_neg (by omega),if_neg (by omega),if_neg (by omega),if_neg (by omega),if_neg (by omega),if_neg (by omega),if_neg (by omega),if_pos (by omega)] at hE
  intro hal
  refine WL.loop (ι:=Nat) (D:=(fun i=>if i=39 then (8,[(false,0),(false,1),(false,2),(false,3),(false,4),(false,5),(false,6),(true,7)]) else if i=28 then (6,[(false,0),(false,1),(false,2),(false,3),(false,4),(true,5)]) else (0,[]))) (fun m=>m=0 ∨ e.auth.length + m≤9 + v % 3) (fun m=>⟨167,[(3,.rf 3 0),(4,.rf 4 0),(6,.t (.i .i64 v)),(8,.t (.i .i64 ((e.auth.length + m : Nat) : Int)))],[rdO b (np b (np b p)),stO e.prev,apO (stO e.auth) .dead m,.box (evW e (apX (.sr 2) 5 m) (.sr 1) .ns),.box zEv,apO .dead (stO (e.auth ++ moreA (e.auth.length + m) e.auth.length)) m]⟩) (fun m=>100 - m) mixed (by kernel_rfl) 0 (.inl rfl) (Keep.wk (ids:=[some 0,some 1,some 2,some 3,some 4,none]) ?_) ?_
  ·simp only [push_cast,zA,zB,zC,zD,zE,zF,zG,↓reduceIte,reduceCtorEq,apX,apO,Nat.add_zero]<;>trivial
  intro m hm
  cases m with
  | zero =>
    simp only [apX,apO,Nat.add_zero]
    have hdl:=decT_len e.auth.length 15 (by omega)
    simp -implicitDefEqProofs (maxSteps:=2000000) only [push_cast,zA,zB,zC,zD,zE,zF,zG,↓reduceIte,reduceCtorEq]
    refine ⟨by omega,by omega,by unfold inI64; omega,iteI (fun h1=>?_) (fun h1=>?_)⟩
    ·refine CallV.t (l1Dec e.auth.length (by omega)) (.inl rfl) ?_
     simp -implicitDefEqProofs (maxSteps:=2000000) only [push_cast,zA,zB,zC,zD,zE,zF,zG,↓reduceIte,reduceCtorEq]
     have hsn : moreA (e.auth.length + 1) e.auth.length=[[36,102] ++ decT e.auth.length]:=by rw [show e.auth.length + 1=e.auth.length + (0 + 1) from rfl,moreA_snoc,Nat.add_zero,(more0 (Nat.le_refl _)).1]; rfl
     have hml:=moreA_len (n:=e.auth.length + 1) (i:=e.auth.length)
     have hml2:=moreA_len (n:=e.auth.length) (i:=e.auth.length)
     refine ⟨by omega,rfl,by omega,rfl,by omega,by omega,by unfold inI64; omega,1,.inr (by omega),by omega,Keep.wk (ids:=[some 0,some 1,some 2,some 3,some 4,some 7]) ?_⟩
     simp only [push_cast,zA,zB,zC,zD,zE,zF,zG,↓reduceIte,reduceCtorEq,apX,apO,hsn,hg,List.map_append,List.map_cons,List.map_nil,List.nil_append,List.append_assoc,Int.add_assoc]<;>first | rfl | trivial
    ·have hm0 : moreA (9 + v % 3) e.auth.length=moreA e.auth.length e.auth.length:=by
      rw [(more0 (by omega)).1,(more0 (Nat.le_refl _)).1]
     rw [hm0] at hE
     refine ⟨(),Wk.trans (Wk.sealBox 3 (y:=eEvent (spoilE k v e)) (ids:=[1,2]) ?_ rfl) (Keep.wk (ids:=[some 0,some 1,some 2,some 3,some 4]) ?_)⟩
     ·rw [hE]
      simp only [push_cast,zA,zB,zC,zD,zE,zF,zG,↓reduceIte,reduceCtorEq,boxTake,eEvent,eStringS,eGrantS,hg,List.map_append,List.map_cons,List.map_nil,List.nil_append,(more0 (Nat.le_refl _)).1,(more0 (Nat.le_refl _)).2,List.append_nil]<;>rfl
     ·simp only [push_cast,zA,zB,zC,zD,zE,zF,zG,↓reduceIte,reduceCtorEq,killAll]<;>trivial
  | succ m =>
    simp only [apX,apO]
    have hdl:=decT_len (e.auth.length + (m + 1)) 15 (by omega)
    simp -implicitDefEqProofs (maxSteps:=2000000) only [push_cast,zA,zB,zC,zD,zE,zF,zG,↓reduceIte,reduceCtorEq]
    refine ⟨by omega,by omega,by unfold inI64; omega,iteI (fun h1=>?_) (fun h1=>?_)⟩
    ·rw [show ((e.auth.length : Int) + ((m:Int) + 1))=((e.auth.length + (m + 1) : Nat) : Int) by omega]
     refine CallV.t (l1Dec (e.auth.length + (m + 1)) (by omega)) (.inl rfl) ?_
     simp -implicitDefEqProofs (maxSteps:=2000000) only [push_cast,zA,zB,zC,zD,zE,zF,zG,↓reduceIte,reduceCtorEq]
     have hsn : moreA (e.auth.length + (m + 1 + 1)) e.auth.length=moreA (e.auth.length + (m + 1)) e.auth.length ++ [[36,102] ++ decT (e.auth.length + (m + 1))]:=moreA_snoc
     have hml:=moreA_len (n:=e.auth.length + (m + 1 + 1)) (i:=e.auth.length)
     have hml2:=moreA_len (n:=(e.auth.length + (m + 1))) (i:=e.auth.length)
     refine ⟨by omega,rfl,by omega,rfl,by omega,by omega,by unfold inI64; omega,m + 1 + 1,.inr (by omega),by omega,Keep.wk (ids:=[some 0,some 1,some 2,some 3,some 4,some 7]) ?_⟩
     simp only [push_cast,zA,zB,zC,zD,zE,zF,zG,↓reduceIte,reduceCtorEq,apX,apO,hsn,hg,List.map_append,List.map_cons,List.map_nil,List.nil_append,List.append_assoc,Int.add_assoc]<;>first | rfl | trivial
    ·have hm0 : moreA (9 + v % 3) e.auth.length=moreA (e.auth.length + (m + 1)) e.auth.length:=by
      congr 1; omega
     rw [hm0] at hE
     refine ⟨(),Wk.trans (Wk.sealBox 3 (y:=eEvent (spoilE k v e)) (ids:=[1,5]) ?_ rfl) (Keep.wk (ids:=[some 0,some 1,some 2,some 3,some 4]) ?_)⟩
     ·rw [hE]
      simp only [push_cast,zA,zB,zC,zD,zE,zF,zG,↓reduceIte,reduceCtorEq,boxTake,eEvent,eStringS,eGrantS,hg,List.map_append,List.map_cons,List.map_nil,List.nil_append,List.append_nil]<;>rfl
     ·simp only [push_cast,zA,zB,zC,zD,zE,zF,zG,↓reduceIte,reduceCtorEq,killAll]<;>trivial
 refine ⟨by omega,by omega,iteI (fun h=>?_) (fun h=>?_)⟩
 ·have hE:=sp
  rw [if_neg (by omega),if_neg (by omega),if_neg (by omega),if_neg (by omega),if_neg (by omega),if_neg (by omega),if_neg (by omega),if_neg (by omega),if_neg (by omega),if_neg (by omega),if_neg (by omega),if_pos (by omega)] at hE
  refine ⟨(),Wk.trans (Wk.sealBox 3 (y:=eEvent (spoilE k v e)) (ids:=[1,2]) ?_ rfl) (Keep.wk (ids:=[some 0,some 1,some 2,some 3,some 4]) ?_)⟩
  ·rw [hE]
   simp only [push_cast,zA,zB,zC,zD,zE,zF,zG,↓reduceIte,reduceCtorEq,boxTake,eEvent,eStringS,eGrantS,hg,List.map_append,List.map_cons,List.map_nil,List.nil_append]<;>rfl
  ·simp only [push_cast,zA,zB,zC,zD,zE,zF,zG,↓reduceIte,reduceCtorEq,killAll]<;>trivial
 refine ⟨by omega,by omega,iteI (fun h=>?_) (fun h=>?_)⟩
 ·have hE:=sp
  rw [if_neg (by omega),if_neg (by omega),if_neg (by omega),if_neg (by omega),if_neg (by omega),if_neg (by omega),if_neg (by omega),if_neg (by omega),if_neg (by omega),if_neg (by omega),if_neg (by omega),if_neg (by omega),if_pos (by omega)] at hE
  have hmul : inI64 (((v:Int) % 3 - 1) * (1000000 + (v:Int) / 128)):=by
   have h3 : (v:Int) % 3=0 ∨ (v:Int) % 3=1 ∨ (v:Int) % 3=2:=by omega
   unfold inI64
   rcases h3 with h3 | h3 | h3<;>rw [h3]<;>omega
  refine ⟨by omega,by omega,by unfold inI64; omega,by omega,by omega,by unfold inI64; omega,by unfold inI64; omega,hmul,rfl,by omega,rfl,by omega,by omega,(),Wk.trans (Wk.sealBox 3 (y:=eEvent (spoilE k v e)) (ids:=[1,2,8]) ?_ rfl) (Keep.wk (ids:=[some 0,some 1,some 2,some 3,some 4]) ?_)⟩
  ·rw [hE]
   simp only [push_cast,zA,zB,zC,zD,zE,zF,zG,↓reduceIte,reduceCtorEq,boxTake,eEvent,eStringS,eGrantS,hg,List.map_append,List.map_cons,List.map_nil,List.nil_append]<;>rfl
  ·simp only [push_cast,zA,zB,zC,zD,zE,zF,zG,↓reduceIte,reduceCtorEq,killAll]<;>trivial
 refine ⟨by omega,by omega,iteI (fun h=>?_) (fun h=>?_)⟩
 ·have hE:=sp
  rw [if_neg (by omega),if_neg (by omega),if_neg (by omega),if_neg (by omega),if_neg (by omega),if_neg (by omega),if_neg (by omega),if_neg (by omega),if_neg (by omega),if_neg (by omega),if_neg (by omega),if_neg (by omega),if_neg (by omega),if_pos (by omega)] at hE
  have h4 : v % 4=0 ∨ v % 4=1 ∨ v % 4=2 ∨ v % 4=3:=by omega
  have e4 : ((v:Int) % 4).toNat=v % 4:=by omega
  refine ⟨rfl,by omega,by omega,by omega,by omega,by omega,fun y hy=>?_⟩
  rw [e4] at hy
  have hy : y = .s (([sCreate,sMember,sPower,sRules][v % 4]?).getD []):=by
   rcases h4 with h4 | h4 | h4 | h4<;>rw [h4] at hy ⊢ <;> (cases hy; rfl)
  subst hy
  simp -implicitDefEqProofs (maxSteps:=2000000) only [push_cast,zA,zB,zC,zD,zE,zF,zG,↓reduceIte,reduceCtorEq]
  refine ⟨(),Wk.trans (Wk.sealBox 3 (y:=eEvent (spoilE k v e)) (ids:=[1,2]) ?_ rfl) (Keep.wk (ids:=[some 0,some 1,some 2,some 3,some 4]) ?_)⟩
  ·rw [hE]
   simp only [push_cast,zA,zB,zC,zD,zE,zF,zG,↓reduceIte,reduceCtorEq,boxTake,eEvent,eStringS,eGrantS,hg,List.map_append,List.map_cons,List.map_nil,List.nil_append]<;>rfl
  ·simp only [push_cast,zA,zB,zC,zD,zE,zF,zG,↓reduceIte,reduceCtorEq,killAll]<;>trivial
 refine ⟨by omega,by omega,iteI (fun h=>?_) (fun h=>?_)⟩
 ·have hE:=sp
  rw [if_neg (by omega),if_neg (by omega),if_neg (by omega),if_neg (by omega),if_neg (by omega),if_neg (by omega),if_neg (by omega),if_neg (by omega),if_neg (by omega),if_neg (by omega),if_neg (by omega),if_neg (by omega),if_neg (by omega),if_neg (by omega),if_pos (by omega)] at hE
  refine WL.loop (ι:=Nat) (D:=(fun i=>if i=39 then (8,[(false,0),(false,1),(false,2),(false,3),(false,4),(false,5),(false,6),(true,7)]) else if i=28 then (6,[(false,0),(false,1),(false,2),(false,3),(false,4),(true,5)]) else (0,[]))) (fun m=>m=0 ∨ e.grants.length + m≤49 + v % 3) (fun m=>⟨167,[(3,.rf 3 0),(4,.rf 4 0),(6,.t (.i .i64 v)),(9,.t (.i .i64 ((e.grants.length + m : Nat) : Int)))],[rdO b (np b (np b p)),stO e.prev,stO e.auth,.box (evW e (.sr 2) (.sr 1) (apX .ns 5 m)),.box zEv,apO .dead (grO (e.grants ++ moreG (e.grants.length + m) e.grants.length)) m]⟩) (fun m=>100 - m) mixed (by kernel_rfl) 0 (.inl rfl) (Keep.wk (ids:=[some 0,some 1,some 2,some 3,some 4,none]) ?_) ?_
  ·simp only [push_cast,zA,zB,zC,zD,zE,zF,zG,↓reduceIte,reduceCtorEq,apX,apO,Nat.add_zero,hg]<;>trivial
  intro m hm
  cases m with
  | zero =>
    simp only [apX,apO,Nat.add_zero]
    have hdl:=decT_len (1000 + e.grants.length) 15 (by omega)
    simp -implicitDefEqProofs (maxSteps:=2000000) only [push_cast,zA,zB,zC,zD,zE,zF,zG,↓reduceIte,reduceCtorEq]
    refine ⟨by omega,by omega,by unfold inI64; omega,iteI (fun h1=>?_) (fun h1=>?_)⟩
    ·refine ⟨by unfold inI64; omega,?_⟩
     rw [show (1000 + (e.grants.length : Int))=(((1000 + e.grants.length) : Nat) : Int) by omega]
     refine CallV.t (l1Dec (1000 + e.grants.length) (by omega)) (.inl rfl) ?_
     simp -implicitDefEqProofs (maxSteps:=2000000) only [push_cast,zA,zB,zC,zD,zE,zF,zG,↓reduceIte,reduceCtorEq]
     have hsn : moreG (e.grants.length + 1) e.grants.length=[(⟨122 :: decT (1000 + e.grants.length),0⟩ : Grant)]:=by rw [show e.grants.length + 1=e.grants.length + (0 + 1) from rfl,moreG_snoc,Nat.add_zero,(more0 (Nat.le_refl _)).2]; rfl
     have hml:=moreG_len (n:=e.grants.length + 1) (i:=e.grants.length)
     have hml2:=moreG_len (n:=e.grants.length) (i:=e.grants.length)
     simp only [hg,List.length_nil,Nat.zero_add] at hsn
     refine ⟨by omega,rfl,by omega,rfl,by omega,by omega,by unfold inI64; omega,1,.inr (by omega),by omega,Keep.wk (ids:=[some 0,some 1,some 2,some 3,some 4,some 7]) ?_⟩
     simp only [push_cast,zA,zB,zC,zD,zE,zF,zG,↓reduceIte,reduceCtorEq,apX,apO,hsn,hg,List.map_append,List.map_cons,List.map_nil,List.nil_append,List.append_assoc,Int.add_assoc,Nat.zero_add,List.length_nil]<;>first | rfl | trivial
    ·have hm0 : moreG (49 + v % 3) e.grants.length=moreG e.grants.length e.grants.length:=by
      rw [(more0 (by omega)).2,(more0 (Nat.le_refl _)).2]
     rw [hm0] at hE
     refine ⟨(),Wk.trans (Wk.sealBox 3 (y:=eEvent (spoilE k v e)) (ids:=[1,2]) ?_ rfl) (Keep.wk (ids:=[some 0,some 1,some 2,some 3,some 4]) ?_)⟩
     ·rw [hE]
      simp only [push_cast,zA,zB,zC,zD,zE,zF,zG,↓reduceIte,reduceCtorEq,boxTake,eEvent,eStringS,eGrantS,hg,List.map_append,List.map_cons,List.map_nil,List.nil_append,(more0 (Nat.le_refl _)).1,(more0 (Nat.le_refl _)).2,List.append_nil]<;>rfl
     ·simp only [push_cast,zA,zB,zC,zD,zE,zF,zG,↓reduceIte,reduceCtorEq,killAll]<;>trivial
  | succ m =>
    simp only [apX,apO]
    have hdl:=decT_len (1000 + (e.grants.length + (m + 1))) 15 (by omega)
    simp -implicitDefEqProofs (maxSteps:=2000000) only [push_cast,zA,zB,zC,zD,zE,zF,zG,↓reduceIte,reduceCtorEq]
    refine ⟨by omega,by omega,by unfold inI64; omega,iteI (fun h1=>?_) (fun h1=>?_)⟩
    ·refine ⟨by unfold inI64; omega,?_⟩
     rw [show (1000 + ((e.grants.length : Int) + ((m:Int) + 1)))=(((1000 + (e.grants.length + (m + 1))) : Nat) : Int) by omega]
     refine CallV.t (l1Dec (1000 + (e.grants.length + (m + 1))) (by omega)) (.inl rfl) ?_
     simp -implicitDefEqProofs (maxSteps:=2000000) only [push_cast,zA,zB,zC,zD,zE,zF,zG,↓reduceIte,reduceCtorEq]
     have hsn : moreG (e.grants.length + (m + 1 + 1)) e.grants.length=moreG (e.grants.length + (m + 1)) e.grants.length ++ [(⟨122 :: decT (1000 + (e.grants.length + (m + 1))),0⟩ : Grant)]:=moreG_snoc
     have hml:=moreG_len (n:=e.grants.length + (m + 1 + 1)) (i:=e.grants.length)
     have hml2:=moreG_len (n:=(e.grants.length + (m + 1))) (i:=e.grants.length)
     simp only [hg,List.length_nil,Nat.zero_add] at hsn
     refine ⟨by omega,rfl,by omega,rfl,by omega,by omega,by unfold inI64; omega,m + 1 + 1,.inr (by omega),by omega,Keep.wk (ids:=[some 0,some 1,some 2,some 3,some 4,some 7]) ?_⟩
     simp only [push_cast,zA,zB,zC,zD,zE,zF,zG,↓reduceIte,reduceCtorEq,apX,apO,hsn,hg,List.map_append,List.map_cons,List.map_nil,List.nil_append,List.append_assoc,Int.add_assoc,Nat.zero_add,List.length_nil]<;>first | rfl | trivial
    ·have hm0 : moreG (49 + v % 3) e.grants.length=moreG (e.grants.length + (m + 1)) e.grants.length:=by
      congr 1; omega
     rw [hm0] at hE
     refine ⟨(),Wk.trans (Wk.sealBox 3 (y:=eEvent (spoilE k v e)) (ids:=[1,2,5]) ?_ rfl) (Keep.wk (ids:=[some 0,some 1,some 2,some 3,some 4]) ?_)⟩
     ·rw [hE]
      simp only [push_cast,zA,zB,zC,zD,zE,zF,zG,↓reduceIte,reduceCtorEq,boxTake,eEvent,eStringS,eGrantS,hg,List.map_append,List.map_cons,List.map_nil,List.nil_append,List.append_nil]<;>rfl
     ·simp only [push_cast,zA,zB,zC,zD,zE,zF,zG,↓reduceIte,reduceCtorEq,killAll]<;>trivial
 ·have hE:=sp
  rw [if_neg (by omega),if_neg (by omega),if_neg (by omega),if_neg (by omega),if_neg (by omega),if_neg (by omega),if_neg (by omega),if_neg (by omega),if_neg (by omega),if_neg (by omega),if_neg (by omega),if_neg (by omega),if_neg (by omega),if_neg (by omega),if_neg (by omega)] at hE
  refine ⟨rfl,by omega,(),Wk.trans (Wk.sealBox 3 (y:=eEvent (spoilE k v e)) (ids:=[1,7]) ?_ rfl) (Keep.wk (ids:=[some 0,some 1,some 2,some 3,some 4]) ?_)⟩
  ·rw [hE]
   simp only [push_cast,zA,zB,zC,zD,zE,zF,zG,↓reduceIte,reduceCtorEq,boxTake,eEvent,eStringS,eGrantS,hg,List.map_append,List.map_cons,List.map_nil,List.nil_append]<;>rfl
  ·simp only [push_cast,zA,zB,zC,zD,zE,zF,zG,↓reduceIte,reduceCtorEq,killAll]<;>trivial
theorem l1SpoilEventG (b:List UInt8) (p:Nat) (e:Event) (hB:Bd.B≤2147483648) (hb:b.length≤1000) (hp:p≤500) (hf:e.prev.length≤300∧e.auth.length≤300∧e.grants.length≤300) : ConM P0 88 [.rf 0 0,evW e (.sr 2) (.sr 1) (.sr 3)] [rdO b p,stO e.prev,stO e.auth,grO e.grants] (.t (eEvent (spoilE (nx b p) (nx b (np b p)) e))) [rdO b (np b (np b p)),.dead,.dead,.dead]:=by
 refine ConM.intro (fn:=Tryz.f88) [.cell 4 42] (fun i=>if i=1000041 then (999999,[]) else if i=39 then (8,[(false,0),(false,1),(false,2),(false,3),(false,4),(false,5),(false,6),(true,7)]) else if i=28 then (6,[(false,0),(false,1),(false,2),(false,3),(false,4),(true,5)]) else (0,[])) mixed (by kernel_rfl) rfl (by decide) rfl (by rfl) (by kernel_rfl) ?_
 simp -implicitDefEqProofs (maxSteps:=2000000) only [push_cast,zA,zB,zC,zD,zE,zF,zG,↓reduceIte,reduceCtorEq]
 have hlo:=Bd.lo
 have hhi:=Bd.hi
 obtain ⟨hf1,hf2,hf3⟩:=hf
 have hnp : np b p≤501:=by unfold np; split<;>omega
 refine Callx.hand [0] (rdNextW b p hb (by omega)) (by decide) (by simp only [push_cast,zA,zB,zC,zD,zE,zF,zG,↓reduceIte,reduceCtorEq]) rfl rfl (by simp only [push_cast,zA,zB,zC,zD,zE,zF,zG,↓reduceIte,reduceCtorEq]<;>rfl) rfl (.inr ⟨rfl,by simp only [push_cast,zA,zB,zC,zD,zE,zF,zG,↓reduceIte,reduceCtorEq]⟩) ?_
 simp -implicitDefEqProofs (maxSteps:=2000000) only [push_cast,zA,zB,zC,zD,zE,zF,zG,↓reduceIte,reduceCtorEq]
 refine Callx.hand [0] (rdNextW b (np b p) hb (by omega)) (by decide) (by simp only [push_cast,zA,zB,zC,zD,zE,zF,zG,↓reduceIte,reduceCtorEq]) rfl rfl (by simp only [push_cast,zA,zB,zC,zD,zE,zF,zG,↓reduceIte,reduceCtorEq]<;>rfl) rfl (.inr ⟨rfl,by simp only [push_cast,zA,zB,zC,zD,zE,zF,zG,↓reduceIte,reduceCtorEq]⟩) ?_
 simp -implicitDefEqProofs (maxSteps:=2000000) only [push_cast,zA,zB,zC,zD,zE,zF,zG,↓reduceIte,reduceCtorEq]
 have hk:=nx_lt (b:=b) (p:=p)
 have hv:=nx_lt (b:=b) (p:=np b p)
 generalize nx b (np b p)=v at *
 generalize nx b p=k at *
 refine ⟨rfl,by omega,?_⟩
 have hJ:=l1Join [ten,ten,ten,ten] [] (by show (40:Nat) < _; omega)
 refine Callx.closed hJ rfl rfl (.inr ⟨rfl,rfl⟩) ?_
 simp -implicitDefEqProofs (maxSteps:=2000000) only [push_cast,zA,zB,zC,zD,zE,zF,zG,↓reduceIte,reduceCtorEq]
 have e10 : ((v:Int) % 10).toNat=v % 10:=by omega
 rw [e10]
 refine ⟨rfl,by omega,by omega,by omega,by omega,by omega,fun y hy=>?_⟩
 have hy : y = .s (oddT v):=by
  unfold oddT
  have h10 : v % 10=0 ∨ v % 10=1 ∨ v % 10=2 ∨ v % 10=3 ∨ v % 10=4 ∨ v % 10=5 ∨ v % 10=6 ∨ v % 10=7 ∨ v % 10=8 ∨ v % 10=9:=by omega
  rcases h10 with h | h | h | h | h | h | h | h | h | h<;>rw [h] at hy ⊢ <;> (cases hy; rfl)
 subst hy
 have hol : (oddT v).length≤41:=by
  unfold oddT
  have h10 : v % 10=0 ∨ v % 10=1 ∨ v % 10=2 ∨ v % 10=3 ∨ v % 10=4 ∨ v % 10=5 ∨ v % 10=6 ∨ v % 10=7 ∨ v % 10=8 ∨ v % 10=9:=by omega
  rcases h10 with h | h | h | h | h | h | h | h | h | h<;>rw [h]<;>decide
 have hsp : ∀ {e':Event},spoilE k v e=e'→spoilE k v e=e':=fun h=>h
 simp -implicitDefEqProofs (maxSteps:=2000000) only [push_cast,zA,zB,zC,zD,zE,zF,zG,↓reduceIte,reduceCtorEq]
 refine W.join (ι:=Unit) (D:=(fun i=>if i=39 then (8,[(false,0),(false,1),(false,2),(false,3),(false,4),(false,5),(false,6),(true,7)]) else if i=28 then (6,[(false,0),(false,1),(false,2),(false,3),(false,4),(true,5)]) else (0,[]))) (fun _=>True) (fun _=>⟨167,[(3,.rf 4 0),(4,.rf 5 0)],[rdO b (np b (np b p)),.dead,.dead,.dead,.box (.t (eEvent (spoilE k v e))),.box zEv]⟩) mixed (by kernel_rfl) ?_ (fun _ _=>?_)
 rotate_left
 ·simp -implicitDefEqProofs (maxSteps:=2000000) only [push_cast,zA,zB,zC,zD,zE,zF,zG,↓reduceIte,reduceCtorEq]
  exact ⟨rfl,Rest.of [some 0,some 1,some 2,some 3] rfl rfl (by simp only [push_cast,zA,zB,zC,zD,zE,zF,zG,↓reduceIte,reduceCtorEq]<;>first | rfl | trivial)⟩
 simp -implicitDefEqProofs (maxSteps:=2000000) only [push_cast,zA,zB,zC,zD,zE,zF,zG,↓reduceIte,reduceCtorEq]
 have sp : spoilE k v e=spoilE k v e:=rfl
 conv at sp=>rhs; unfold spoilE
 clear hy
 refine ⟨by omega,by omega,iteI (fun h=>?_) (fun h=>?_)⟩
 ·have hE:=sp
  rw [if_pos (by omega)] at hE
  refine ⟨(),Wk.trans (Wk.sealBox 4 (y:=eEvent (spoilE k v e)) (ids:=[1,2,3]) ?_ rfl) (Keep.wk (ids:=[some 0,some 1,some 2,some 3,some 4,some 5]) ?_)⟩
  ·rw [hE]
   simp only [push_cast,zA,zB,zC,zD,zE,zF,zG,↓reduceIte,reduceCtorEq,boxTake,eEvent,eStringS,eGrantS,List.map_append,List.map_cons,List.map_nil,List.nil_append]<;>rfl
  ·simp only [push_cast,zA,zB,zC,zD,zE,zF,zG,↓reduceIte,reduceCtorEq,killAll]<;>trivial
 refine ⟨by omega,by omega,iteI (fun h=>?_) (fun h=>?_)⟩
 ·have hE:=sp
  rw [if_neg (by omega),if_pos (by omega)] at hE
  refine ⟨(),Wk.trans (Wk.sealBox 4 (y:=eEvent (spoilE k v e)) (ids:=[1,2,3]) ?_ rfl) (Keep.wk (ids:=[some 0,some 1,some 2,some 3,some 4,some 5]) ?_)⟩
  ·rw [hE]
   simp only [push_cast,zA,zB,zC,zD,zE,zF,zG,↓reduceIte,reduceCtorEq,boxTake,eEvent,eStringS,eGrantS,List.map_append,List.map_cons,List.map_nil,List.nil_append]<;>rfl
  ·simp only [push_cast,zA,zB,zC,zD,zE,zF,zG,↓reduceIte,reduceCtorEq,killAll]<;>trivial
 refine ⟨by omega,by omega,iteI (fun h=>?_) (fun h=>?_)⟩
 ·have hE:=sp
  rw [if_neg (by omega),if_neg (by omega),if_pos (by omega)] at hE
  refine ⟨(),Wk.trans (Wk.sealBox 4 (y:=eEvent (spoilE k v e)) (ids:=[1,2,3]) ?_ rfl) (Keep.wk (ids:=[some 0,some 1,some 2,some 3,some 4,some 5]) ?_)⟩
  ·rw [hE]
   simp only [push_cast,zA,zB,zC,zD,zE,zF,zG,↓reduceIte,reduceCtorEq,boxTake,eEvent,eStringS,eGrantS,List.map_append,List.map_cons,List.map_nil,List.nil_append]<;>rfl
  ·simp only [push_cast,zA,zB,zC,zD,zE,zF,zG,↓reduceIte,reduceCtorEq,killAll]<;>trivial
 refine ⟨by omega,by omega,iteI (fun h=>?_) (fun h=>?_)⟩
 ·have hE:=sp
  rw [if_neg (by omega),if_neg (by omega),if_neg (by omega),if_pos (by omega)] at hE
  refine ⟨(),Wk.trans (Wk.sealBox 4 (y:=eEvent (spoilE k v e)) (ids:=[1,2,3]) ?_ rfl) (Keep.wk (ids:=[some 0,some 1,some 2,some 3,some 4,some 5]) ?_)⟩
  ·rw [hE]
   simp only [push_cast,zA,zB,zC,zD,zE,zF,zG,↓reduceIte,reduceCtorEq,boxTake,eEvent,eStringS,eGrantS,List.map_append,List.map_cons,List.map_nil,List.nil_append]<;>rfl
  ·simp only [push_cast,zA,zB,zC,zD,zE,zF,zG,↓reduceIte,reduceCtorEq,killAll]<;>trivial
 refine ⟨by omega,by omega,iteI (fun h=>?_) (fun h=>?_)⟩
 ·have hE:=sp
  rw [if_neg (by omega),if_neg (by omega),if_neg (by omega),if_neg (by omega),if_pos (by omega)] at hE
  refine ⟨(),Wk.trans (Wk.sealBox 4 (y:=eEvent (spoilE k v e)) (ids:=[1,2,3]) ?_ rfl) (Keep.wk (ids:=[some 0,some 1,some 2,some 3,some 4,some 5]) ?_)⟩
  ·rw [hE]
   simp only [push_cast,zA,zB,zC,zD,zE,zF,zG,↓reduceIte,reduceCtorEq,boxTake,eEvent,eStringS,eGrantS,List.map_append,List.map_cons,List.map_nil,List.nil_append]<;>rfl
  ·simp only [push_cast,zA,zB,zC,zD,zE,zF,zG,↓reduceIte,reduceCtorEq,killAll]<;>trivial
 refine ⟨by omega,by omega,iteI (fun h=>?_) (fun h=>?_)⟩
 ·have hE:=sp
  rw [if_neg (by omega),if_neg (by omega),if_neg (by omega),if_neg (by omega),if_neg (by omega),if_pos (by omega)] at hE
  refine ⟨by omega,by omega,by unfold inI64; omega,(),Wk.trans (Wk.sealBox 4 (y:=eEvent (spoilE k v e)) (ids:=[1,2,3]) ?_ rfl) (Keep.wk (ids:=[some 0,some 1,some 2,some 3,some 4,some 5]) ?_)⟩
  ·rw [hE]
   simp only [push_cast,zA,zB,zC,zD,zE,zF,zG,↓reduceIte,reduceCtorEq,boxTake,eEvent,eStringS,eGrantS,List.map_append,List.map_cons,List.map_nil,List.nil_append]<;>rfl
  ·simp only [push_cast,zA,zB,zC,zD,zE,zF,zG,↓reduceIte,reduceCtorEq,killAll]<;>trivial
 refine ⟨by omega,by omega,iteI (fun h=>?_) (fun h=>?_)⟩
 ·have hE:=sp
  rw [if_neg (by omega),if_neg (by omega),if_neg (by omega),if_neg (by omega),if_neg (by omega),if_neg (by omega),if_pos (by omega)] at hE
  refine ⟨by unfold inI64; omega,(),Wk.trans (Wk.sealBox 4 (y:=eEvent (spoilE k v e)) (ids:=[1,2,3]) ?_ rfl) (Keep.wk (ids:=[some 0,some 1,some 2,some 3,some 4,some 5]) ?_)⟩
  ·rw [hE]
   simp only [push_cast,zA,zB,zC,zD,zE,zF,zG,↓reduceIte,reduceCtorEq,boxTake,eEvent,eStringS,eGrantS,List.map_append,List.map_cons,List.map_nil,List.nil_append,Int.zero_sub]<;>rfl
  ·simp only [push_cast,zA,zB,zC,zD,zE,zF,zG,↓reduceIte,reduceCtorEq,killAll]<;>trivial
 refine ⟨by omega,by omega,iteI (fun h=>?_) (fun h=>?_)⟩
 ·have hE:=sp
  rw [if_neg (by omega),if_neg (by omega),if_neg (by omega),if_neg (by omega),if_neg (by omega),if_neg (by omega),if_neg (by omega),if_pos (by omega)] at hE
  refine ⟨rfl,by omega,rfl,by omega,by omega,(),Wk.trans (Wk.sealBox 4 (y:=eEvent (spoilE k v e)) (ids:=[9,2,3]) ?_ rfl) (Keep.wk (ids:=[some 0,some 1,some 2,some 3,some 4,some 5]) ?_)⟩
  ·rw [hE]
   simp only [push_cast,zA,zB,zC,zD,zE,zF,zG,↓reduceIte,reduceCtorEq,boxTake,eEvent,eStringS,eGrantS,List.map_append,List.map_cons,List.map_nil,List.nil_append]<;>rfl
  ·simp only [push_cast,zA,zB,zC,zD,zE,zF,zG,↓reduceIte,reduceCtorEq,killAll]<;>trivial
 refine ⟨by omega,by omega,iteI (fun h=>?_) (fun h=>?_)⟩
 ·have hE:=sp
  rw [if_neg (by omega),if_neg (by omega),if_neg (by omega),if_neg (by omega),if_neg (by omega),if_neg (by omega),if_neg (by omega),if_neg (by omega),if_pos (by omega)] at hE
  refine ⟨rfl,by omega,by omega,(),Wk.trans (Wk.sealBox 4 (y:=eEvent (spoilE k v e)) (ids:=[1,8,3]) ?_ rfl) (Keep.wk (ids:=[some 0,some 1,some 2,some 3,some 4,some 5]) ?_)⟩
  ·rw [hE]
   simp only [push_cast,zA,zB,zC,zD,zE,zF,zG,↓reduceIte,reduceCtorEq,boxTake,eEvent,eStringS,eGrantS,List.map_append,List.map_cons,List.map_nil,List.nil_append]<;>rfl
  ·simp only [push_cast,zA,zB,zC,zD,zE,zF,zG,↓reduceIte,reduceCtorEq,killAll]<;>trivial
 refine ⟨by omega,by omega,iteI (fun h=>?_) (fun h=>?_)⟩
 ·have hE:=sp
  rw [if_neg (by omega),if_neg (by omega),if_neg (by omega),if_neg (by omega),if_neg (by omega),if_neg (by omega),if_neg (by omega),if_neg (by omega),if_neg (by omega),if_pos (by omega)] at hE
  refine ⟨rfl,by omega,rfl,by omega,by omega,(),Wk.trans (Wk.sealBox 4 (y:=eEvent (spoilE k v e)) (ids:=[9,2,3]) ?_ rfl) (Keep.wk (ids:=[some 0,some 1,some 2,some 3,some 4,some 5]) ?_)⟩
  ·rw [hE]
   simp only [push_cast,zA,zB,zC,zD,zE,zF,zG,↓reduceIte,reduceCtorEq,boxTake,eEvent,eStringS,eGrantS,List.map_append,List.map_cons,List.map_nil,List.nil_append]<;>rfl
  ·simp only [push_cast,zA,zB,zC,zD,zE,zF,zG,↓reduceIte,reduceCtorEq,killAll]<;>trivial
 refine ⟨by omega,by omega,iteI (fun h=>?_) (fun h=>?_)⟩
 ·have hE:=sp
  rw [if_neg (by omega),if_neg (by omega),if_neg (by omega),if_neg (by omega),if_neg (by omega),if_neg (by omega),if_neg (by omega),if_neg (by omega),if_neg (by omega),if_neg (by omega),if_pos (by omega)] at hE
  intro hal
  refine WL.loop (ι:=Nat) (D:=(fun i=>if i=39 then (8,[(false,0),(false,1),(false,2),(false,3),(false,4),(false,5),(false,6),(true,7)]) else if i=28 then (6,[(false,0),(false,1),(false,2),(false,3),(false,4),(true,5)]) else (0,[]))) (fun m=>m=0 ∨ e.auth.length + m≤9 + v % 3) (fun m=>⟨167,[(3,.rf 4 0),(4,.rf 5 0),(6,.t (.i .i64 v)),(8,.t (.i .i64 ((e.auth.length + m : Nat) : Int)))],[rdO b (np b (np b p)),stO e.prev,apO (stO e.auth) .dead m,grO e.grants,.box (evW e (apX (.sr 2) 6 m) (.sr 1) (.sr 3)),.box zEv,apO .dead (stO (e.auth ++ moreA (e.auth.length + m) e.auth.length)) m]⟩) (fun m=>100 - m) mixed (by kernel_rfl) 0 (.inl rfl) (Keep.wk (ids:=[some 0,some 1,some 2,some 3,some 4,some 5,none]) ?_) ?_
  ·simp only [push_cast,zA,zB,zC,zD,zE,zF,zG,↓reduceIte,reduceCtorEq,apX,apO,Nat.add_zero]<;>trivial
  intro m hm
  cases m with
  | zero =>
    simp only [apX,apO,Nat.add_zero]
    have hdl:=decT_len e.auth.length 15 (by omega)
    simp -implicitDefEqProofs (maxSteps:=2000000) only [push_cast,zA,zB,zC,zD,zE,zF,zG,↓reduceIte,reduceCtorEq]
    refine ⟨by omega,by omega,by unfold inI64; omega,iteI (fun h1=>?_) (fun h1=>?_)⟩
    ·refine CallV.t (l1Dec e.auth.length (by omega)) (.inl rfl) ?_
     simp -implicitDefEqProofs (maxSteps:=2000000) only [push_cast,zA,zB,zC,zD,zE,zF,zG,↓reduceIte,reduceCtorEq]
     have hsn : moreA (e.auth.length + 1) e.auth.length=[[36,102] ++ decT e.auth.length]:=by rw [show e.auth.length + 1=e.auth.length + (0 + 1) from rfl,moreA_snoc,Nat.add_zero,(more0 (Nat.le_refl _)).1]; rfl
     have hml:=moreA_len (n:=e.auth.length + 1) (i:=e.auth.length)
     have hml2:=moreA_len (n:=e.auth.length) (i:=e.auth.length)
     refine ⟨by omega,rfl,by omega,rfl,by omega,by omega,by unfold inI64; omega,1,.inr (by omega),by omega,Keep.wk (ids:=[some 0,some 1,some 2,some 3,some 4,some 5,some 8]) ?_⟩
     simp only [push_cast,zA,zB,zC,zD,zE,zF,zG,↓reduceIte,reduceCtorEq,apX,apO,hsn,List.map_append,List.map_cons,List.map_nil,List.nil_append,List.append_assoc,Int.add_assoc]<;>first | rfl | trivial
    ·have hm0 : moreA (9 + v % 3) e.auth.length=moreA e.auth.length e.auth.length:=by
      rw [(more0 (by omega)).1,(more0 (Nat.le_refl _)).1]
     rw [hm0] at hE
     refine ⟨(),Wk.trans (Wk.sealBox 4 (y:=eEvent (spoilE k v e)) (ids:=[1,2,3]) ?_ rfl) (Keep.wk (ids:=[some 0,some 1,some 2,some 3,some 4,some 5]) ?_)⟩
     ·rw [hE]
      simp only [push_cast,zA,zB,zC,zD,zE,zF,zG,↓reduceIte,reduceCtorEq,boxTake,eEvent,eStringS,eGrantS,List.map_append,List.map_cons,List.map_nil,List.nil_append,(more0 (Nat.le_refl _)).1,(more0 (Nat.le_refl _)).2,List.append_nil]<;>rfl
     ·simp only [push_cast,zA,zB,zC,zD,zE,zF,zG,↓reduceIte,reduceCtorEq,killAll]<;>trivial
  | succ m =>
    simp only [apX,apO]
    have hdl:=decT_len (e.auth.length + (m + 1)) 15 (by omega)
    simp -implicitDefEqProofs (maxSteps:=2000000) only [push_cast,zA,zB,zC,zD,zE,zF,zG,↓reduceIte,reduceCtorEq]
    refine ⟨by omega,by omega,by unfold inI64; omega,iteI (fun h1=>?_) (fun h1=>?_)⟩
    ·rw [show ((e.auth.length : Int) + ((m:Int) + 1))=((e.auth.length + (m + 1) : Nat) : Int) by omega]
     refine CallV.t (l1Dec (e.auth.length + (m + 1)) (by omega)) (.inl rfl) ?_
     simp -implicitDefEqProofs (maxSteps:=2000000) only [push_cast,zA,zB,zC,zD,zE,zF,zG,↓reduceIte,reduceCtorEq]
     have hsn : moreA (e.auth.length + (m + 1 + 1)) e.auth.length=moreA (e.auth.length + (m + 1)) e.auth.length ++ [[36,102] ++ decT (e.auth.length + (m + 1))]:=moreA_snoc
     have hml:=moreA_len (n:=e.auth.length + (m + 1 + 1)) (i:=e.auth.length)
     have hml2:=moreA_len (n:=(e.auth.length + (m + 1))) (i:=e.auth.length)
     refine ⟨by omega,rfl,by omega,rfl,by omega,by omega,by unfold inI64; omega,m + 1 + 1,.inr (by omega),by omega,Keep.wk (ids:=[some 0,some 1,some 2,some 3,some 4,some 5,some 8]) ?_⟩
     simp only [push_cast,zA,zB,zC,zD,zE,zF,zG,↓reduceIte,reduceCtorEq,apX,apO,hsn,List.map_append,List.map_cons,List.map_nil,List.nil_append,List.append_assoc,Int.add_assoc]<;>first | rfl | trivial
    ·have hm0 : moreA (9 + v % 3) e.auth.length=moreA (e.auth.length + (m + 1)) e.auth.length:=by
      congr 1; omega
     rw [hm0] at hE
     refine ⟨(),Wk.trans (Wk.sealBox 4 (y:=eEvent (spoilE k v e)) (ids:=[1,6,3]) ?_ rfl) (Keep.wk (ids:=[some 0,some 1,some 2,some 3,some 4,some 5]) ?_)⟩
     ·rw [hE]
      simp only [push_cast,zA,zB,zC,zD,zE,zF,zG,↓reduceIte,reduceCtorEq,boxTake,eEvent,eStringS,eGrantS,List.map_append,List.map_cons,List.map_nil,List.nil_append,List.append_nil]<;>rfl
     ·simp only [push_cast,zA,zB,zC,zD,zE,zF,zG,↓reduceIte,reduceCtorEq,killAll]<;>trivial
 refine ⟨by omega,by omega,iteI (fun h=>?_) (fun h=>?_)⟩
 ·have hE:=sp
  rw [if_neg (by omega),if_neg (by omega),if_neg (by omega),if_neg (by omega),if_neg (by omega),if_neg (by omega),if_neg (by omega),if_neg (by omega),if_neg (by omega),if_neg (by omega),if_neg (by omega),if_pos (by omega)] at hE
  refine ⟨(),Wk.trans (Wk.sealBox 4 (y:=eEvent (spoilE k v e)) (ids:=[1,2,3]) ?_ rfl) (Keep.wk (ids:=[some 0,some 1,some 2,some 3,some 4,some 5]) ?_)⟩
  ·rw [hE]
   simp only [push_cast,zA,zB,zC,zD,zE,zF,zG,↓reduceIte,reduceCtorEq,boxTake,eEvent,eStringS,eGrantS,List.map_append,List.map_cons,List.map_nil,List.nil_append]<;>rfl
  ·simp only [push_cast,zA,zB,zC,zD,zE,zF,zG,↓reduceIte,reduceCtorEq,killAll]<;>trivial
 refine ⟨by omega,by omega,iteI (fun h=>?_) (fun h=>?_)⟩
 ·have hE:=sp
  rw [if_neg (by omega),if_neg (by omega),if_neg (by omega),if_neg (by omega),if_neg (by omega),if_neg (by omega),if_neg (by omega),if_neg (by omega),if_neg (by omega),if_neg (by omega),if_neg (by omega),if_neg (by omega),if_pos (by omega)] at hE
  have hmul : inI64 (((v:Int) % 3 - 1) * (1000000 + (v:Int) / 128)):=by
   have h3 : (v:Int) % 3=0 ∨ (v:Int) % 3=1 ∨ (v:Int) % 3=2:=by omega
   unfold inI64
   rcases h3 with h3 | h3 | h3<;>rw [h3]<;>omega
  refine ⟨by omega,by omega,by unfold inI64; omega,by omega,by omega,by unfold inI64; omega,by unfold inI64; omega,hmul,rfl,by omega,rfl,by omega,by omega,(),Wk.trans (Wk.sealBox 4 (y:=eEvent (spoilE k v e)) (ids:=[1,2,9]) ?_ rfl) (Keep.wk (ids:=[some 0,some 1,some 2,some 3,some 4,some 5]) ?_)⟩
  ·rw [hE]
   simp only [push_cast,zA,zB,zC,zD,zE,zF,zG,↓reduceIte,reduceCtorEq,boxTake,eEvent,eStringS,eGrantS,List.map_append,List.map_cons,List.map_nil,List.nil_append]<;>rfl
  ·simp only [push_cast,zA,zB,zC,zD,zE,zF,zG,↓reduceIte,reduceCtorEq,killAll]<;>trivial
 refine ⟨by omega,by omega,iteI (fun h=>?_) (fun h=>?_)⟩
 ·have hE:=sp
  rw [if_neg (by omega),if_neg (by omega),if_neg (by omega),if_neg (by omega),if_neg (by omega),if_neg (by omega),if_neg (by omega),if_neg (by omega),if_neg (by omega),if_neg (by omega),if_neg (by omega),if_neg (by omega),if_neg (by omega),if_pos (by omega)] at hE
  have h4 : v % 4=0 ∨ v % 4=1 ∨ v % 4=2 ∨ v % 4=3:=by omega
  have e4 : ((v:Int) % 4).toNat=v % 4:=by omega
  refine ⟨rfl,by omega,by omega,by omega,by omega,by omega,fun y hy=>?_⟩
  rw [e4] at hy
  have hy : y = .s (([sCreate,sMember,sPower,sRules][v % 4]?).getD []):=by
   rcases h4 with h4 | h4 | h4 | h4<;>rw [h4] at hy ⊢ <;> (cases hy; rfl)
  subst hy
  simp -implicitDefEqProofs (maxSteps:=2000000) only [push_cast,zA,zB,zC,zD,zE,zF,zG,↓reduceIte,reduceCtorEq]
  refine ⟨(),Wk.trans (Wk.sealBox 4 (y:=eEvent (spoilE k v e)) (ids:=[1,2,3]) ?_ rfl) (Keep.wk (ids:=[some 0,some 1,some 2,some 3,some 4,some 5]) ?_)⟩
  ·rw [hE]
   simp only [push_cast,zA,zB,zC,zD,zE,zF,zG,↓reduceIte,reduceCtorEq,boxTake,eEvent,eStringS,eGrantS,List.map_append,List.map_cons,List.map_nil,List.nil_append]<;>rfl
  ·simp only [push_cast,zA,zB,zC,zD,zE,zF,zG,↓reduceIte,reduceCtorEq,killAll]<;>trivial
 refine ⟨by omega,by omega,iteI (fun h=>?_) (fun h=>?_)⟩
 ·have hE:=sp
  rw [if_neg (by omega),if_neg (by omega),if_neg (by omega),if_neg (by omega),if_neg (by omega),if_neg (by omega),if_neg (by omega),if_neg (by omega),if_neg (by omega),if_neg (by omega),if_neg (by omega),if_neg (by omega),if_neg (by omega),if_neg (by omega),if_pos (by omega)] at hE
  intro hal
  refine WL.loop (ι:=Nat) (D:=(fun i=>if i=39 then (8,[(false,0),(false,1),(false,2),(false,3),(false,4),(false,5),(false,6),(true,7)]) else if i=28 then (6,[(false,0),(false,1),(false,2),(false,3),(false,4),(true,5)]) else (0,[]))) (fun m=>m=0 ∨ e.grants.length + m≤49 + v % 3) (fun m=>⟨167,[(3,.rf 4 0),(4,.rf 5 0),(6,.t (.i .i64 v)),(9,.t (.i .i64 ((e.grants.length + m : Nat) : Int)))],[rdO b (np b (np b p)),stO e.prev,stO e.auth,apO (grO e.grants) .dead m,.box (evW e (.sr 2) (.sr 1) (apX (.sr 3) 6 m)),.box zEv,apO .dead (grO (e.grants ++ moreG (e.grants.length + m) e.grants.length)) m]⟩) (fun m=>100 - m) mixed (by kernel_rfl) 0 (.inl rfl) (Keep.wk (ids:=[some 0,some 1,some 2,some 3,some 4,some 5,none]) ?_) ?_
  ·simp only [push_cast,zA,zB,zC,zD,zE,zF,zG,↓reduceIte,reduceCtorEq,apX,apO,Nat.add_zero]<;>trivial
  intro m hm
  cases m with
  | zero =>
    simp only [apX,apO,Nat.add_zero]
    have hdl:=decT_len (1000 + e.grants.length) 15 (by omega)
    simp -implicitDefEqProofs (maxSteps:=2000000) only [push_cast,zA,zB,zC,zD,zE,zF,zG,↓reduceIte,reduceCtorEq]
    refine ⟨by omega,by omega,by unfold inI64; omega,iteI (fun h1=>?_) (fun h1=>?_)⟩
    ·refine ⟨by unfold inI64; omega,?_⟩
     rw [show (1000 + (e.grants.length : Int))=(((1000 + e.grants.length) : Nat) : Int) by omega]
     refine CallV.t (l1Dec (1000 + e.grants.length) (by omega)) (.inl rfl) ?_
     simp -implicitDefEqProofs (maxSteps:=2000000) only [push_cast,zA,zB,zC,zD,zE,zF,zG,↓reduceIte,reduceCtorEq]
     have hsn : moreG (e.grants.length + 1) e.grants.length=[(⟨122 :: decT (1000 + e.grants.length),0⟩ : Grant)]:=by rw [show e.grants.length + 1=e.grants.length + (0 + 1) from rfl,moreG_snoc,Nat.add_zero,(more0 (Nat.le_refl _)).2]; rfl
     have hml:=moreG_len (n:=e.grants.length + 1) (i:=e.grants.length)
     have hml2:=moreG_len (n:=e.grants.length) (i:=e.grants.length)
     refine ⟨by omega,rfl,by omega,rfl,by omega,by omega,by unfold inI64; omega,1,.inr (by omega),by omega,Keep.wk (ids:=[some 0,some 1,some 2,some 3,some 4,some 5,some 8]) ?_⟩
     simp only [push_cast,zA,zB,zC,zD,zE,zF,zG,↓reduceIte,reduceCtorEq,apX,apO,hsn,List.map_append,List.map_cons,List.map_nil,List.nil_append,List.append_assoc,Int.add_assoc]<;>first | rfl | trivial
    ·have hm0 : moreG (49 + v % 3) e.grants.length=moreG e.grants.length e.grants.length:=by
      rw [(more0 (by omega)).2,(more0 (Nat.le_refl _)).2]
     rw [hm0] at hE
     refine ⟨(),Wk.trans (Wk.sealBox 4 (y:=eEvent (spoilE k v e)) (ids:=[1,2,3]) ?_ rfl) (Keep.wk (ids:=[some 0,some 1,some 2,some 3,some 4,some 5]) ?_)⟩
     ·rw [hE]
      simp only [push_cast,zA,zB,zC,zD,zE,zF,zG,↓reduceIte,reduceCtorEq,boxTake,eEvent,eStringS,eGrantS,List.map_append,List.map_cons,List.map_nil,List.nil_append,(more0 (Nat.le_refl _)).1,(more0 (Nat.le_refl _)).2,List.append_nil]<;>rfl
     ·simp only [push_cast,zA,zB,zC,zD,zE,zF,zG,↓reduceIte,reduceCtorEq,killAll]<;>trivial
  | succ m =>
    simp only [apX,apO]
    have hdl:=decT_len (1000 + (e.grants.length + (m + 1))) 15 (by omega)
    simp -implicitDefEqProofs (maxSteps:=2000000) only [push_cast,zA,zB,zC,zD,zE,zF,zG,↓reduceIte,reduceCtorEq]
    refine ⟨by omega,by omega,by unfold inI64; omega,iteI (fun h1=>?_) (fun h1=>?_)⟩
    ·refine ⟨by unfold inI64; omega,?_⟩
     rw [show (1000 + ((e.grants.length : Int) + ((m:Int) + 1)))=(((1000 + (e.grants.length + (m + 1))) : Nat) : Int) by omega]
     refine CallV.t (l1Dec (1000 + (e.grants.length + (m + 1))) (by omega)) (.inl rfl) ?_
     simp -implicitDefEqProofs (maxSteps:=2000000) only [push_cast,zA,zB,zC,zD,zE,zF,zG,↓reduceIte,reduceCtorEq]
     have hsn : moreG (e.grants.length + (m + 1 + 1)) e.grants.length=moreG (e.grants.length + (m + 1)) e.grants.length ++ [(⟨122 :: decT (1000 + (e.grants.length + (m + 1))),0⟩ : Grant)]:=moreG_snoc
     have hml:=moreG_len (n:=e.grants.length + (m + 1 + 1)) (i:=e.grants.length)
     have hml2:=moreG_len (n:=(e.grants.length + (m + 1))) (i:=e.grants.length)
     refine ⟨by omega,rfl,by omega,rfl,by omega,by omega,by unfold inI64; omega,m + 1 + 1,.inr (by omega),by omega,Keep.wk (ids:=[some 0,some 1,some 2,some 3,some 4,some 5,some 8]) ?_⟩
     simp only [push_cast,zA,zB,zC,zD,zE,zF,zG,↓reduceIte,reduceCtorEq,apX,apO,hsn,List.map_append,List.map_cons,List.map_nil,List.nil_append,List.append_assoc,Int.add_assoc]<;>first | rfl | trivial
    ·have hm0 : moreG (49 + v % 3) e.grants.length=moreG (e.grants.length + (m + 1)) e.grants.length:=by
      congr 1; omega
     rw [hm0] at hE
     refine ⟨(),Wk.trans (Wk.sealBox 4 (y:=eEvent (spoilE k v e)) (ids:=[1,2,6]) ?_ rfl) (Keep.wk (ids:=[some 0,some 1,some 2,some 3,some 4,some 5]) ?_)⟩
     ·rw [hE]
      simp only [push_cast,zA,zB,zC,zD,zE,zF,zG,↓reduceIte,reduceCtorEq,boxTake,eEvent,eStringS,eGrantS,List.map_append,List.map_cons,List.map_nil,List.nil_append,List.append_nil]<;>rfl
     ·simp only [push_cast,zA,zB,zC,zD,zE,zF,zG,↓reduceIte,reduceCtorEq,killAll]<;>trivial
 ·have hE:=sp
  rw [if_neg (by omega),if_neg (by omega),if_neg (by omega),if_neg (by omega),if_neg (by omega),if_neg (by omega),if_neg (by omega),if_neg (by omega),if_neg (by omega),if_neg (by omega),if_neg (by omega),if_neg (by omega),if_neg (by omega),if_neg (by omega),if_neg (by omega)] at hE
  refine ⟨rfl,by omega,(),Wk.trans (Wk.sealBox 4 (y:=eEvent (spoilE k v e)) (ids:=[1,8,3]) ?_ rfl) (Keep.wk (ids:=[some 0,some 1,some 2,some 3,some 4,some 5]) ?_)⟩
  ·rw [hE]
   simp only [push_cast,zA,zB,zC,zD,zE,zF,zG,↓reduceIte,reduceCtorEq,boxTake,eEvent,eStringS,eGrantS,List.map_append,List.map_cons,List.map_nil,List.nil_append]<;>rfl
  ·simp only [push_cast,zA,zB,zC,zD,zE,zF,zG,↓reduceIte,reduceCtorEq,killAll]<;>trivial
theorem ite_fine {c:Prop} [Decidable c] {a b:Event} (ha:Fine a) (hb:Fine b) : Fine (if c then a else b):=by split<;>assumption
theorem spoil_fine {k v:Nat} {e:Event} (h:e.prev.length≤300∧e.auth.length≤300∧e.grants.length≤300) : Fine (spoilE k v e):=by
 have hlo:=Bd.lo
 obtain ⟨h1,h2,h3⟩:=h
 have hA:=moreA_len (n:=9 + v % 3) (i:=e.auth.length)
 have hG:=moreG_len (n:=49 + v % 3) (i:=e.grants.length)
 unfold spoilE
 repeat' refine ite_fine ?_ ?_
 all_goals (refine ⟨?_,?_,?_⟩<;>(try dsimp only)<;>(try simp only [List.length_append,List.length_cons,List.length_nil])<;>omega)
end Go.Proofs.YtmgdkkhnjkepiaaGreat.BX