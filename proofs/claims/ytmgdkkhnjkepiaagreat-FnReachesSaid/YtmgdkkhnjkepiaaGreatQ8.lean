/-
  Part 8 of what LFnReaches leans on: its texts, merged by a program (prune.py), with what it needs alone.
-/
import Derived.Test.YtmgdkkhnjkepiaaGreatQ7
namespace Go.Proofs.YtmgdkkhnjkepiaaGreat.BX
open Nat (reduceEqDiff reduceLT reduceLeDiff reduceAdd reduceMul reduceSub)
set_option linter.unusedSectionVars false
set_option linter.unusedSimpArgs false
set_option linter.unusedVariables false
open Go Go.RowKit
set_option maxRecDepth 20000
set_option maxHeartbeats 400000
def letters : List UInt8:=[113,119,101,114,116,121,117,105,111,112,97,115,100,102]
def tmG (k:Nat) : Int:=100 + (k:Int) % 7
def letterL (i:Nat) : List UInt8:=(letters.take (i + 1)).drop i
def newE (n k:Nat) : Event:=⟨36 :: (letterL ((k + n) % 14) ++ decT n),userT (k / 4 % 16 % 5),[],false,[],tmG k,[],[],[],[]⟩
def cntG (k:Nat) : Nat:=if 5≤k % 8 then 2 + k % 8 / 7 else 1
def posG (n k i:Nat) : Nat:=if k % 3=0 then n - 1 - i % n else n - 1 - (k / 8 % 4 + i * 3) % n
def idG (es:List Event) (p:Nat) : List UInt8:=((es[p]?).map Event.id).getD []
def prevG (es:List Event) (after:List (List Entry)) (k:Nat) : Nat→List (List UInt8) × List (List Entry)
 | 0 => ([],[])
 | i + 1 => if idG es (posG es.length k i)∈(prevG es after k i).1 then prevG es after k i else ((prevG es after k i).1 ++ [idG es (posG es.length k i)],(prevG es after k i).2 ++ [(after[posG es.length k i]?).getD []])
noncomputable def authG (s:List Entry) (ks:List Slot) : List (List UInt8):=ks.filterMap fun x=>if fOk s x.typ x.key=true then some (fId s x.typ x.key) else none
def auth2 (es:List Event) (k:Nat) (a:List (List UInt8)) : List (List UInt8):=if a=[] ∨ k % 32=31 then [idG es 0] else a
def auth3 (es:List Event) (k:Nat) (a:List (List UInt8)) : List (List UInt8):=if k % 16=7∧idG es (es.length - 1) ∉ a then a ++ [idG es (es.length - 1)] else a
def bodyG (es:List Event) (after:List (List Entry)) (b:List UInt8) (p:Nat) : Event × Nat:=contE b (np b p) { newE es.length (nx b p) with prev:=(prevG es after (nx b p) (cntG (nx b p))).1 }
noncomputable def authL (es:List Event) (after:List (List Entry)) (b:List UInt8) (p:Nat) : List (List UInt8):=auth3 es (nx b p) (auth2 es (nx b p) (authG (resR es (prevG es after (nx b p) (cntG (nx b p))).2) (needOf (bodyG es after b p).1)))
noncomputable def growE (es:List Event) (after:List (List Entry)) (b:List UInt8) (p:Nat) : Event:={ (bodyG es after b p).1 with auth:=authL es after b p }
theorem cntG_le {k:Nat} : 1≤cntG k∧cntG k≤3:=by
 unfold cntG
 split<;>omega
theorem posG_lt {n k i:Nat} (h:0 < n) : posG n k i < n:=by
 unfold posG
 split<;>omega
theorem prevG_len {es:List Event} {after:List (List Entry)} {k:Nat} : ∀ {i:Nat},(prevG es after k i).1.length≤i∧(prevG es after k i).2.length=(prevG es after k i).1.length
 | 0 => ⟨Nat.le_refl _,rfl⟩
 | i + 1 => by
   have h:=prevG_len (es:=es) (after:=after) (k:=k) (i:=i)
   unfold prevG
   split
   ·omega
   ·simp only [List.length_append,List.length_singleton]; omega
theorem contE_auth {b:List UInt8} {p:Nat} {e:Event} : (contE b p e).1.auth=e.auth:=by
 unfold contE
 repeat' split
 all_goals rfl
theorem contE_prev {b:List UInt8} {p:Nat} {e:Event} : (contE b p e).1.prev=e.prev:=by
 unfold contE
 repeat' split
 all_goals rfl
theorem contE_gr {b:List UInt8} {p:Nat} {e:Event} (h:e.grants.length≤11) : (contE b p e).1.grants.length≤11:=by
 unfold contE
 repeat' split
 all_goals first | exact grL_len | exact h
theorem contE_p {b:List UInt8} {p:Nat} {e:Event} (h:p≤b.length) : (contE b p e).2≤b.length:=by
 unfold contE
 repeat' split
 all_goals first | exact grL_p (np_le h) | exact np_le h
variable [Bd]
abbrev evX (e:Event) (x:AV) : AV:=.ag [.t (.s e.id),.t (.s e.sender),.t (.s e.typ),.t (.b e.isState),.t (.s e.key),.t (.i .i64 e.time),.t (eStringS e.prev),x,.t (.s e.value),.t (eGrantS e.grants)]
def auA : List (List UInt8)→AV
 | [] => .ns
 | _ :: _ => .sr 9
def auO : List (List UInt8)→Ob
 | [] => .dead
 | x :: l => .arr 9 1 (.own .leaf) (T.s x :: l.map T.s)
abbrev nwA (n k:Nat) (x:AV) : AV:=.ag [.t (.s (newE n k).id),.t (.s (newE n k).sender),.t (.s []),.t (.b false),.t (.s []),.t (.i .i64 (tmG k)),x,.ns,.t (.s []),.ns]
def pvA : Nat→AV
 | 0 => .ns
 | _ + 1 => .sr 7
def pvO (l:List (List UInt8)) : Nat→Ob
 | 0 => .dead
 | _ + 1 => .arr 9 1 (.own .leaf) (l.map T.s)
abbrev rmO (es:List Event) : Ob:=.arr 42 10 .clo (es.map eEvent)
abbrev afO (after:List (List Entry)) : Ob:=.arr 38 1 .clo (after.map eEntryS)
theorem l2Grow (es:List Event) (after:List (List Entry)) (b:List UInt8) (p:Nat) (hB:Bd.B≤2147483648) (hb:b.length≤1000) (hp:p≤b.length) (hn:0 < es.length) (hm:es.length≤300) (hl:after.length=es.length) : ConM P0 87 [.rf 0 0,.ag [.sr 1],.sr 2] [rdO b p,rmO es,afO after] (.t (eEvent (growE es after b p))) [rdO b (bodyG es after b p).2,rmO es,afO after]:=by
 refine ConM.intro (fn:=Tryz.f87) [.cell 6 42] (fun i=>if i=1000030 then (999999,[]) else if i=1000028 then (999999,[]) else if i=17 then (999999,[]) else if i=1000014 then (999999,[]) else if i=1000007 then (999999,[]) else if i=29 then (10,[(false,0),(false,1),(false,2),(false,3),(false,4),(false,5),(false,6),(false,7),(false,8),(true,9)]) else if i=28 then (16,[]) else if i=23 then (17,[]) else if i=15 then (9,[(false,0),(false,1),(false,2),(false,3),(false,4),(false,5),(false,6),(false,7),(true,8)]) else if i=14 then (10,[]) else if i=3 then (24,[(false,0),(false,1),(false,2),(false,3),(false,4),(false,5),(false,6),(false,7),(false,8),(false,9),(false,10),(false,11),(false,12),(false,13),(false,14),(false,15),(false,16),(false,17),(false,18),(false,19),(false,20),(false,21),(false,22),(true,23)]) else (0,[])) mixed (by kernel_rfl) rfl (by decide) rfl (by rfl) (by kernel_rfl) ?_
 simp -implicitDefEqProofs (maxSteps:=2000000) only [push_cast,reduceEqDiff,reduceLT,reduceLeDiff,reduceAdd,reduceMul,reduceSub,Nat.reduceBEq,↓reduceIte,reduceCtorEq]
 have:=Bd.lo
 have hhi:=Bd.hi
 intro _
 refine Callx.hand [0] (rdNext b p hb hp) (by decide) (by simp only [push_cast,reduceEqDiff,reduceLT,reduceLeDiff,reduceAdd,reduceMul,reduceSub,Nat.reduceBEq,↓reduceIte,reduceCtorEq]) rfl rfl (by simp only [push_cast,reduceEqDiff,reduceLT,reduceLeDiff,reduceAdd,reduceMul,reduceSub,Nat.reduceBEq,↓reduceIte,reduceCtorEq]<;>rfl) rfl (.inr ⟨rfl,by simp only [push_cast,reduceEqDiff,reduceLT,reduceLeDiff,reduceAdd,reduceMul,reduceSub,Nat.reduceBEq,↓reduceIte,reduceCtorEq]⟩) ?_
 simp -implicitDefEqProofs (maxSteps:=2000000) only [push_cast,reduceEqDiff,reduceLT,reduceLeDiff,reduceAdd,reduceMul,reduceSub,Nat.reduceBEq,↓reduceIte,reduceCtorEq]
 have hk:=nx_lt (b:=b) (p:=p)
 have hq:=np_le hp
 obtain ⟨k,hke⟩ : ∃ k,nx b p=k:=⟨_,rfl⟩
 rw [hke] at hk ⊢
 have h64 : inI64 ((k:Int) + es.length):=by unfold inI64; omega
 have e1 : (((k:Int) + es.length) % 14).toNat=(k + es.length) % 14:=by omega
 have e2 : (((k:Int) + es.length) % 14 + 1).toNat=(k + es.length) % 14 + 1:=by omega
 have hll : (letterL ((k + es.length) % 14)).length=1:=by
  unfold letterL
  rw [List.length_drop,List.length_take]
  have : letters.length=14:=rfl
  omega
 rw [e1,e2,show List.drop ((k + es.length) % 14) (List.take ((k + es.length) % 14 + 1) [113,119,101,114,116,121,117,105,111,112,97,115,100,102])=letterL ((k + es.length) % 14) from rfl]
 refine ⟨h64,by omega,by omega,h64,by omega,by omega,by unfold inI64; omega,by omega,by omega,?_⟩
 refine CallV.t (l1Dec es.length (by omega)) (.inl rfl) ?_
 simp -implicitDefEqProofs (maxSteps:=2000000) only [push_cast,reduceEqDiff,reduceLT,reduceLeDiff,reduceAdd,reduceMul,reduceSub,Nat.reduceBEq,↓reduceIte,reduceCtorEq]
 have hdl:=decT_len es.length 15 (by omega)
 have hk64 : inI64 (k:Int):=by unfold inI64; omega
 have e5 : (k:Int) / 4 % 16 % 5=((k / 4 % 16 % 5 : Nat) : Int):=by simp
 rw [e5]
 refine ⟨by omega,by omega,by omega,hk64,by omega,by omega,by omega,by omega,?_⟩
 refine CallV.t (l1User (k / 4 % 16 % 5) (by omega)) (.inl rfl) ?_
 simp -implicitDefEqProofs (maxSteps:=2000000) only [push_cast,reduceEqDiff,reduceLT,reduceLeDiff,reduceAdd,reduceMul,reduceSub,Nat.reduceBEq,↓reduceIte,reduceCtorEq]
 refine ⟨by omega,by omega,by unfold inI64; omega,?_⟩
 refine W.join (ι:=Unit) (D:=(fun i=>if i=1000030 then (999999,[]) else if i=1000028 then (999999,[]) else if i=17 then (999999,[]) else if i=1000014 then (999999,[]) else if i=1000007 then (999999,[]) else if i=29 then (10,[(false,0),(false,1),(false,2),(false,3),(false,4),(false,5),(false,6),(false,7),(false,8),(true,9)]) else if i=28 then (16,[]) else if i=23 then (17,[]) else if i=15 then (9,[(false,0),(false,1),(false,2),(false,3),(false,4),(false,5),(false,6),(false,7),(true,8)]) else if i=14 then (10,[]) else if i=3 then (24,[(false,0),(false,1),(false,2),(false,3),(false,4),(false,5),(false,6),(false,7),(false,8),(false,9),(false,10),(false,11),(false,12),(false,13),(false,14),(false,15),(false,16),(false,17),(false,18),(false,19),(false,20),(false,21),(false,22),(true,23)]) else (0,[]))) (fun _=>True) (fun _=>⟨193,[(0,.rf 0 0),(2,.sr 2),(4,.rf 3 0),(6,.rf 4 0),(7,.t (.i .i64 es.length)),(8,.t (.i .i64 k)),(9,.rf 5 0),(10,.t (.i .i64 (cntG k)))],[rdO b (np b p),rmO es,afO after,.box (.ag [.sr 1]),.box zEv,.box (nwA es.length k .ns)]⟩) mixed (by kernel_rfl) ?_ (fun _ _=>?_)
 ·simp -implicitDefEqProofs (maxSteps:=2000000) only [push_cast,reduceEqDiff,reduceLT,reduceLeDiff,reduceAdd,reduceMul,reduceSub,Nat.reduceBEq,↓reduceIte,reduceCtorEq]
  refine ⟨by omega,by omega,iteI (fun h=>?_) (fun h=>?_)⟩
  ·have hcn : ((cntG k:Nat) : Int)=2 + (k:Int) % 8 / 7:=by rw [show cntG k=2 + k % 8 / 7 from if_pos (by omega)]; omega
   refine ⟨by omega,by omega,by omega,by omega,by unfold inI64; omega,by unfold inI64; omega,(),Keep.wk (ids:=[some 0,some 1,some 2,some 3,some 4,some 5]) ?_⟩
   simp only [push_cast,reduceEqDiff,reduceLT,reduceLeDiff,reduceAdd,reduceMul,reduceSub,Nat.reduceBEq,↓reduceIte,reduceCtorEq,hcn,zEv,nwA,newE,userT,tmG]<;>rfl
  ·have hcn : ((cntG k:Nat) : Int)=1:=by rw [show cntG k=1 from if_neg (by omega)]; rfl
   refine ⟨(),Keep.wk (ids:=[some 0,some 1,some 2,some 3,some 4,some 5]) ?_⟩
   simp only [push_cast,reduceEqDiff,reduceLT,reduceLeDiff,reduceAdd,reduceMul,reduceSub,Nat.reduceBEq,↓reduceIte,reduceCtorEq,hcn,zEv,nwA,newE,userT,tmG]<;>rfl
 simp -implicitDefEqProofs (maxSteps:=2000000) only [push_cast,reduceEqDiff,reduceLT,reduceLeDiff,reduceAdd,reduceMul,reduceSub,Nat.reduceBEq,↓reduceIte,reduceCtorEq]
 have hcl:=cntG_le (k:=k)
 refine ⟨rfl,by omega,?_⟩
 refine WL.loop (ι:=Nat) (D:=(fun i=>if i=1000030 then (999999,[]) else if i=1000028 then (999999,[]) else if i=17 then (999999,[]) else if i=1000014 then (999999,[]) else if i=1000007 then (999999,[]) else if i=29 then (10,[(false,0),(false,1),(false,2),(false,3),(false,4),(false,5),(false,6),(false,7),(false,8),(true,9)]) else if i=28 then (16,[]) else if i=23 then (17,[]) else if i=15 then (9,[(false,0),(false,1),(false,2),(false,3),(false,4),(false,5),(false,6),(false,7),(true,8)]) else if i=14 then (10,[]) else if i=3 then (24,[(false,0),(false,1),(false,2),(false,3),(false,4),(false,5),(false,6),(false,7),(false,8),(false,9),(false,10),(false,11),(false,12),(false,13),(false,14),(false,15),(false,16),(false,17),(false,18),(false,19),(false,20),(false,21),(false,22),(true,23)]) else (0,[]))) (fun i=>i≤cntG k) (fun i=>⟨193,[(0,.rf 0 0),(2,.sr 2),(4,.rf 3 0),(6,.rf 4 0),(7,.t (.i .i64 es.length)),(8,.t (.i .i64 k)),(9,.rf 5 0),(10,.t (.i .i64 (cntG k))),(11,.sr 6),(12,.t (.i .i64 i))],[rdO b (np b p),rmO es,afO after,.box (.ag [.sr 1]),.box zEv,.box (nwA es.length k (pvA i)),afO (prevG es after k i).2,pvO (prevG es after k i).1 i]⟩) (fun i=>cntG k - i) mixed (by kernel_rfl) 0 (by omega) (Wk.trans (Wk.clo 6 rfl) (Keep.wk (ids:=[some 0,some 1,some 2,some 3,some 4,some 5,some 6,none]) ?_)) ?_
 ·simp only [push_cast,reduceEqDiff,reduceLT,reduceLeDiff,reduceAdd,reduceMul,reduceSub,Nat.reduceBEq,↓reduceIte,reduceCtorEq,zEv,nwA,pvA,pvO,prevG,List.map_nil]<;>trivial
 intro i hi
 generalize hpn : posG es.length k i=m
 have hmn : m < es.length:=by rw [← hpn]; exact posG_lt hn
 have hpl:=prevG_len (es:=es) (after:=after) (k:=k) (i:=i)
 simp -implicitDefEqProofs (maxSteps:=2000000) only [push_cast,reduceEqDiff,reduceLT,reduceLeDiff,reduceAdd,reduceMul,reduceSub,Nat.reduceBEq,↓reduceIte,reduceCtorEq]
 have hz : ((k:Int) / 8 % 4 + i * 3) % es.length=(((k / 8 % 4 + i * 3) % es.length : Nat) : Int):=by simp
 have hz2 : ((i:Int) % es.length)=((i % es.length : Nat) : Int):=by simp
 have hzl:=Nat.mod_lt (k / 8 % 4 + i * 3) hn
 have hzl2:=Nat.mod_lt i hn
 rw [hz]
 refine iteI (fun h=>?_) (fun h=>?_)
 ·refine ⟨by unfold inI64; omega,by omega,by omega,hk64,by omega,by omega,by unfold inI64; omega,by unfold inI64; omega,by omega,by omega,by unfold inI64; omega,?_⟩
  refine W.join (ι:=Unit) (D:=(fun i=>if i=1000030 then (999999,[]) else if i=1000028 then (999999,[]) else if i=17 then (999999,[]) else if i=1000014 then (999999,[]) else if i=1000007 then (999999,[]) else if i=29 then (10,[(false,0),(false,1),(false,2),(false,3),(false,4),(false,5),(false,6),(false,7),(false,8),(true,9)]) else if i=28 then (16,[]) else if i=23 then (17,[]) else if i=15 then (9,[(false,0),(false,1),(false,2),(false,3),(false,4),(false,5),(false,6),(false,7),(true,8)]) else if i=14 then (10,[]) else if i=3 then (24,[(false,0),(false,1),(false,2),(false,3),(false,4),(false,5),(false,6),(false,7),(false,8),(false,9),(false,10),(false,11),(false,12),(false,13),(false,14),(false,15),(false,16),(false,17),(false,18),(false,19),(false,20),(false,21),(false,22),(true,23)]) else (0,[]))) (fun _=>True) (fun _=>⟨193,[(0,.rf 0 0),(2,.sr 2),(4,.rf 3 0),(6,.rf 4 0),(7,.t (.i .i64 es.length)),(8,.t (.i .i64 k)),(9,.rf 5 0),(10,.t (.i .i64 (cntG k))),(11,.sr 6),(12,.t (.i .i64 i)),(13,.t (.i .i64 m))],[rdO b (np b p),rmO es,afO after,.box (.ag [.sr 1]),.box zEv,.box (nwA es.length k (pvA i)),afO (prevG es after k i).2,pvO (prevG es after k i).1 i]⟩) mixed (by kernel_rfl) ?_ (fun _ _=>?_)
  ·simp -implicitDefEqProofs (maxSteps:=2000000) only [push_cast,reduceEqDiff,reduceLT,reduceLeDiff,reduceAdd,reduceMul,reduceSub,Nat.reduceBEq,↓reduceIte,reduceCtorEq]
   rw [hz2]
   refine ⟨by omega,by omega,iteI (fun h3=>?_) (fun h3=>?_)⟩
   ·have hmz : (m:Int)=(es.length : Int) - 1 - ((i % es.length : Nat) : Int):=by
     rw [← hpn,show posG es.length k i=es.length - 1 - i % es.length from if_pos (by omega)]; omega
    refine ⟨by unfold inI64; omega,by omega,by omega,by unfold inI64; omega,(),Keep.wk (ids:=[some 0,some 1,some 2,some 3,some 4,some 5,some 6,some 7]) ?_⟩
    simp only [push_cast,reduceEqDiff,reduceLT,reduceLeDiff,reduceAdd,reduceMul,reduceSub,Nat.reduceBEq,↓reduceIte,reduceCtorEq,hmz]
    cases i<;>simp only [push_cast,reduceEqDiff,reduceLT,reduceLeDiff,reduceAdd,reduceMul,reduceSub,Nat.reduceBEq,↓reduceIte,reduceCtorEq,pvA,pvO]<;>trivial
   ·have hmz : (m:Int)=(es.length : Int) - 1 - (((k / 8 % 4 + i * 3) % es.length : Nat) : Int):=by
     rw [← hpn,show posG es.length k i=es.length - 1 - (k / 8 % 4 + i * 3) % es.length from if_neg (by omega)]; omega
    refine ⟨(),Keep.wk (ids:=[some 0,some 1,some 2,some 3,some 4,some 5,some 6,some 7]) ?_⟩
    simp only [push_cast,reduceEqDiff,reduceLT,reduceLeDiff,reduceAdd,reduceMul,reduceSub,Nat.reduceBEq,↓reduceIte,reduceCtorEq,hmz]
    cases i<;>simp only [push_cast,reduceEqDiff,reduceLT,reduceLeDiff,reduceAdd,reduceMul,reduceSub,Nat.reduceBEq,↓reduceIte,reduceCtorEq,pvA,pvO]<;>trivial
  obtain ⟨em,hem⟩ : ∃ e,es[m]? = some e:=⟨_,List.getElem?_eq_getElem hmn⟩
  obtain ⟨am,ham⟩ : ∃ s,after[m]? = some s:=⟨_,List.getElem?_eq_getElem (by omega)⟩
  have more : ∀ {e1 s1},es[m]? = some e1→after[m]? = some s1→idG es m ∉ (prevG es after k i).1→prevG es after k (i + 1)=((prevG es after k i).1 ++ [e1.id],(prevG es after k i).2 ++ [s1]):=fun {e1 s1} h1 h2 h3=>by
   have : prevG es after k (i + 1)=((prevG es after k i).1 ++ [idG es (posG es.length k i)],(prevG es after k i).2 ++ [(after[posG es.length k i]?).getD []]):=if_neg (by rw [hpn]; exact h3)
   rw [this,hpn,h2]
   unfold idG
   rw [h1]; rfl
  cases i with
  | zero =>
    simp only [nwA,pvA,pvO]
    simp -implicitDefEqProofs (maxSteps:=2000000) only [push_cast,reduceEqDiff,reduceLT,reduceLeDiff,reduceAdd,reduceMul,reduceSub,Nat.reduceBEq,↓reduceIte,reduceCtorEq]
    refine ⟨by omega,by omega,fun e' he'=>?_⟩
    rw [Int.toNat_natCast,hem] at he'
    cases he'
    simp -implicitDefEqProofs (maxSteps:=2000000) only [push_cast,reduceEqDiff,reduceLT,reduceLeDiff,reduceAdd,reduceMul,reduceSub,Nat.reduceBEq,↓reduceIte,reduceCtorEq,eEvent]
    have hH : Con P0 143 [T.sl [],T.s em.id] (.t (.b (decide (em.id∈([] : List (List UInt8)))))) []:=l1Has [] em.id
    refine CallV.t hH (.inr rfl) ?_
    simp -implicitDefEqProofs (maxSteps:=2000000) only [push_cast,reduceEqDiff,reduceLT,reduceLeDiff,reduceAdd,reduceMul,reduceSub,Nat.reduceBEq,↓reduceIte,reduceCtorEq,eEvent]
    refine ⟨by omega,by omega,fun e1 he1=>⟨rfl,by omega,rfl,by omega,by omega,by omega,by omega,fun s1 hs1=>⟨rfl,by omega,rfl,by omega,by omega,by unfold inI64; omega,1,by omega,by omega,Keep.wk (ids:=[some 0,some 1,some 2,some 3,some 4,some 5,some 11,some 9]) ?_⟩⟩⟩
    rw [Int.toNat_natCast] at he1 hs1
    have hnx : prevG es after k 1=_:=more he1 hs1 (by simp [prevG])
    simp only [push_cast,reduceEqDiff,reduceLT,reduceLeDiff,reduceAdd,reduceMul,reduceSub,Nat.reduceBEq,↓reduceIte,reduceCtorEq,hnx,show prevG es after k 0=([],[]) from rfl,List.map_append,List.map_cons,List.map_nil,List.nil_append]<;>first | rfl | trivial
  | succ i =>
    simp only [nwA,pvA,pvO]
    simp -implicitDefEqProofs (maxSteps:=2000000) only [push_cast,reduceEqDiff,reduceLT,reduceLeDiff,reduceAdd,reduceMul,reduceSub,Nat.reduceBEq,↓reduceIte,reduceCtorEq]
    refine ⟨by omega,by omega,fun e' he'=>?_⟩
    rw [Int.toNat_natCast,hem] at he'
    cases he'
    simp -implicitDefEqProofs (maxSteps:=2000000) only [push_cast,reduceEqDiff,reduceLT,reduceLeDiff,reduceAdd,reduceMul,reduceSub,Nat.reduceBEq,↓reduceIte,reduceCtorEq,eEvent]
    refine CallV.t (l1Has (prevG es after k (i + 1)).1 em.id) (.inr rfl) ?_
    simp -implicitDefEqProofs (maxSteps:=2000000) only [push_cast,reduceEqDiff,reduceLT,reduceLeDiff,reduceAdd,reduceMul,reduceSub,Nat.reduceBEq,↓reduceIte,reduceCtorEq,eEvent]
    have hidm : idG es m=em.id:=by unfold idG; rw [hem]; rfl
    refine iteI (fun hx=>?_) (fun hx=>?_)
    ·refine ⟨by omega,by omega,fun e1 he1=>⟨rfl,by omega,rfl,by omega,by omega,by omega,by omega,fun s1 hs1=>⟨rfl,by omega,rfl,by omega,by omega,by unfold inI64; omega,i + 1 + 1,by omega,by omega,Keep.wk (ids:=[some 0,some 1,some 2,some 3,some 4,some 5,some 11,some 9]) ?_⟩⟩⟩
     rw [Int.toNat_natCast] at he1 hs1
     have hnx:=more he1 hs1 (by rw [hidm]; simpa using hx)
     simp only [push_cast,reduceEqDiff,reduceLT,reduceLeDiff,reduceAdd,reduceMul,reduceSub,Nat.reduceBEq,↓reduceIte,reduceCtorEq,hnx,List.map_append,List.map_cons,List.map_nil]<;>first | rfl | trivial
    ·refine ⟨by unfold inI64; omega,i + 1 + 1,by omega,by omega,Keep.wk (ids:=[some 0,some 1,some 2,some 3,some 4,some 5,some 6,some 7]) ?_⟩
     have hnx : prevG es after k (i + 1 + 1)=prevG es after k (i + 1):=if_pos (by rw [hpn,hidm]; simpa using hx)
     simp only [push_cast,reduceEqDiff,reduceLT,reduceLeDiff,reduceAdd,reduceMul,reduceSub,Nat.reduceBEq,↓reduceIte,reduceCtorEq,hnx]<;>first | rfl | trivial
 ·have hi : i=cntG k:=by omega
  subst hi
  obtain ⟨c,hc⟩ : ∃ c,cntG k=c + 1:=⟨cntG k - 1,by omega⟩
  have hbd : bodyG es after b p=contE b (np b p) { newE es.length k with prev:=(prevG es after k (cntG k)).1 }:=by unfold bodyG; rw [hke]
  rw [hc] at hbd hpl ⊢
  simp only [pvA,pvO]
  refine W.cut (ι:=Unit) (D:=(fun i=>if i=1000030 then (999999,[]) else if i=1000028 then (999999,[]) else if i=29 then (10,[(false,0),(false,1),(false,2),(false,3),(false,4),(false,5),(false,6),(false,7),(false,8),(true,9)]) else if i=28 then (16,[]) else if i=23 then (17,[]) else if i=15 then (9,[(false,0),(false,1),(false,2),(false,3),(false,4),(false,5),(false,6),(false,7),(true,8)]) else if i=14 then (10,[]) else if i=3 then (24,[(false,0),(false,1),(false,2),(false,3),(false,4),(false,5),(false,6),(false,7),(false,8),(false,9),(false,10),(false,11),(false,12),(false,13),(false,14),(false,15),(false,16),(false,17),(false,18),(false,19),(false,20),(false,21),(false,22),(true,23)]) else (0,[]))) (fun _=>True) (fun _=>⟨193,[(0,.rf 0 0),(2,.sr 2),(4,.rf 3 0),(6,.rf 4 0),(7,.t (.i .i64 es.length)),(8,.t (.i .i64 k)),(9,.rf 5 0),(11,.sr 6)],[rdO b (np b p),rmO es,afO after,.box (.ag [.sr 1]),.box zEv,.box (evN { newE es.length k with prev:=(prevG es after k ((c + 1))).1 }),afO (prevG es after k ((c + 1))).2]⟩) mixed (by kernel_rfl) () trivial (Wk.trans (Wk.sealBoxP 5 keep7 (ids:=[7]) (by simp only [push_cast,reduceEqDiff,reduceLT,reduceLeDiff,reduceAdd,reduceMul,reduceSub,Nat.reduceBEq,↓reduceIte,reduceCtorEq,boxSeal,sealL,nwA]<;>rfl) rfl) (Keep.wk (ids:=[some 0,some 1,some 2,some 3,some 4,some 5,some 6]) ?_)) (fun _ _=>?_)
  ·simp only [push_cast,reduceEqDiff,reduceLT,reduceLeDiff,reduceAdd,reduceMul,reduceSub,Nat.reduceBEq,↓reduceIte,reduceCtorEq,killAll,nwA,zEv]<;>trivial
  simp -implicitDefEqProofs (maxSteps:=2000000) only [push_cast,reduceEqDiff,reduceLT,reduceLeDiff,reduceAdd,reduceMul,reduceSub,Nat.reduceBEq,↓reduceIte,reduceCtorEq]
  refine Callx.hand [0] (l1DrawContent b (np b p) { newE es.length k with prev:=(prevG es after k (c + 1)).1 } hB hb hq) (by decide) (by simp only [push_cast,reduceEqDiff,reduceLT,reduceLeDiff,reduceAdd,reduceMul,reduceSub,Nat.reduceBEq,↓reduceIte,reduceCtorEq]) rfl rfl (by simp only [push_cast,reduceEqDiff,reduceLT,reduceLeDiff,reduceAdd,reduceMul,reduceSub,Nat.reduceBEq,↓reduceIte,reduceCtorEq]<;>rfl) rfl (.inr ⟨rfl,by simp only [push_cast,reduceEqDiff,reduceLT,reduceLeDiff,reduceAdd,reduceMul,reduceSub,Nat.reduceBEq,↓reduceIte,reduceCtorEq]⟩) ?_
  simp -implicitDefEqProofs (maxSteps:=2000000) only [push_cast,reduceEqDiff,reduceLT,reduceLeDiff,reduceAdd,reduceMul,reduceSub,Nat.reduceBEq,↓reduceIte,reduceCtorEq]
  have hAu : (contE b (np b p) { newE es.length k with prev:=(prevG es after k (c + 1)).1 }).1.auth=[]:=contE_auth
  generalize contE b (np b p) { newE es.length k with prev:=(prevG es after k (c + 1)).1 }=ce at *
  obtain ⟨e2,p2⟩:=ce
  generalize hss : (prevG es after k (c + 1)).2=ss at *
  have cR:=specResolve es ss hB
  simp only [eRoom] at cR
  refine Callx.closed cR rfl rfl (.inr ⟨rfl,rfl⟩) ?_
  simp -implicitDefEqProofs (maxSteps:=2000000) only [push_cast,reduceEqDiff,reduceLT,reduceLeDiff,reduceAdd,reduceMul,reduceSub,Nat.reduceBEq,↓reduceIte,reduceCtorEq]
  have cN:=specNeeded e2 hB
  simp only [eEvent,show e2.auth=[] from hAu,List.map_nil] at cN
  refine Callx.closed cN rfl rfl (.inl rfl) ?_
  simp -implicitDefEqProofs (maxSteps:=2000000) only [push_cast,reduceEqDiff,reduceLT,reduceLeDiff,reduceAdd,reduceMul,reduceSub,Nat.reduceBEq,↓reduceIte,reduceCtorEq]
  have hkl:=need_len (e:=e2)
  have hgr : growE es after b p = { e2 with auth:=auth3 es k (auth2 es k (authG (resR es ss) (needOf e2))) }:=by
   unfold growE authL
   rw [hbd,hke,hc,hss]
  rw [hgr,hbd]
  clear hgr cN
  generalize needOf e2=ks at *
  generalize resR es ss=sr at *
  refine WL.loop (ι:=Nat) (D:=(fun i=>if i=1000030 then (999999,[]) else if i=1000028 then (999999,[]) else if i=29 then (10,[(false,0),(false,1),(false,2),(false,3),(false,4),(false,5),(false,6),(false,7),(false,8),(true,9)]) else if i=28 then (16,[]) else if i=23 then (17,[]) else if i=15 then (9,[(false,0),(false,1),(false,2),(false,3),(false,4),(false,5),(false,6),(false,7),(true,8)]) else if i=14 then (10,[]) else if i=3 then (24,[(false,0),(false,1),(false,2),(false,3),(false,4),(false,5),(false,6),(false,7),(false,8),(false,9),(false,10),(false,11),(false,12),(false,13),(false,14),(false,15),(false,16),(false,17),(false,18),(false,19),(false,20),(false,21),(false,22),(true,23)]) else (0,[]))) (fun j=>j≤ks.length) (fun j=>⟨193,[(0,.rf 0 0),(4,.rf 3 0),(6,.rf 4 0),(7,.t (.i .i64 es.length)),(8,.t (.i .i64 k)),(9,.rf 5 0),(14,.sr 7),(16,.sr 8),(17,.t (.i .i64 j))],[rdO b p2,rmO es,afO after,.box (.ag [.sr 1]),.box zEv,.box (evX e2 (auA (authG sr (ks.take j)))),afO ss,enO sr,slO ks,auO (authG sr (ks.take j))]⟩) (fun j=>ks.length - j) mixed (by kernel_rfl) 0 (by omega) (Keep.wk (ids:=[some 0,some 1,some 2,some 3,some 4,some 5,some 6,some 7,some 8,none]) ?_) ?_
  ·simp only [push_cast,reduceEqDiff,reduceLT,reduceLeDiff,reduceAdd,reduceMul,reduceSub,Nat.reduceBEq,↓reduceIte,reduceCtorEq,authG,List.take_zero,List.filterMap_nil,auA,auO]<;>trivial
  intro j hj
  have hal : (authG sr (ks.take j)).length≤j:=by
   have:=List.length_filterMap_le (fun x:Slot=>if fOk sr x.typ x.key=true then some (fId sr x.typ x.key) else none) (ks.take j)
   rw [List.length_take] at this
   unfold authG
   omega
  simp -implicitDefEqProofs (maxSteps:=2000000) only [push_cast,reduceEqDiff,reduceLT,reduceLeDiff,reduceAdd,reduceMul,reduceSub,Nat.reduceBEq,↓reduceIte,reduceCtorEq,eSlot]
  intro _
  refine iteI (fun h1=>⟨by omega,by omega,fun q hq=>⟨by omega,by omega,fun q' hq'=>?_⟩⟩) (fun h1=>?_)
  ·rw [Int.toNat_natCast] at hq hq'
   rw [hq] at hq'
   cases hq'
   refine CallV.t (specFind sr q.typ q.key) (.inr rfl) ?_
   simp -implicitDefEqProofs (maxSteps:=2000000) only [push_cast,reduceEqDiff,reduceLT,reduceLeDiff,reduceAdd,reduceMul,reduceSub,Nat.reduceBEq,↓reduceIte,reduceCtorEq,eSlot]
   have hsn : authG sr (ks.take (j + 1))=authG sr (ks.take j) ++ (if fOk sr q.typ q.key=true then [fId sr q.typ q.key] else []):=by
    unfold authG
    rw [List.take_add_one,hq,List.filterMap_append]
    simp only [Option.toList_some,List.filterMap_cons,List.filterMap_nil]
    split<;>simp_all
   refine iteI (fun h2=>⟨rfl,by omega,?_⟩) (fun h2=>?_)
   ·rw [if_pos h2] at hsn
    rcases ha : authG sr (ks.take j) with _ | ⟨x,l⟩
    ·rw [ha] at hsn hal
     simp only [auA,auO]
     simp -implicitDefEqProofs (maxSteps:=2000000) only [push_cast,reduceEqDiff,reduceLT,reduceLeDiff,reduceAdd,reduceMul,reduceSub,Nat.reduceBEq,↓reduceIte,reduceCtorEq]
     refine ⟨rfl,by omega,by omega,by unfold inI64; omega,j + 1,by omega,by omega,Keep.wk (ids:=[some 0,some 1,some 2,some 3,some 4,some 5,some 6,some 7,some 8,some 11]) ?_⟩
     simp only [push_cast,reduceEqDiff,reduceLT,reduceLeDiff,reduceAdd,reduceMul,reduceSub,Nat.reduceBEq,↓reduceIte,reduceCtorEq,hsn,List.nil_append,auA,auO]<;>trivial
    ·rw [ha] at hsn hal
     simp only [auA,auO]
     simp -implicitDefEqProofs (maxSteps:=2000000) only [push_cast,reduceEqDiff,reduceLT,reduceLeDiff,reduceAdd,reduceMul,reduceSub,Nat.reduceBEq,↓reduceIte,reduceCtorEq]
     simp only [List.length_cons] at hal
     refine ⟨rfl,by omega,by omega,by unfold inI64; omega,j + 1,by omega,by omega,Keep.wk (ids:=[some 0,some 1,some 2,some 3,some 4,some 5,some 6,some 7,some 8,some 11]) ?_⟩
     simp only [push_cast,reduceEqDiff,reduceLT,reduceLeDiff,reduceAdd,reduceMul,reduceSub,Nat.reduceBEq,↓reduceIte,reduceCtorEq,hsn,List.cons_append,auA,auO,List.map_append,List.map_cons,List.map_nil]<;>trivial
   ·rw [if_neg h2,List.append_nil] at hsn
    refine ⟨by unfold inI64; omega,j + 1,by omega,by omega,Keep.wk (ids:=[some 0,some 1,some 2,some 3,some 4,some 5,some 6,some 7,some 8,some 9]) ?_⟩
    rw [hsn]
    rcases ha : authG sr (ks.take j) with _ | ⟨x,l⟩<;>simp only [push_cast,reduceEqDiff,reduceLT,reduceLeDiff,reduceAdd,reduceMul,reduceSub,Nat.reduceBEq,↓reduceIte,reduceCtorEq,auA,auO]<;>trivial
  ·have hj : j=ks.length:=by omega
   subst hj
   rw [List.take_length] at hal ⊢
   generalize authG sr ks=a at *
   obtain ⟨em,hem⟩ : ∃ e,es[0]? = some e:=⟨_,List.getElem?_eq_getElem hn⟩
   obtain ⟨en,hen⟩ : ∃ e,es[es.length - 1]? = some e:=⟨_,List.getElem?_eq_getElem (by omega)⟩
   have hid0 : idG es 0=em.id:=by unfold idG; rw [hem]; rfl
   have hidn : idG es (es.length - 1)=en.id:=by unfold idG; rw [hen]; rfl
   refine W.join (ι:=Unit) (D:=(fun i=>if i=1000030 then (999999,[]) else if i=29 then (10,[(false,0),(false,1),(false,2),(false,3),(false,4),(false,5),(false,6),(false,7),(false,8),(true,9)]) else if i=28 then (16,[]) else if i=23 then (17,[]) else if i=15 then (9,[(false,0),(false,1),(false,2),(false,3),(false,4),(false,5),(false,6),(false,7),(true,8)]) else if i=14 then (10,[]) else if i=3 then (24,[(false,0),(false,1),(false,2),(false,3),(false,4),(false,5),(false,6),(false,7),(false,8),(false,9),(false,10),(false,11),(false,12),(false,13),(false,14),(false,15),(false,16),(false,17),(false,18),(false,19),(false,20),(false,21),(false,22),(true,23)]) else (0,[]))) (fun _=>True) (fun _=>⟨193,[(0,.rf 0 0),(4,.rf 3 0),(6,.rf 4 0),(7,.t (.i .i64 es.length)),(8,.t (.i .i64 k)),(9,.rf 5 0)],[rdO b p2,rmO es,afO after,.box (.ag [.sr 1]),.box zEv,.box (evX e2 (.sr 6)),.arr 9 1 (.own .leaf) ((auth2 es k a).map T.s)]⟩) mixed (by kernel_rfl) ?_ (fun _ _=>?_)
   ·rcases a with _ | ⟨x,l⟩
    ·simp only [auA,auO]
     simp -implicitDefEqProofs (maxSteps:=2000000) only [push_cast,reduceEqDiff,reduceLT,reduceLeDiff,reduceAdd,reduceMul,reduceSub,Nat.reduceBEq,↓reduceIte,reduceCtorEq]
     refine ⟨by omega,by omega,fun e' he'=>?_⟩
     rw [show Int.toNat 0=0 from rfl,hem] at he'
     cases he'
     simp -implicitDefEqProofs (maxSteps:=2000000) only [push_cast,reduceEqDiff,reduceLT,reduceLeDiff,reduceAdd,reduceMul,reduceSub,Nat.reduceBEq,↓reduceIte,reduceCtorEq,eEvent]
     refine ⟨rfl,by omega,(),Keep.wk (ids:=[some 0,some 1,some 2,some 3,some 4,some 5,some 10]) ?_⟩
     rw [show auth2 es k []=[idG es 0] from if_pos (.inl rfl),hid0]
     simp only [push_cast,reduceEqDiff,reduceLT,reduceLeDiff,reduceAdd,reduceMul,reduceSub,Nat.reduceBEq,↓reduceIte,reduceCtorEq,List.map_cons,List.map_nil]<;>trivial
    ·simp only [auA,auO]
     simp -implicitDefEqProofs (maxSteps:=2000000) only [push_cast,reduceEqDiff,reduceLT,reduceLeDiff,reduceAdd,reduceMul,reduceSub,Nat.reduceBEq,↓reduceIte,reduceCtorEq]
     simp only [List.length_cons] at hal
     intro _
     refine iteI (fun h1=>by omega) (fun h1=>⟨by omega,by omega,iteI (fun h2=>?_) (fun h2=>?_)⟩)
     ·refine ⟨by omega,by omega,fun e' he'=>?_⟩
      rw [show Int.toNat 0=0 from rfl,hem] at he'
      cases he'
      simp -implicitDefEqProofs (maxSteps:=2000000) only [push_cast,reduceEqDiff,reduceLT,reduceLeDiff,reduceAdd,reduceMul,reduceSub,Nat.reduceBEq,↓reduceIte,reduceCtorEq,eEvent]
      refine ⟨rfl,by omega,(),Keep.wk (ids:=[some 0,some 1,some 2,some 3,some 4,some 5,some 10]) ?_⟩
      rw [show auth2 es k (x :: l)=[idG es 0] from if_pos (.inr (by omega)),hid0]
      simp only [push_cast,reduceEqDiff,reduceLT,reduceLeDiff,reduceAdd,reduceMul,reduceSub,Nat.reduceBEq,↓reduceIte,reduceCtorEq,List.map_cons,List.map_nil]<;>trivial
     ·refine ⟨(),Keep.wk (ids:=[some 0,some 1,some 2,some 3,some 4,some 5,some 9]) ?_⟩
      rw [show auth2 es k (x :: l)=x :: l from if_neg (by rintro (h | h)<;>first | cases h | omega)]
      simp only [push_cast,reduceEqDiff,reduceLT,reduceLeDiff,reduceAdd,reduceMul,reduceSub,Nat.reduceBEq,↓reduceIte,reduceCtorEq,List.map_cons]<;>trivial
   have ha2 : (auth2 es k a).length≤6:=by
    unfold auth2
    split
    ·simp
    ·omega
   have hau3 : auth3 es k (auth2 es k a)=auth3 es k (auth2 es k a):=rfl
   conv at hau3=>rhs; unfold auth3
   generalize auth2 es k a=a2 at *
   simp -implicitDefEqProofs (maxSteps:=2000000) only [push_cast,reduceEqDiff,reduceLT,reduceLeDiff,reduceAdd,reduceMul,reduceSub,Nat.reduceBEq,↓reduceIte,reduceCtorEq]
   refine W.join (ι:=Unit) (D:=(fun i=>if i=29 then (10,[(false,0),(false,1),(false,2),(false,3),(false,4),(false,5),(false,6),(false,7),(false,8),(true,9)]) else if i=28 then (16,[]) else if i=23 then (17,[]) else if i=15 then (9,[(false,0),(false,1),(false,2),(false,3),(false,4),(false,5),(false,6),(false,7),(true,8)]) else if i=14 then (10,[]) else if i=3 then (24,[(false,0),(false,1),(false,2),(false,3),(false,4),(false,5),(false,6),(false,7),(false,8),(false,9),(false,10),(false,11),(false,12),(false,13),(false,14),(false,15),(false,16),(false,17),(false,18),(false,19),(false,20),(false,21),(false,22),(true,23)]) else (0,[]))) (fun _=>True) (fun _=>⟨193,[(6,.rf 4 0),(9,.rf 5 0)],[rdO b p2,rmO es,afO after,.dead,.box zEv,.box (.t (eEvent { e2 with auth:=auth3 es k a2 }))]⟩) mixed (by kernel_rfl) ?_ (fun _ _=>?_)
   ·simp -implicitDefEqProofs (maxSteps:=2000000) only [push_cast,reduceEqDiff,reduceLT,reduceLeDiff,reduceAdd,reduceMul,reduceSub,Nat.reduceBEq,↓reduceIte,reduceCtorEq]
    have el : ((es.length : Int) - 1).toNat=es.length - 1:=by omega
    refine ⟨by omega,by omega,iteI (fun h1=>⟨by unfold inI64; omega,⟨by omega,by omega⟩,by omega,fun e' he'=>?_⟩) (fun h1=>?_)⟩
    ·rw [el,hen] at he'
     cases he'
     simp -implicitDefEqProofs (maxSteps:=2000000) only [push_cast,reduceEqDiff,reduceLT,reduceLeDiff,reduceAdd,reduceMul,reduceSub,Nat.reduceBEq,↓reduceIte,reduceCtorEq,eEvent]
     refine CallV.t (l1Has a2 en.id) (.inr rfl) ?_
     simp -implicitDefEqProofs (maxSteps:=2000000) only [push_cast,reduceEqDiff,reduceLT,reduceLeDiff,reduceAdd,reduceMul,reduceSub,Nat.reduceBEq,↓reduceIte,reduceCtorEq,eEvent]
     refine iteI (fun h2=>⟨by unfold inI64; omega,⟨by omega,by omega⟩,by omega,fun e' he'=>?_⟩) (fun h2=>?_)
     ·rw [el,hen] at he'
      cases he'
      rw [if_pos ⟨by omega,by rw [hidn]; simpa using h2⟩] at hau3
      refine ⟨rfl,by omega,rfl,by omega,by omega,(),Wk.trans (Wk.sealBox 5 (y:=eEvent { e2 with auth:=auth3 es k a2 }) (ids:=[8]) ?_ rfl) (Keep.wk (ids:=[some 0,some 1,some 2,none,some 4,some 5]) ?_)⟩
      ·rw [hau3,hidn]
       simp only [push_cast,reduceEqDiff,reduceLT,reduceLeDiff,reduceAdd,reduceMul,reduceSub,Nat.reduceBEq,↓reduceIte,reduceCtorEq,boxTake,eEvent,eStringS,List.map_append,List.map_cons,List.map_nil]<;>rfl
      ·simp only [push_cast,reduceEqDiff,reduceLT,reduceLeDiff,reduceAdd,reduceMul,reduceSub,Nat.reduceBEq,↓reduceIte,reduceCtorEq,killAll]<;>trivial
     ·rw [if_neg (by rintro ⟨_,h⟩; rw [hidn] at h; simp_all)] at hau3
      refine ⟨(),Wk.trans (Wk.sealBox 5 (y:=eEvent { e2 with auth:=auth3 es k a2 }) (ids:=[6]) ?_ rfl) (Keep.wk (ids:=[some 0,some 1,some 2,none,some 4,some 5]) ?_)⟩
      ·rw [hau3]
       simp only [push_cast,reduceEqDiff,reduceLT,reduceLeDiff,reduceAdd,reduceMul,reduceSub,Nat.reduceBEq,↓reduceIte,reduceCtorEq,boxTake]<;>rfl
      ·simp only [push_cast,reduceEqDiff,reduceLT,reduceLeDiff,reduceAdd,reduceMul,reduceSub,Nat.reduceBEq,↓reduceIte,reduceCtorEq,killAll]<;>trivial
    ·rw [if_neg (by rintro ⟨h,_⟩; omega)] at hau3
     refine ⟨(),Wk.trans (Wk.sealBox 5 (y:=eEvent { e2 with auth:=auth3 es k a2 }) (ids:=[6]) ?_ rfl) (Keep.wk (ids:=[some 0,some 1,some 2,none,some 4,some 5]) ?_)⟩
     ·rw [hau3]
      simp only [push_cast,reduceEqDiff,reduceLT,reduceLeDiff,reduceAdd,reduceMul,reduceSub,Nat.reduceBEq,↓reduceIte,reduceCtorEq,boxTake]<;>rfl
     ·simp only [push_cast,reduceEqDiff,reduceLT,reduceLeDiff,reduceAdd,reduceMul,reduceSub,Nat.reduceBEq,↓reduceIte,reduceCtorEq,killAll]<;>trivial
   simp -implicitDefEqProofs (maxSteps:=2000000) only [push_cast,reduceEqDiff,reduceLT,reduceLeDiff,reduceAdd,reduceMul,reduceSub,Nat.reduceBEq,↓reduceIte,reduceCtorEq]
   exact ⟨rfl,Rest.of [some 0,some 1,some 2] rfl rfl (by simp only [push_cast,reduceEqDiff,reduceLT,reduceLeDiff,reduceAdd,reduceMul,reduceSub,Nat.reduceBEq,↓reduceIte,reduceCtorEq]<;>first | rfl | trivial)⟩
end Go.Proofs.YtmgdkkhnjkepiaaGreat.BX
namespace Go.Proofs.YtmgdkkhnjkepiaaGreat.BX
open Nat (reduceEqDiff reduceLT reduceLeDiff reduceAdd reduceMul reduceSub)
set_option linter.unusedSectionVars false
set_option linter.unusedSimpArgs false
set_option linter.unusedVariables false
open Go Go.RowKit
set_option maxRecDepth 20000
set_option maxHeartbeats 400000
def evC0 : Event:=⟨[36,99,48],[64,97],sCreate,true,[],1,[],[],[],[]⟩
def evA1 : Event:=⟨[36,97,49],[64,97],sMember,true,[64,97],2,[[36,99,48]],[[36,99,48]],sJoin,[]⟩
def evP2 : Event:=⟨[36,112,50],[64,97],sPower,true,[],3,[[36,97,49]],[[36,99,48],[36,97,49]],[],[⟨[64,97],100⟩,⟨[64,98],50⟩]⟩
def evJ3 : Event:=⟨[36,106,51],[64,97],sRules,true,[],4,[[36,112,50]],[[36,99,48],[36,97,49],[36,112,50]],sPublic,[]⟩
def evB4 : Event:=⟨[36,98,52],[64,98],sMember,true,[64,98],5,[[36,106,51]],[[36,99,48],[36,112,50],[36,106,51]],sJoin,[]⟩
def first5 : List Event:=[evC0,evA1,evP2,evJ3,evB4]
theorem code_c0 : codeE [] evC0=0:=by
 unfold codeE cd2 cd3 cd4 cd5 evOk ev2 ev3 ev4 ev5 contentB
 simp [evC0,sCreate,isW,wordB,refsB,allIn,posOf]
theorem valid_nil : Valid []:=fun i e h=>by simp at h
theorem Valid.snoc {es:List Event} {e:Event} (h:Valid es) (he:codeE es e=0) : Valid (es ++ [e]):=fun i x hx=>by
 by_cases hi : i < es.length
 ·rw [List.getElem?_append_left hi] at hx
  rw [List.take_append_of_le_length (by omega)]
  exact h i x hx
 ·rw [List.getElem?_append_right (by omega)] at hx
  obtain ⟨hl,hx⟩:=List.getElem?_eq_some_iff.1 hx
  have hl : i - es.length < 1:=by simpa using hl
  have hi : i=es.length:=by omega
  subst hi
  rw [List.take_append_of_le_length (by omega),List.take_length]
  simp only [Nat.sub_self,List.getElem_cons_zero] at hx
  rw [← hx]; exact he
theorem posOf_more {es:List Event} {e:Event} {k:List UInt8} {i:Nat} (h:posOf k es=some i) : posOf k (es ++ [e])=some i:=by rw [posOf_snoc,h]; rfl
theorem Fit.more {es:List Event} {e:Event} {s:List Entry} (h:Fit es s) : Fit (es ++ [e]) s:=by
 refine ⟨h.ord,h.ids,fun x hx=>?_⟩
 obtain ⟨j,a,hj,ha,h1,h2,h3⟩:=fitE_at (h.fit x hx)
 have hl:=(List.getElem?_eq_some_iff.1 ha).1
 unfold fitE
 rw [posOf_more hj]
 simp only [List.getElem?_append_left hl,ha,h1,h2,h3,Bool.true_and,decide_true]
structure RS where
 es : List Event
 aft : List (List Entry)
 p : Nat
noncomputable def nextE (b:List UInt8) (start i:Nat) (r:RS) : Event:=if i < start then (first5[i]?).getD evC0 else growE r.es r.aft b r.p
def nextP (b:List UInt8) (start i:Nat) (r:RS) : Nat:=if i < start then r.p else (bodyG r.es r.aft b r.p).2
noncomputable def stepR (b:List UInt8) (start i:Nat) (r:RS) : RS :=
 if codeE r.es (nextE b start i r)=0 then ⟨r.es ++ [nextE b start i r],r.aft ++ [aftL (r.es ++ [nextE b start i r]) r.aft (nextE b start i r)],nextP b start i r⟩
 else ⟨r.es,r.aft,nextP b start i r⟩
noncomputable def runR (b:List UInt8) (start:Nat) : Nat→Nat→RS→RS
 | 0, _, r => r
 | f + 1, i, r => if i < start ∨ r.p < b.length then runR b start f (i + 1) (stepR b start i r) else r
def startR (k:Nat) : Nat:=if 5 < 1 + k % 6 ∨ 64≤k then 5 else 1 + k % 6
def mostR (k l:Nat) : Nat:=if 15 < startR k + 2 + k / 6 % 3 + l / 7 then 15 else startR k + 2 + k / 6 % 3 + l / 7
noncomputable def roomR (b:List UInt8) (p:Nat) : RS:=runR b (startR (nx b p)) (mostR (nx b p) (b.length - np b p)) 0 ⟨[],[],np b p⟩
theorem startR_le {k:Nat} : 1≤startR k∧startR k≤5:=by unfold startR; split<;>omega
theorem mostR_le {k l:Nat} : startR k≤mostR k l∧mostR k l≤15:=by
 have:=startR_le (k:=k)
 unfold mostR; split<;>omega
structure RSok (b:List UInt8) (i:Nat) (r:RS) : Prop where
 val : Valid r.es
 len : r.aft.length=r.es.length
 fit : ∀ s∈r.aft,Fit r.es s
 p : r.p≤b.length
 le : r.es.length≤i
 pos : 0 < i→0 < r.es.length
theorem Valid.fine [Bd] {es:List Event} (h:Valid es) : ∀ x∈es,Fine x:=fun x hx=>by
 obtain ⟨i,hi⟩:=List.mem_iff_getElem?.1 hx
 have hg:=(h.good hi).ok
 have h1:=evOk_refs hg
 have:=evOk_grants hg
 have:=Bd.lo
 refine ⟨?_,?_,?_⟩<;>omega
theorem RSok.has {b:List UInt8} {i:Nat} {r:RS} (h:RSok b i r) {e:Event} (he:codeE r.es e=0) : Has (r.es ++ [e]) r.aft e.prev:=by
 have hg:=good_of he
 refine ⟨(evOk_refs hg.ok).1,fun x hx=>?_⟩
 obtain ⟨k,hk⟩:=Option.isSome_iff_exists.1 (hg.prev x hx)
 have hkl:=posOf_lt hk
 have hl:=h.len
 obtain ⟨s,hs⟩ : ∃ s,r.aft[k]? = some s:=⟨_,List.getElem?_eq_getElem (by omega)⟩
 exact ⟨k,s,posOf_more hk,hs,(h.fit s (List.mem_of_getElem? hs)).more⟩
theorem RSok.next {b:List UInt8} {i start:Nat} {r:RS} (h:RSok b i r) (hp:nextP b start i r≤b.length) (h0:0 < start) : RSok b (i + 1) (stepR b start i r):=by
 have hfirst : i=0→codeE r.es (nextE b start i r)=0:=fun hi=>by
  have : r.es=[]:=List.eq_nil_of_length_eq_zero (by have:=h.le; omega)
  subst hi
  rw [this,show nextE b start 0 r=evC0 from if_pos h0]
  exact code_c0
 unfold stepR
 split
 ·rename_i he
  have hv:=h.val.snoc he
  have hat : (r.es ++ [nextE b start i r])[r.es.length]? = some (nextE b start i r):=by rw [List.getElem?_append_right (Nat.le_refl _)]; simp
  have hle:=h.le
  refine ⟨hv,by simp [h.len],fun s hs=>?_,hp,by simp; omega,fun _=>by simp⟩
  rcases List.mem_append.1 hs with hs | hs
  ·exact (h.fit s hs).more
  ·rw [List.mem_singleton.1 hs]
   exact putE_fit hv (resL_fit hv (h.has he).fits) hat
 ·rename_i he
  have hle:=h.le
  refine ⟨h.val,h.len,h.fit,hp,by simp only; omega,fun _=>?_⟩
  rcases Nat.eq_zero_or_pos i with hi | hi
  ·exact absurd (hfirst hi) he
  ·exact h.pos hi
theorem rs0_ok {b:List UInt8} {p:Nat} (h:p≤b.length) : RSok b 0 ⟨[],[],p⟩:=⟨valid_nil,rfl,by simp,h,Nat.le_refl _,fun h=>absurd h (by omega)⟩
theorem growE_fine [Bd] {es:List Event} {aft:List (List Entry)} {b:List UInt8} {p:Nat} : Fine (growE es aft b p):=by
 have hlo:=Bd.lo
 refine ⟨?_,?_,?_⟩
 ·show (bodyG es aft b p).1.prev.length < _
  unfold bodyG
  rw [contE_prev]
  have h1:=prevG_len (es:=es) (after:=aft) (k:=nx b p) (i:=cntG (nx b p))
  have h2:=cntG_le (k:=nx b p)
  show (prevG es aft (nx b p) (cntG (nx b p))).1.length < _
  omega
 ·show (authL es aft b p).length < _
  unfold authL
  have h1 : ∀ (s:List Entry) (ks:List Slot),(authG s ks).length≤ks.length:=fun s ks=>List.length_filterMap_le _ _
  have h2:=h1 (resR es (prevG es aft (nx b p) (cntG (nx b p))).2) (needOf (bodyG es aft b p).1)
  have h3:=need_len (e:=(bodyG es aft b p).1)
  generalize authG (resR es (prevG es aft (nx b p) (cntG (nx b p))).2) (needOf (bodyG es aft b p).1)=a at *
  unfold auth3 auth2
  repeat' split
  all_goals try simp only [List.length_append,List.length_cons,List.length_nil]
  all_goals omega
 ·show (bodyG es aft b p).1.grants.length < _
  unfold bodyG
  have:=contE_gr (b:=b) (p:=np b p) (e:={ newE es.length (nx b p) with prev:=(prevG es aft (nx b p) (cntG (nx b p))).1 }) (by simp [newE])
  omega
theorem nextE_fine [Bd] {b:List UInt8} {start i:Nat} {r:RS} : Fine (nextE b start i r):=by
 have hlo:=Bd.lo
 unfold nextE
 split
 ·have h : ∀ e∈first5,e.prev.length≤3∧e.auth.length≤3∧e.grants.length≤3:=by
   intro e he
   simp only [first5,List.mem_cons,List.not_mem_nil,or_false] at he
   rcases he with rfl | rfl | rfl | rfl | rfl<;>simp [evC0,evA1,evP2,evJ3,evB4]
  have : (first5[i]?).getD evC0∈first5:=by
   rcases hx : first5[i]? with _ | x
   ·exact List.mem_cons_self ..
   ·exact List.mem_of_getElem? hx
  have:=h _ this
  refine ⟨?_,?_,?_⟩<;>omega
 ·exact growE_fine
variable [Bd]
theorem Wk.share {N:Nat} {n:Nat} {tm:List (Nat × AV)} {ob:List Ob} (i:Nat) {e:TypeId} {m:Nat} {sh:Sh} {es:List T} (hi:ob[i]? = some (.arr e m (.own sh) es)) : Wk N ⟨n,tm,ob⟩ ⟨n,tm,ob.set i (.arr e m .clo es)⟩:=by
 intro w0 hv S F a w hN hr
 obtain ⟨vs,k1,k2,k3,k4⟩:=hr.ob i _ hi
 obtain ⟨L,o1,o2,o3⟩:=k2
 obtain ⟨L',f1,f2⟩:=ownEs_foot sh es o1
 have hlt : i < ob.length:=(List.getElem?_eq_some_iff.1 hi).1
 have h1:=hr.write (id:=i) (o':=.arr e m .bor es) hi (by simp) (fun _ _=>rfl) rfl rfl rfl rfl (Nat.le_refl _) rfl ⟨vs,k1,⟨L',f1,fun b hb=>(hr.fown i _ hi rfl b (o3 b (f2 b hb))).2.1⟩,k3,k4⟩ (fun h=>by cases h)
 have h2:=h1.moreS (S':=fun b=>S b ∨ b∈F i) (fun b hb=>.inl hb) (fun b hb=>hb.elim (hr.SB b) fun hb=>(hr.fown i _ hi rfl b hb).2.1) (fun j oj hj hoj b hb hh=>by
  rcases set_get hj with ⟨_,rfl⟩ | ⟨hne,hj'⟩
  ·cases hoj
  ·rcases hh with hh | hh
   ·exact (hr.fown j oj hj' hoj b hb).2.2 hh
   ·exact hr.fsep j i oj _ hne hj' hi hoj rfl b hb hh)
 have hi2 : (ob.set i (.arr e m .bor es))[i]? = some (.arr e m .bor es):=by rw [List.getElem?_set_self hlt]
 have h3:=h2.write (id:=i) (o':=.arr e m .clo es) hi2 (by simp) (fun _ _=>rfl) rfl rfl rfl rfl (Nat.le_refl _) rfl ⟨vs,k1,⟨L',f1,fun b hb=>.inr (o3 b (f2 b hb))⟩,k3,k4⟩ (fun h=>by cases h)
 simp only [List.set_set] at h3
 exact ⟨_,_,_,h3⟩
abbrev reO (es:List Event) : Ob:=.arr 42 10 (.own (.ag [.leaf,.leaf,.leaf,.leaf,.leaf,.leaf,.sl 9 1 .leaf,.sl 9 1 .leaf,.leaf,.sl 138 2 (.ag [.leaf,.leaf])])) (es.map eEvent)
theorem l2CopyO (e:Event) (hB:Bd.B≤2147483648) (hf:Fine e) : Con P0 91 [eEvent e] (evAV e 0) (evOb e):=l2Copy e hB hf
theorem l2CopyRoomO (es:List Event) (hB:Bd.B≤2147483648) (hf:∀ e∈es,Fine e) (hl:es.length + 1 < Bd.B) : Con P0 89 [eRoom ⟨es⟩] (.ag [.sr 0]) [reO es]:=by
 refine Con.intro (fn:=Tryz.f89) [.cell 2 36] (fun i=>if i=5 then (9,[(false,0),(false,1),(false,2),(false,3),(false,4),(false,5),(false,6),(true,7),(true,8)]) else (0,[])) mixed (by kernel_rfl) rfl (by decide) rfl (by rfl) (by kernel_rfl) ?_
 simp -implicitDefEqProofs (maxSteps:=2000000) only [push_cast,reduceEqDiff,reduceLT,reduceLeDiff,reduceAdd,reduceMul,reduceSub,Nat.reduceBEq,↓reduceIte,reduceCtorEq,eRoom]
 have:=Bd.lo
 refine ⟨rfl,by omega,?_⟩
 refine WL.loop (ι:=Nat) (D:=(fun i=>if i=5 then (9,[(false,0),(false,1),(false,2),(false,3),(false,4),(false,5),(false,6),(true,7),(true,8)]) else (0,[]))) (fun i=>i≤es.length) (fun i=>⟨26,[(1,.rf 0 0),(2,.rf 1 0),(3,.rf 3 0),(4,.t (.i .i64 i))],[.box (.t (eRoom ⟨es⟩)),.box (.ag [.ns]),reO (es.take i),.box (.ag [.sr 2])]⟩) (fun i=>es.length - i) mixed (by kernel_rfl) 0 (by omega) (Keep.wk (ids:=[some 0,some 1,some 2,some 3]) ?_) ?_
 ·simp only [push_cast,reduceEqDiff,reduceLT,reduceLeDiff,reduceAdd,reduceMul,reduceSub,Nat.reduceBEq,↓reduceIte,reduceCtorEq,eRoom,List.take_zero]<;>trivial
 ·intro i hi
  simp -implicitDefEqProofs (maxSteps:=2000000) only [push_cast,reduceEqDiff,reduceLT,reduceLeDiff,reduceAdd,reduceMul,reduceSub,Nat.reduceBEq,↓reduceIte,reduceCtorEq,eRoom]
  intro _
  have:=Bd.hi
  refine iteI (fun h=>?_) (fun h=>?_)
  ·refine ⟨by omega,fun a ha=>?_⟩
   rw [Int.toNat_natCast] at ha
   have hts : es.take (i + 1)=es.take i ++ [a]:=by rw [List.take_add_one,ha]; rfl
   have cC:=l2CopyO a hB (hf a (List.mem_of_getElem? ha))
   simp only [eEvent] at cC ⊢
   refine Mkx.closed cC rfl rfl (.inl rfl) ?_
   simp -implicitDefEqProofs (maxSteps:=2000000) only [push_cast,reduceEqDiff,reduceLT,reduceLeDiff,reduceAdd,reduceMul,reduceSub,Nat.reduceBEq,↓reduceIte,reduceCtorEq,eEvent]
   have hlt : (es.take i).length=i:=by rw [List.length_take]; omega
   refine ⟨rfl,by omega,rfl,by omega,by omega,by unfold inI64; omega,i + 1,by omega,by omega,Keep.wk (ids:=[some 0,some 1,some 8,some 3]) ?_⟩
   simp only [push_cast,reduceEqDiff,reduceLT,reduceLeDiff,reduceAdd,reduceMul,reduceSub,Nat.reduceBEq,↓reduceIte,reduceCtorEq,hts,List.map_append,List.map_cons,List.map_nil,eEvent]<;>trivial
  ·rw [List.take_of_length_le (by omega)]
   exact Close.of [some 2] rfl rfl rfl (by simp only [push_cast,reduceEqDiff,reduceLT,reduceLeDiff,reduceAdd,reduceMul,reduceSub,Nat.reduceBEq,↓reduceIte,reduceCtorEq]<;>rfl) (by simp only [push_cast,reduceEqDiff,reduceLT,reduceLeDiff,reduceAdd,reduceMul,reduceSub,Nat.reduceBEq,↓reduceIte,reduceCtorEq]<;>rfl)
theorem specInsertO (es:List Event) (e:Event) (hB:Bd.B≤2147483648) (hf:∀ x∈es,Fine x) (he:Fine e) (hl:es.length + 1 < Bd.B) : Con P0 35 [eRoom ⟨es⟩,eEvent e] (.tp [.ag [.sr 0],.t (.i .i64 (codeE es e))]) [reO (insE es e)]:=by
 refine Con.intro (fn:=Tryz.f35) [.cell 4 36,.tmp 5] (fun i=>if i=4 then (5,[(false,0),(false,1),(false,2),(true,3),(true,4)]) else (0,[])) mixed (by kernel_rfl) rfl (by decide) rfl (by rfl) (by kernel_rfl) ?_
 simp -implicitDefEqProofs (maxSteps:=2000000) only [push_cast,reduceEqDiff,reduceLT,reduceLeDiff,reduceAdd,reduceMul,reduceSub,Nat.reduceBEq,↓reduceIte,reduceCtorEq,eRoom,eEvent]
 have:=Bd.lo
 refine Callx.closed (l2CopyRoomO es hB hf hl) rfl rfl (.inl rfl) ?_
 simp -implicitDefEqProofs (maxSteps:=2000000) only [push_cast,reduceEqDiff,reduceLT,reduceLeDiff,reduceAdd,reduceMul,reduceSub,Nat.reduceBEq,↓reduceIte,reduceCtorEq,eRoom,eEvent]
 refine Callx.closed (l2Code es e) rfl rfl (.inl rfl) ?_
 simp -implicitDefEqProofs (maxSteps:=2000000) only [push_cast,reduceEqDiff,reduceLT,reduceLeDiff,reduceAdd,reduceMul,reduceSub,Nat.reduceBEq,↓reduceIte,reduceCtorEq,eRoom,eEvent]
 refine iteI (fun h=>?_) (fun h=>?_)
 ·refine Mkx.closed (l2CopyO e hB he) rfl rfl (.inl rfl) ?_
  simp -implicitDefEqProofs (maxSteps:=2000000) only [push_cast,reduceEqDiff,reduceLT,reduceLeDiff,reduceAdd,reduceMul,reduceSub,Nat.reduceBEq,↓reduceIte,reduceCtorEq,eRoom,eEvent]
  refine ⟨rfl,by omega,rfl,by omega,hl,?_⟩
  have : insE es e=es ++ [e]:=if_pos h
  rw [this]
  exact Close.of [some 9] rfl rfl rfl (by simp only [push_cast,reduceEqDiff,reduceLT,reduceLeDiff,reduceAdd,reduceMul,reduceSub,Nat.reduceBEq,↓reduceIte,reduceCtorEq]<;>rfl) (by simp only [push_cast,reduceEqDiff,reduceLT,reduceLeDiff,reduceAdd,reduceMul,reduceSub,Nat.reduceBEq,↓reduceIte,reduceCtorEq,List.map_append,List.map_cons,List.map_nil,eEvent]<;>trivial)
 ·have : insE es e=es:=if_neg h
  rw [this]
  exact Close.of [some 3] rfl rfl rfl (by simp only [push_cast,reduceEqDiff,reduceLT,reduceLeDiff,reduceAdd,reduceMul,reduceSub,Nat.reduceBEq,↓reduceIte,reduceCtorEq]<;>rfl) (by simp only [push_cast,reduceEqDiff,reduceLT,reduceLeDiff,reduceAdd,reduceMul,reduceSub,Nat.reduceBEq,↓reduceIte,reduceCtorEq]<;>rfl)
theorem l2DrawRoom (b:List UInt8) (p:Nat) (hB:Bd.B≤2147483648) (hb:b.length≤1000) (hp:p≤b.length) : ConM P0 83 [.rf 0 0] [rdO b p] (.tp [.ag [.sr 1],.sr 2]) [rdO b (roomR b p).p,rmO (roomR b p).es,afO (roomR b p).aft]:=by
 refine ConM.intro (fn:=Tryz.f83) [.cell 2 36,.tmp 3] (fun i=>if i=1000018 then (999999,[]) else if i=1000014 then (999999,[]) else if i=1000011 then (999999,[]) else if i=1000008 then (999999,[]) else (0,[])) mixed (by kernel_rfl) rfl (by decide) rfl (by rfl) (by kernel_rfl) ?_
 simp -implicitDefEqProofs (maxSteps:=2000000) only [push_cast,reduceEqDiff,reduceLT,reduceLeDiff,reduceAdd,reduceMul,reduceSub,Nat.reduceBEq,↓reduceIte,reduceCtorEq]
 have:=Bd.lo
 have hhi:=Bd.hi
 refine Callx.hand [0] (rdNext b p hb hp) (by decide) (by simp only [push_cast,reduceEqDiff,reduceLT,reduceLeDiff,reduceAdd,reduceMul,reduceSub,Nat.reduceBEq,↓reduceIte,reduceCtorEq]) rfl rfl (by simp only [push_cast,reduceEqDiff,reduceLT,reduceLeDiff,reduceAdd,reduceMul,reduceSub,Nat.reduceBEq,↓reduceIte,reduceCtorEq]<;>rfl) rfl (.inr ⟨rfl,by simp only [push_cast,reduceEqDiff,reduceLT,reduceLeDiff,reduceAdd,reduceMul,reduceSub,Nat.reduceBEq,↓reduceIte,reduceCtorEq]⟩) ?_
 simp -implicitDefEqProofs (maxSteps:=2000000) only [push_cast,reduceEqDiff,reduceLT,reduceLeDiff,reduceAdd,reduceMul,reduceSub,Nat.reduceBEq,↓reduceIte,reduceCtorEq]
 have hk:=nx_lt (b:=b) (p:=p)
 have hq:=np_le hp
 have hR : roomR b p=runR b (startR (nx b p)) (mostR (nx b p) (b.length - np b p)) 0 ⟨[],[],np b p⟩:=rfl
 rw [hR]
 generalize nx b p=k at *
 generalize np b p=q at *
 clear hR
 refine ⟨rfl,by omega,rfl,by omega,rfl,by omega,rfl,by omega,rfl,by omega,rfl,by omega,rfl,by omega,rfl,by omega,rfl,by omega,rfl,by omega,rfl,by omega,rfl,by omega,by omega,by omega,by unfold inI64; omega,?_⟩
 refine W.join (ι:=Unit) (D:=(fun i=>if i=1000018 then (999999,[]) else if i=1000014 then (999999,[]) else if i=1000011 then (999999,[]) else (0,[]))) (fun _=>True) (fun _=>⟨107,[(0,.rf 0 0),(2,.rf 1 0),(4,.t (.i .i64 k)),(5,.rf 3 0),(6,.sr 4),(7,.t (eEventS first5)),(8,.t (.i .i64 (startR k)))],[rdO b q,.box (.ag [.ns]),rmO [],.box (.ag [.sr 2]),afO []]⟩) mixed (by kernel_rfl) ?_ (fun _ _=>?_)
 ·simp -implicitDefEqProofs (maxSteps:=2000000) only [push_cast,reduceEqDiff,reduceLT,reduceLeDiff,reduceAdd,reduceMul,reduceSub,Nat.reduceBEq,↓reduceIte,reduceCtorEq]
  refine iteI (fun h1=>?_) (fun h1=>iteI (fun h2=>?_) (fun h2=>?_))
  ·have hs : ((startR k:Nat) : Int)=5:=by rw [show startR k=5 from if_pos (by omega)]; rfl
   refine ⟨(),Wk.trans (Wk.clo 2 rfl) (Wk.trans (Wk.clo 4 rfl) (Wk.trans (Wk.seal (y:=eEventS first5) (ids:=[14]) 7 ?_ rfl) (Keep.wk (ids:=[some 0,some 1,some 2,some 3,some 4]) ?_)))⟩
   ·simp only [push_cast,reduceEqDiff,reduceLT,reduceLeDiff,reduceAdd,reduceMul,reduceSub,Nat.reduceBEq,↓reduceIte,reduceCtorEq,getL,first5,evC0,evA1,evP2,evJ3,evB4,List.map_cons,List.map_nil,eEvent]<;>rfl
   simp only [push_cast,reduceEqDiff,reduceLT,reduceLeDiff,reduceAdd,reduceMul,reduceSub,Nat.reduceBEq,↓reduceIte,reduceCtorEq,hs,killAll]<;>trivial
  ·have hs : ((startR k:Nat) : Int)=5:=by rw [show startR k=5 from if_pos (by omega)]; rfl
   refine ⟨(),Wk.trans (Wk.clo 2 rfl) (Wk.trans (Wk.clo 4 rfl) (Wk.trans (Wk.seal (y:=eEventS first5) (ids:=[14]) 7 ?_ rfl) (Keep.wk (ids:=[some 0,some 1,some 2,some 3,some 4]) ?_)))⟩
   ·simp only [push_cast,reduceEqDiff,reduceLT,reduceLeDiff,reduceAdd,reduceMul,reduceSub,Nat.reduceBEq,↓reduceIte,reduceCtorEq,getL,first5,evC0,evA1,evP2,evJ3,evB4,List.map_cons,List.map_nil,eEvent]<;>rfl
   simp only [push_cast,reduceEqDiff,reduceLT,reduceLeDiff,reduceAdd,reduceMul,reduceSub,Nat.reduceBEq,↓reduceIte,reduceCtorEq,hs,killAll]<;>trivial
  ·have hs : ((startR k:Nat) : Int)=1 + (k:Int) % 6:=by rw [show startR k=1 + k % 6 from if_neg (by omega)]; omega
   refine ⟨(),Wk.trans (Wk.clo 2 rfl) (Wk.trans (Wk.clo 4 rfl) (Wk.trans (Wk.seal (y:=eEventS first5) (ids:=[14]) 7 ?_ rfl) (Keep.wk (ids:=[some 0,some 1,some 2,some 3,some 4]) ?_)))⟩
   ·simp only [push_cast,reduceEqDiff,reduceLT,reduceLeDiff,reduceAdd,reduceMul,reduceSub,Nat.reduceBEq,↓reduceIte,reduceCtorEq,getL,first5,evC0,evA1,evP2,evJ3,evB4,List.map_cons,List.map_nil,eEvent]<;>rfl
   simp only [push_cast,reduceEqDiff,reduceLT,reduceLeDiff,reduceAdd,reduceMul,reduceSub,Nat.reduceBEq,↓reduceIte,reduceCtorEq,hs,killAll]<;>trivial
 have hsl:=startR_le (k:=k)
 have hml:=mostR_le (k:=k) (l:=b.length - q)
 have hmd : mostR k (b.length - q)=mostR k (b.length - q):=rfl
 conv at hmd=>rhs; unfold mostR
 generalize startR k=start at *
 generalize mostR k (b.length - q)=most at *
 simp -implicitDefEqProofs (maxSteps:=2000000) only [push_cast,reduceEqDiff,reduceLT,reduceLeDiff,reduceAdd,reduceMul,reduceSub,Nat.reduceBEq,↓reduceIte,reduceCtorEq]
 have hk64 : inI64 (k:Int):=by unfold inI64; omega
 refine ⟨by unfold inI64; omega,by omega,by omega,hk64,by omega,by omega,by unfold inI64; omega,?_⟩
 refine Callx.hand [0] (rdLeft b q hb hq) (by decide) (by simp only [push_cast,reduceEqDiff,reduceLT,reduceLeDiff,reduceAdd,reduceMul,reduceSub,Nat.reduceBEq,↓reduceIte,reduceCtorEq]) rfl rfl (by simp only [push_cast,reduceEqDiff,reduceLT,reduceLeDiff,reduceAdd,reduceMul,reduceSub,Nat.reduceBEq,↓reduceIte,reduceCtorEq]<;>rfl) rfl (.inr ⟨rfl,by simp only [push_cast,reduceEqDiff,reduceLT,reduceLeDiff,reduceAdd,reduceMul,reduceSub,Nat.reduceBEq,↓reduceIte,reduceCtorEq]⟩) ?_
 simp -implicitDefEqProofs (maxSteps:=2000000) only [push_cast,reduceEqDiff,reduceLT,reduceLeDiff,reduceAdd,reduceMul,reduceSub,Nat.reduceBEq,↓reduceIte,reduceCtorEq]
 have hl64 : inI64 ((b.length - q : Nat) : Int):=by unfold inI64; omega
 have hl7 : ((b.length - q : Nat) : Int) / 7=(((b.length - q) / 7 : Nat) : Int):=by omega
 generalize hlf : b.length - q=left at *
 rw [hl7]
 refine ⟨by omega,by omega,hl64,by unfold inI64; omega,?_⟩
 refine W.join (ι:=Unit) (D:=(fun i=>if i=1000018 then (999999,[]) else if i=1000014 then (999999,[]) else (0,[]))) (fun _=>True) (fun _=>⟨107,[(0,.rf 0 0),(2,.rf 1 0),(5,.rf 3 0),(6,.sr 4),(7,.t (eEventS first5)),(8,.t (.i .i64 start)),(9,.t (.i .i64 most))],[rdO b q,.box (.ag [.ns]),rmO [],.box (.ag [.sr 2]),afO []]⟩) mixed (by kernel_rfl) ?_ (fun _ _=>?_)
 ·simp -implicitDefEqProofs (maxSteps:=2000000) only [push_cast,reduceEqDiff,reduceLT,reduceLeDiff,reduceAdd,reduceMul,reduceSub,Nat.reduceBEq,↓reduceIte,reduceCtorEq]
  refine iteI (fun h1=>?_) (fun h1=>?_)
  ·rw [if_pos (by omega)] at hmd
   refine ⟨(),Keep.wk (ids:=[some 0,some 1,some 2,some 3,some 4]) ?_⟩
   simp only [push_cast,reduceEqDiff,reduceLT,reduceLeDiff,reduceAdd,reduceMul,reduceSub,Nat.reduceBEq,↓reduceIte,reduceCtorEq,hmd]<;>trivial
  ·rw [if_neg (by omega)] at hmd
   have hmz : (most:Int)=(start:Int) + 2 + (k:Int) / 6 % 3 + ((left / 7 : Nat) : Int):=by omega
   refine ⟨(),Keep.wk (ids:=[some 0,some 1,some 2,some 3,some 4]) ?_⟩
   simp only [push_cast,reduceEqDiff,reduceLT,reduceLeDiff,reduceAdd,reduceMul,reduceSub,Nat.reduceBEq,↓reduceIte,reduceCtorEq,hmz]<;>trivial
 simp -implicitDefEqProofs (maxSteps:=2000000) only [push_cast,reduceEqDiff,reduceLT,reduceLeDiff,reduceAdd,reduceMul,reduceSub,Nat.reduceBEq,↓reduceIte,reduceCtorEq]
 clear hlf hl7 hl64 hmd
 generalize hRR : runR b start most 0 ⟨[],[],q⟩=R
 refine WL.loop (ι:=Nat × RS) (D:=(fun i=>if i=1000018 then (999999,[]) else if i=1000014 then (999999,[]) else (0,[]))) (fun x=>x.1≤most∧RSok b x.1 x.2∧runR b start (most - x.1) x.1 x.2=R) (fun x=>⟨107,[(0,.rf 0 0),(2,.rf 1 0),(5,.rf 3 0),(6,.sr 4),(7,.t (eEventS first5)),(8,.t (.i .i64 start)),(9,.t (.i .i64 most)),(10,.t (.i .i64 x.1))],[rdO b x.2.p,.box (.ag [.ns]),rmO x.2.es,.box (.ag [.sr 2]),afO x.2.aft]⟩) (fun x=>most - x.1) mixed (by kernel_rfl) (0,⟨[],[],q⟩) ⟨by omega,rs0_ok hq,hRR⟩ (Keep.wk (ids:=[some 0,some 1,some 2,some 3,some 4]) ?_) ?_
 ·simp only [push_cast,reduceEqDiff,reduceLT,reduceLeDiff,reduceAdd,reduceMul,reduceSub,Nat.reduceBEq,↓reduceIte,reduceCtorEq]<;>trivial
 rintro ⟨i,es,aft,p⟩ ⟨hi,hok,hrun⟩
 simp only at hi hok hrun ⊢
 have hpp:=hok.p
 have hle:=hok.le
 have hla:=hok.len
 simp only at hpp hle hla
 simp -implicitDefEqProofs (maxSteps:=2000000) only [push_cast,reduceEqDiff,reduceLT,reduceLeDiff,reduceAdd,reduceMul,reduceSub,Nat.reduceBEq,↓reduceIte,reduceCtorEq]
 refine W.join (ι:={_u:Unit // i < most∧(i < start ∨ p < b.length)}) (D:=(fun i=>if i=1000018 then (999999,[]) else (0,[]))) (fun _=>True) (fun _=>⟨107,[(0,.rf 0 0),(2,.rf 1 0),(5,.rf 3 0),(6,.sr 4),(7,.t (eEventS first5)),(8,.t (.i .i64 start)),(9,.t (.i .i64 most)),(10,.t (.i .i64 i))],[rdO b p,.box (.ag [.ns]),rmO es,.box (.ag [.sr 2]),afO aft]⟩) mixed (by kernel_rfl) ?_ (fun ih _=>?_)
 ·simp -implicitDefEqProofs (maxSteps:=2000000) only [push_cast,reduceEqDiff,reduceLT,reduceLeDiff,reduceAdd,reduceMul,reduceSub,Nat.reduceBEq,↓reduceIte,reduceCtorEq]
  refine iteI (fun h1=>iteI (fun h2=>⟨⟨(),by omega,.inl (by omega)⟩,Keep.wk (ids:=[some 0,some 1,some 2,some 3,some 4]) ?_⟩) (fun h2=>?_)) (fun h1=>?_)
  ·simp only [push_cast,reduceEqDiff,reduceLT,reduceLeDiff,reduceAdd,reduceMul,reduceSub,Nat.reduceBEq,↓reduceIte,reduceCtorEq]<;>trivial
  ·refine Callx.hand [0] (rdLeft b p hb hpp) (by decide) (by simp only [push_cast,reduceEqDiff,reduceLT,reduceLeDiff,reduceAdd,reduceMul,reduceSub,Nat.reduceBEq,↓reduceIte,reduceCtorEq]) rfl rfl (by simp only [push_cast,reduceEqDiff,reduceLT,reduceLeDiff,reduceAdd,reduceMul,reduceSub,Nat.reduceBEq,↓reduceIte,reduceCtorEq]<;>rfl) rfl (.inr ⟨rfl,by simp only [push_cast,reduceEqDiff,reduceLT,reduceLeDiff,reduceAdd,reduceMul,reduceSub,Nat.reduceBEq,↓reduceIte,reduceCtorEq]⟩) ?_
   simp -implicitDefEqProofs (maxSteps:=2000000) only [push_cast,reduceEqDiff,reduceLT,reduceLeDiff,reduceAdd,reduceMul,reduceSub,Nat.reduceBEq,↓reduceIte,reduceCtorEq]
   refine iteI (fun h3=>⟨⟨(),by omega,.inr (by omega)⟩,Keep.wk (ids:=[some 0,some 1,some 2,some 3,some 4]) ?_⟩) (fun h3=>?_)
   ·simp only [push_cast,reduceEqDiff,reduceLT,reduceLeDiff,reduceAdd,reduceMul,reduceSub,Nat.reduceBEq,↓reduceIte,reduceCtorEq]<;>trivial
   ·have hend : R=⟨es,aft,p⟩:=by
     rw [← hrun,show most - i=most - i - 1 + 1 by omega]
     exact if_neg (by simp only; omega)
    rw [hend]
    exact Close.of [some 0,some 2,some 4] rfl rfl rfl (by simp only [push_cast,reduceEqDiff,reduceLT,reduceLeDiff,reduceAdd,reduceMul,reduceSub,Nat.reduceBEq,↓reduceIte,reduceCtorEq]<;>first | rfl | trivial) (by simp only [push_cast,reduceEqDiff,reduceLT,reduceLeDiff,reduceAdd,reduceMul,reduceSub,Nat.reduceBEq,↓reduceIte,reduceCtorEq]<;>first | rfl | trivial)
  ·have hend : R=⟨es,aft,p⟩:=by
    rw [← hrun,show most - i=0 by omega]
    rfl
   rw [hend]
   exact Close.of [some 0,some 2,some 4] rfl rfl rfl (by simp only [push_cast,reduceEqDiff,reduceLT,reduceLeDiff,reduceAdd,reduceMul,reduceSub,Nat.reduceBEq,↓reduceIte,reduceCtorEq]<;>first | rfl | trivial) (by simp only [push_cast,reduceEqDiff,reduceLT,reduceLeDiff,reduceAdd,reduceMul,reduceSub,Nat.reduceBEq,↓reduceIte,reduceCtorEq]<;>first | rfl | trivial)
 obtain ⟨_,him,hor⟩:=ih
 simp -implicitDefEqProofs (maxSteps:=2000000) only [push_cast,reduceEqDiff,reduceLT,reduceLeDiff,reduceAdd,reduceMul,reduceSub,Nat.reduceBEq,↓reduceIte,reduceCtorEq]
 refine ⟨⟨by omega,by decide⟩,fun a ha=>?_⟩
 rw [show first5[Int.toNat 0]? = some evC0 from rfl] at ha
 cases ha
 refine ⟨rfl,?_⟩
 have hrun' : runR b start (most - (i + 1)) (i + 1) (stepR b start i ⟨es,aft,p⟩)=R:=by
  rw [← hrun,show most - i=most - (i + 1) + 1 by omega]
  exact (if_pos hor).symm
 have hnp : nextP b start i ⟨es,aft,p⟩≤b.length:=by
  unfold nextP
  split
  ·exact hpp
  ·exact contE_p (np_le hpp)
 have hok':=hok.next hnp (by omega)
 have hfl : first5.length=5:=rfl
 refine W.join (ι:=Unit) (D:=(fun _=>(0,[]))) (fun _=>True) (fun _=>⟨107,[(0,.rf 0 0),(2,.rf 1 0),(5,.rf 3 0),(6,.sr 4),(7,.t (eEventS first5)),(8,.t (.i .i64 start)),(9,.t (.i .i64 most)),(10,.t (.i .i64 i)),(11,.rf 5 0)],[rdO b (nextP b start i ⟨es,aft,p⟩),.box (.ag [.ns]),rmO es,.box (.ag [.sr 2]),afO aft,.box (.t (eEvent (nextE b start i ⟨es,aft,p⟩)))]⟩) mixed (by kernel_rfl) ?_ (fun _ _=>?_)
 ·simp -implicitDefEqProofs (maxSteps:=2000000) only [push_cast,reduceEqDiff,reduceLT,reduceLeDiff,reduceAdd,reduceMul,reduceSub,Nat.reduceBEq,↓reduceIte,reduceCtorEq]
  refine iteI (fun h1=>⟨⟨by omega,by omega⟩,fun a ha=>⟨rfl,(),Keep.wk (ids:=[some 0,some 1,some 2,some 3,some 4,some 5]) ?_⟩⟩) (fun h1=>?_)
  ·rw [Int.toNat_natCast] at ha
   have e1 : nextE b start i ⟨es,aft,p⟩=a:=by
    rw [show nextE b start i ⟨es,aft,p⟩=(first5[i]?).getD evC0 from if_pos (by omega),ha]; rfl
   rw [e1,show nextP b start i ⟨es,aft,p⟩=p from if_pos (by omega)]
   simp only [push_cast,reduceEqDiff,reduceLT,reduceLeDiff,reduceAdd,reduceMul,reduceSub,Nat.reduceBEq,↓reduceIte,reduceCtorEq]<;>trivial
  ·have hpos : 0 < es.length:=hok.pos (by omega)
   refine Callx.hand [0,2,4] (l2Grow es aft b p hB hb hpp hpos (by omega) hla) (by decide) (by simp only [push_cast,reduceEqDiff,reduceLT,reduceLeDiff,reduceAdd,reduceMul,reduceSub,Nat.reduceBEq,↓reduceIte,reduceCtorEq]) rfl rfl (by simp only [push_cast,reduceEqDiff,reduceLT,reduceLeDiff,reduceAdd,reduceMul,reduceSub,Nat.reduceBEq,↓reduceIte,reduceCtorEq]<;>rfl) rfl (.inr ⟨rfl,by simp only [push_cast,reduceEqDiff,reduceLT,reduceLeDiff,reduceAdd,reduceMul,reduceSub,Nat.reduceBEq,↓reduceIte,reduceCtorEq]⟩) ?_
   simp -implicitDefEqProofs (maxSteps:=2000000) only [push_cast,reduceEqDiff,reduceLT,reduceLeDiff,reduceAdd,reduceMul,reduceSub,Nat.reduceBEq,↓reduceIte,reduceCtorEq]
   refine ⟨rfl,(),Keep.wk (ids:=[some 0,some 1,some 2,some 3,some 4,some 5]) ?_⟩
   rw [show nextE b start i ⟨es,aft,p⟩=growE es aft b p from if_neg (by omega),show nextP b start i ⟨es,aft,p⟩=(bodyG es aft b p).2 from if_neg (by omega)]
   simp only [push_cast,reduceEqDiff,reduceLT,reduceLeDiff,reduceAdd,reduceMul,reduceSub,Nat.reduceBEq,↓reduceIte,reduceCtorEq]<;>trivial
 have hfe:=nextE_fine (b:=b) (start:=start) (i:=i) (r:=⟨es,aft,p⟩)
 have hst : stepR b start i ⟨es,aft,p⟩=if codeE es (nextE b start i ⟨es,aft,p⟩)=0 then ⟨es ++ [nextE b start i ⟨es,aft,p⟩],aft ++ [aftL (es ++ [nextE b start i ⟨es,aft,p⟩]) aft (nextE b start i ⟨es,aft,p⟩)],nextP b start i ⟨es,aft,p⟩⟩ else ⟨es,aft,nextP b start i ⟨es,aft,p⟩⟩:=rfl
 generalize nextE b start i ⟨es,aft,p⟩=e at *
 generalize nextP b start i ⟨es,aft,p⟩=p2 at *
 have cI:=specInsertO es e hB hok.val.fine hfe (by omega)
 simp only [eRoom] at cI
 simp -implicitDefEqProofs (maxSteps:=2000000) only [push_cast,reduceEqDiff,reduceLT,reduceLeDiff,reduceAdd,reduceMul,reduceSub,Nat.reduceBEq,↓reduceIte,reduceCtorEq]
 refine Callx.closed cI rfl rfl (.inr ⟨rfl,rfl⟩) ?_
 simp -implicitDefEqProofs (maxSteps:=2000000) only [push_cast,reduceEqDiff,reduceLT,reduceLeDiff,reduceAdd,reduceMul,reduceSub,Nat.reduceBEq,↓reduceIte,reduceCtorEq]
 refine iteI (fun hcd=>?_) (fun hcd=>?_)
 ·rw [if_neg hcd] at hst
  rw [hst] at hok' hrun'
  refine ⟨by unfold inI64; omega,(i + 1,⟨es,aft,p2⟩),⟨by simp only; omega,hok',hrun'⟩,by simp only; omega,Keep.wk (ids:=[some 0,some 1,some 2,some 3,some 4]) ?_⟩
  simp only [push_cast,reduceEqDiff,reduceLT,reduceLeDiff,reduceAdd,reduceMul,reduceSub,Nat.reduceBEq,↓reduceIte,reduceCtorEq]<;>trivial
 ·have hcd:=Classical.not_not.1 hcd
  rw [if_pos hcd] at hst
  rw [hst] at hok' hrun'
  rw [show insE es e=es ++ [e] from if_pos hcd]
  intro _
  have hll : ((es ++ [e]).length : Int)=es.length + 1:=by simp
  have hie : ((es ++ [e]).length : Int) - 1=(es.length : Int):=by omega
  have hvs:=hok.val.snoc hcd
  have hat : (es ++ [e])[es.length]? = some e:=by rw [List.getElem?_append_right (Nat.le_refl _)]; simp
  have cA:=l7After (es ++ [e]) hvs aft es.length e hat (hok.has hcd) hB
  have hfl':=(putE_fit hvs (resL_fit hvs (hok.has hcd).fits) hat).len
  simp only [eRoom] at cA
  rw [hie]
  refine ⟨by unfold inI64; omega,?_⟩
  refine Callx.closed cA rfl rfl (.inr ⟨rfl,rfl⟩) ?_
  simp -implicitDefEqProofs (maxSteps:=2000000) only [push_cast,reduceEqDiff,reduceLT,reduceLeDiff,reduceAdd,reduceMul,reduceSub,Nat.reduceBEq,↓reduceIte,reduceCtorEq]
  refine ⟨rfl,by omega,rfl,by omega,by omega,by unfold inI64; omega,(i + 1,⟨es ++ [e],aft ++ [aftL (es ++ [e]) aft e],p2⟩),⟨by simp only; omega,hok',hrun'⟩,by simp only; omega,Wk.trans (Wk.share 6 rfl) (Keep.wk (ids:=[some 0,some 1,some 6,some 3,some 10]) ?_)⟩
  simp only [push_cast,reduceEqDiff,reduceLT,reduceLeDiff,reduceAdd,reduceMul,reduceSub,Nat.reduceBEq,↓reduceIte,reduceCtorEq,List.map_append,List.map_cons,List.map_nil]<;>trivial
theorem anyRoom (c:List UInt8) (hB:Bd.B≤2147483648) : Con P0 31 [.sl (c.map eU8)] (.ag [.sr 0]) [rmO (roomR (c.take 1000) 0).es]:=by
 have hcl : (c.take 1000).length≤1000:=by rw [List.length_take]; omega
 refine Con.intro (fn:=Tryz.f31) [.cell 2 36] (fun _=>(0,[])) mixed (by kernel_rfl) rfl (by decide) rfl (by rfl) (by kernel_rfl) ?_
 simp -implicitDefEqProofs (maxSteps:=2000000) only [push_cast,reduceEqDiff,reduceLT,reduceLeDiff,reduceAdd,reduceMul,reduceSub,Nat.reduceBEq,↓reduceIte,reduceCtorEq]
 refine Callx.closed (l1Open c) rfl rfl (.inl rfl) ?_
 simp -implicitDefEqProofs (maxSteps:=2000000) only [push_cast,reduceEqDiff,reduceLT,reduceLeDiff,reduceAdd,reduceMul,reduceSub,Nat.reduceBEq,↓reduceIte,reduceCtorEq]
 refine Callx.hand [1] (l2DrawRoom (c.take 1000) 0 hB hcl (Nat.zero_le _)) (by decide) (by simp only [push_cast,reduceEqDiff,reduceLT,reduceLeDiff,reduceAdd,reduceMul,reduceSub,Nat.reduceBEq,↓reduceIte,reduceCtorEq]) rfl rfl (by simp only [push_cast,reduceEqDiff,reduceLT,reduceLeDiff,reduceAdd,reduceMul,reduceSub,Nat.reduceBEq,↓reduceIte,reduceCtorEq]<;>rfl) rfl (.inr ⟨rfl,by simp only [push_cast,reduceEqDiff,reduceLT,reduceLeDiff,reduceAdd,reduceMul,reduceSub,Nat.reduceBEq,↓reduceIte,reduceCtorEq]⟩) ?_
 simp -implicitDefEqProofs (maxSteps:=2000000) only [push_cast,reduceEqDiff,reduceLT,reduceLeDiff,reduceAdd,reduceMul,reduceSub,Nat.reduceBEq,↓reduceIte,reduceCtorEq]
 exact Close.of [some 2] rfl rfl rfl (by simp only [push_cast,reduceEqDiff,reduceLT,reduceLeDiff,reduceAdd,reduceMul,reduceSub,Nat.reduceBEq,↓reduceIte,reduceCtorEq]<;>rfl) (by simp only [push_cast,reduceEqDiff,reduceLT,reduceLeDiff,reduceAdd,reduceMul,reduceSub,Nat.reduceBEq,↓reduceIte,reduceCtorEq]<;>rfl)
end Go.Proofs.YtmgdkkhnjkepiaaGreat.BX
namespace Go.Proofs.YtmgdkkhnjkepiaaGreat.BX
open Nat (reduceEqDiff reduceLT reduceLeDiff reduceAdd reduceMul reduceSub)
set_option linter.unusedSectionVars false
set_option linter.unusedSimpArgs false
set_option linter.unusedVariables false
open Go Go.RowKit
set_option maxRecDepth 20000
set_option maxHeartbeats 400000
noncomputable def rowGet (es:List Event) (x:List UInt8) (c:Nat) : Int:=match posOf x es with
 | some p => ((rowL es p)[c]?).getD 0
 | none => 0
noncomputable def outF (es:List Event) (l:List (List UInt8)) (c:Nat) : Int:=l.foldl (fun m x=>if rowGet es x c > m then rowGet es x c else m) 0
theorem outF_snoc {es:List Event} {l:List (List UInt8)} {j c:Nat} {x:List UInt8} (h:l[j]? = some x) : outF es (l.take (j + 1)) c=if rowGet es x c > outF es (l.take j) c then rowGet es x c else outF es (l.take j) c:=by
 unfold outF
 rw [List.take_add_one,h,List.foldl_append]
 rfl
theorem max_from {α:Type} {f:α→Int} : ∀ {l:List α} {m:Int},let r:=l.foldl (fun m x=>if f x > m then f x else m) m
 m≤r∧(∀ x∈l,f x≤r)∧(r=m ∨ ∃ x∈l,f x=r)
 | [], m => by simp
 | x :: l, m => by
   simp only [List.foldl_cons]
   obtain ⟨m',hm',q1,q2,q3⟩ : ∃ m',(if f x > m then f x else m)=m' ∧ m≤m' ∧ f x≤m' ∧ (m'=m ∨ f x=m'):=by
    refine ⟨_,rfl,?_,?_,?_⟩
    ·split<;>omega
    ·split<;>omega
    ·split
     ·exact .inr rfl
     ·exact .inl rfl
   rw [hm']
   obtain ⟨h1,h2,h3⟩:=max_from (f:=f) (l:=l) (m:=m')
   refine ⟨by omega,fun y hy=>?_,?_⟩
   ·rcases List.mem_cons.1 hy with rfl | hy
    ·omega
    ·exact h2 y hy
   ·rcases h3 with h3 | ⟨y,hy,h3⟩
    ·rw [h3]
     rcases q3 with q3 | q3
     ·exact .inl q3
     ·exact .inr ⟨x,by simp,q3⟩
    ·exact .inr ⟨y,by simp [hy],h3⟩
theorem outF_nn {es:List Event} {l:List (List UInt8)} {c:Nat} : 0≤outF es l c:=(max_from (f:=fun x=>rowGet es x c) (l:=l) (m:=0)).1
theorem outF_le {es:List Event} {l:List (List UInt8)} {c:Nat} {x:List UInt8} (h:x∈l) : rowGet es x c≤outF es l c:=(max_from (f:=fun x=>rowGet es x c) (l:=l) (m:=0)).2.1 x h
theorem outF_or {es:List Event} {l:List (List UInt8)} {c:Nat} : outF es l c=0 ∨ ∃ x∈l,rowGet es x c=outF es l c:=(max_from (f:=fun x=>rowGet es x c) (l:=l) (m:=0)).2.2
theorem row_at {es:List Event} {p:Nat} {a:Event} (ha:es[p]? = some a) {c:Nat} (hc:c < (cov es (p + 1)).2) : (rowL es p)[c]? = some (grt (nearL es a.id) c):=by
 unfold rowL
 rw [ha]
 dsimp only
 rw [List.getElem?_map,List.getElem?_range hc]
 rfl
theorem row_len {es:List Event} {p:Nat} {a:Event} (ha:es[p]? = some a) : (rowL es p).length=(cov es (p + 1)).2:=by
 unfold rowL
 rw [ha]
 simp
theorem cov_last {es:List Event} {n:Nat} {e:Event} {s:Spot} (he:es[n]? = some e) (hs:(cov es (n + 1)).1[n]? = some s) : ∀ b∈(cov es (n + 1)).1,b.chain=s.chain→b.seq≤s.seq:=by
 have hn:=(List.getElem?_eq_some_iff.1 he).1
 have hcl : (cov es n).1.length=n:=cov_len (by omega)
 obtain ⟨last,h1,h2⟩:=lasts_of (es:=es) (n:=n) (by omega)
 obtain ⟨q1,q2⟩:=h1.next h2 he
 have hse : nextSpot es (cov es n).1 (cov es n).2 e.auth=s:=by
  rw [cov_succ he] at hs
  simp only at hs
  rw [List.getElem?_append_right (by omega),hcl,Nat.sub_self] at hs
  simpa using hs
 rw [hse] at q1 q2
 obtain ⟨b1,b2,_⟩:=q1.lo n s hs
 refine (isLast_at hs).1 ((q1.iff hs).2 ?_)
 have hl : s.chain.toNat < (nextLast last s n).length:=by omega
 unfold nextLast at hl ⊢
 rw [List.length_set] at hl
 exact List.getElem?_set_self hl
theorem row_is {es:List Event} (hv:Valid es) {i:Nat} {e:Event} {s:Spot} (he:es[i]? = some e) (hs:(cov es (i + 1)).1[i]? = some s) {c:Nat} (hc:c < (cov es (i + 1)).2) : grt (nearL es e.id) c=if (c:Int)=s.chain then s.seq else outF es e.auth c:=by
 have hi:=(List.getElem?_eq_some_iff.1 he).1
 have hau:=authOf_at (hv.pos he) he
 have hsp : ∀ {k:Nat},k≤i→(sps es)[k]? = (cov es (i + 1)).1[k]?:=fun hk=>cov_prefix (by omega) (by omega) (Nat.le_refl _)
 have hle : ∀ {k:Nat} {a:Event},es[k]? = some a→(k=i ∨ Anc es e.auth a.id)→k≤i:=fun {k a} hk h=>by
  rcases h with h | h
  ·omega
  ·exact Nat.le_of_lt (anc_lt hv he h k (hv.pos hk))
 split
 ·rename_i hcs
  have h1:=(cov_seq (n:=i + 1) (by omega) s (List.mem_of_getElem? hs)).2
  refine grt_is h1 (fun b hb hbc=>?_) (.inr ⟨s,(near_mem hv he).2 ⟨i,e,he,.inl rfl,by rw [hsp (Nat.le_refl _)]; exact hs⟩,hcs.symm,rfl⟩)
  obtain ⟨k,a,hk,hor,hkb⟩:=(near_mem hv he).1 hb
  rw [hsp (hle hk hor)] at hkb
  exact cov_last he hs b (List.mem_of_getElem? hkb) (by omega)
 ·rename_i hcs
  refine grt_is outF_nn (fun b hb hbc=>?_) ?_
  ·obtain ⟨k,a,hk,hor,hkb⟩:=(near_mem hv he).1 hb
   rcases hor with rfl | hor
   ·rw [hsp (Nat.le_refl _),hs] at hkb
    cases hkb
    omega
   ·obtain ⟨y,hy,hya⟩:=anc_split hv |>.1 hor
    obtain ⟨p,f,hpi,hpf,hfy,hpp⟩:=pos_ref ((hv.good he).auth y hy)
    have hyau:=authOf_at hpp hpf
    have hkp : k=p ∨ Anc es f.auth a.id:=by
     rcases hya with h | h
     ·left
      have:=hv.pos hk
      rw [h,hpp] at this
      cases this; rfl
     ·exact .inr (hyau ▸ h)
    have hkle : k≤p:=by
     rcases hkp with h | h
     ·omega
     ·exact Nat.le_of_lt (anc_lt hv hpf h k (hv.pos hk))
    have hbn : b∈nearL es f.id:=(near_mem hv hpf).2 ⟨k,a,hk,hkp,hkb⟩
    have hkb2 : (cov es (p + 1)).1[k]? = some b:=by
     rw [← hkb]
     exact (cov_prefix (by omega) (by omega) (Nat.le_refl _)).symm
    obtain ⟨last,hl,hll⟩:=lasts_of (es:=es) (n:=p + 1) (by omega)
    obtain ⟨w1,w2,_⟩:=hl.lo k b hkb2
    have hrg : rowGet es y c=grt (nearL es f.id) c:=by
     unfold rowGet
     rw [hpp]
     dsimp only
     rw [row_at hpf (by omega)]
     rfl
    have:=outF_le (es:=es) (c:=c) hy
    rw [hrg] at this
    exact Int.le_trans (grt_le hbn hbc) this
  ·rcases outF_or (es:=es) (l:=e.auth) (c:=c) with h | ⟨y,hy,h⟩
   ·exact .inl h
   ·obtain ⟨p,f,hpi,hpf,hfy,hpp⟩:=pos_ref ((hv.good he).auth y hy)
    have hyau:=authOf_at hpp hpf
    rw [← h]
    by_cases hcp : c < (cov es (p + 1)).2
    ·have hrg : rowGet es y c=grt (nearL es f.id) c:=by
      unfold rowGet
      rw [hpp]
      dsimp only
      rw [row_at hpf hcp]
      rfl
     rw [hrg]
     rcases grt_or (l:=nearL es f.id) (c:=(c:Int)) with h0 | ⟨b,hb,q⟩
     ·exact .inl h0
     ·refine .inr ⟨b,?_,q⟩
      obtain ⟨k,a,hk,hor,hkb⟩:=(near_mem hv hpf).1 hb
      refine (near_mem hv he).2 ⟨k,a,hk,.inr ((anc_split hv).2 ⟨y,hy,?_⟩),hkb⟩
      rcases hor with rfl | hor
      ·rw [hpf] at hk; cases hk; exact .inl hfy
      ·exact .inr (hyau ▸ hor)
    ·left
     unfold rowGet
     rw [hpp]
     dsimp only
     rw [List.getElem?_eq_none (by rw [row_len hpf]; omega)]
     rfl
end Go.Proofs.YtmgdkkhnjkepiaaGreat.BX
namespace Go.Proofs.YtmgdkkhnjkepiaaGreat.BX
open Nat (reduceEqDiff reduceLT reduceLeDiff reduceAdd reduceMul reduceSub)
set_option linter.unusedSectionVars false
set_option linter.unusedSimpArgs false
set_option linter.unusedVariables false
open Go Go.RowKit
set_option maxRecDepth 20000
set_option maxHeartbeats 400000
theorem snocI {l:List Nat} {i:Nat} : List.map (fun n:Nat=>T.i .i64 (n:Int)) l ++ [T.i .i64 (i:Int)]=List.map (fun n:Nat=>T.i .i64 (n:Int)) (l ++ [i]):=by simp
theorem setI {l:List Nat} {i k:Nat} : (List.map (fun n:Nat=>T.i .i64 (n:Int)) l).set k (T.i .i64 (i:Int))=List.map (fun n:Nat=>T.i .i64 (n:Int)) (l.set k i):=by rw [List.map_set]
noncomputable def outs (es:List Event) (l:List (List UInt8)) (x:List UInt8) (n m:Nat) : List Int:=(List.range n).map fun c : Nat=>if c < m then (if rowGet es x c > outF es l c then rowGet es x c else outF es l c) else outF es l c
noncomputable def outL (es:List Event) (l:List (List UInt8)) (n:Nat) : List Int:=(List.range n).map fun c : Nat=>outF es l c
theorem outL_nil {es:List Event} {n:Nat} : (outL es [] n).map (T.i .i64)=List.replicate n (T.i .i64 0):=by
 unfold outL outF
 rw [List.map_map,show ((T.i .i64) ∘ fun c : Nat=>List.foldl (fun m x=>if rowGet es x c > m then rowGet es x c else m) 0 [])=fun _=>T.i .i64 0 from rfl,List.map_const',List.length_range]
theorem outs_zero {es:List Event} {l:List (List UInt8)} {x:List UInt8} {n:Nat} : outs es l x n 0=outL es l n:=by
 unfold outs outL
 exact List.map_congr_left fun c _=>if_neg (by omega)
theorem outs_get {es:List Event} {l:List (List UInt8)} {x:List UInt8} {n m:Nat} (h:m < n) : (outs es l x n m)[m]? = some (outF es l m):=by
 unfold outs
 rw [List.getElem?_map,List.getElem?_range h]
 simp
theorem outs_len {es:List Event} {l:List (List UInt8)} {x:List UInt8} {n m:Nat} : (outs es l x n m).length=n:=by simp [outs]
theorem outL_len {es:List Event} {l:List (List UInt8)} {n:Nat} : (outL es l n).length=n:=by simp [outL]
theorem outs_set {es:List Event} {l:List (List UInt8)} {x:List UInt8} {n m:Nat} (h:m < n) : (outs es l x n m).set m (if rowGet es x m > outF es l m then rowGet es x m else outF es l m)=outs es l x n (m + 1):=by
 refine List.ext_getElem? fun c=>?_
 rw [List.getElem?_set]
 split
 ·rename_i hc
  subst hc
  rw [if_pos (by rw [outs_len]; exact h)]
  unfold outs
  rw [List.getElem?_map,List.getElem?_range h]
  simp
 ·rename_i hc
  unfold outs
  rw [List.getElem?_map,List.getElem?_map]
  by_cases hcn : c < n
  ·rw [List.getElem?_range hcn]
   simp only [Option.map_some]
   by_cases h1 : c < m
   ·rw [if_pos h1,if_pos (show c < m + 1 by omega)]
   ·rw [if_neg h1,if_neg (show ¬ c < m + 1 by omega)]
  ·rw [List.getElem?_eq_none (by simp; omega)]
   rfl
theorem outs_end {es:List Event} {l:List (List UInt8)} {x:List UInt8} {n m j:Nat} (hx:l[j]? = some x) (h:∀ c,m≤c→rowGet es x c=0) : outs es (l.take j) x n m=outL es (l.take (j + 1)) n:=by
 unfold outs outL
 refine List.map_congr_left fun c _=>?_
 rw [outF_snoc hx]
 split
 ·rfl
 ·rename_i hc
  rw [h c (by omega),if_neg (by have:=outF_nn (es:=es) (l:=l.take j) (c:=c); omega)]
theorem out_row {es:List Event} (hv:Valid es) {i:Nat} {e:Event} {s:Spot} (he:es[i]? = some e) (hs:(cov es (i + 1)).1[i]? = some s) (h0:0≤s.chain) (h1:s.chain < (cov es (i + 1)).2) : (outL es e.auth (cov es (i + 1)).2).set s.chain.toNat s.seq=rowL es i:=by
 have hr : rowL es i=(List.range (cov es (i + 1)).2).map fun c : Nat=>grt (nearL es e.id) (c:Int):=by unfold rowL; rw [he]
 rw [hr]
 refine List.ext_getElem? fun c=>?_
 rw [List.getElem?_set,List.getElem?_map]
 by_cases hc : c < (cov es (i + 1)).2
 ·rw [List.getElem?_range hc,Option.map_some,row_is hv he hs hc]
  split
  ·rename_i h2
   rw [if_pos (by rw [outL_len]; omega),if_pos (by omega)]
  ·rename_i h2
   rw [if_neg (by omega)]
   unfold outL
   rw [List.getElem?_map,List.getElem?_range hc]
   rfl
 ·rw [if_neg (by omega),List.getElem?_eq_none (by rw [outL_len]; omega),List.getElem?_eq_none (by simp; omega)]
  rfl
theorem setT {l:List Int} {k:Nat} {v:Int} : (l.map (T.i .i64)).set k (T.i .i64 v)=(l.set k v).map (T.i .i64):=by rw [List.map_set]
variable [Bd]
theorem coverOf (es:List Event) (hv:Valid es) (hB:Bd.B≤2147483648) : Con P0 85 [gT es] (.ag [.sr 0,.sr 1]) [.arr 65 2 (.own (.ag [.leaf,.leaf])) ((coverL es).spots.map eSpot),.arr 66 1 (.own (.sl 3 1 .leaf)) ((coverL es).reach.map eIntS)]:=by
 refine Con.intro (fn:=Tryz.f85) [.cell 2 60] (fun i=>if i=1000016 then (999999,[]) else if i=1000014 then (999999,[]) else if i=21 then (12,[]) else if i=11 then (12,[]) else if i=10 then (11,[(false,0),(false,1),(false,2),(false,3),(false,4),(false,5),(false,6),(false,7),(false,8),(false,9),(true,10)]) else (0,[])) mixed (by kernel_rfl) rfl (by decide) rfl (by rfl) (by kernel_rfl) ?_
 simp -implicitDefEqProofs (maxSteps:=2000000) only [push_cast,reduceEqDiff,reduceLT,reduceLeDiff,reduceAdd,reduceMul,reduceSub,Nat.reduceBEq,↓reduceIte,reduceCtorEq,gT]
 have:=Bd.lo
 have hel:=hv.len
 refine ⟨rfl,by omega,fun hlen=>?_⟩
 refine WL.loop (ι:=Nat × List Nat) (D:=(fun i=>if i=1000016 then (999999,[]) else if i=1000014 then (999999,[]) else if i=21 then (12,[]) else if i=11 then (12,[]) else if i=10 then (11,[(false,0),(false,1),(false,2),(false,3),(false,4),(false,5),(false,6),(false,7),(false,8),(false,9),(true,10)]) else (0,[]))) (fun i=>i.1≤es.length∧Lasts (cov es i.1).1 i.2∧i.2.length=(cov es i.1).2) (fun i=>⟨138,[(0,.t (gT es)),(2,.rf 0 0),(3,.rf 4 0),(4,.sr 1),(21,.t (eEventS es)),(22,.t (.i .i64 es.length)),(23,.t (.i .i64 i.1))],[.box (.ag [.ns,.ns]),.arr 3 1 (.own .leaf) (i.2.map fun n : Nat=>T.i .i64 (n:Int)),.arr 65 2 (.own (.ag [.leaf,.leaf])) ((cov es i.1).1.map eSpot),.arr 66 1 (.own (.sl 3 1 .leaf)) (((List.range i.1).map (rowL es)).map eIntS),.box (.ag [.sr 2,.sr 3])]⟩) (fun i=>es.length - i.1) mixed (by kernel_rfl) (0,[]) ⟨by simp,Lasts.nil,rfl⟩ (Keep.wk (ids:=[some 0,some 2,none,none,some 1]) ?_) ?_
 ·simp only [push_cast,reduceEqDiff,reduceLT,reduceLeDiff,reduceAdd,reduceMul,reduceSub,Nat.reduceBEq,↓reduceIte,reduceCtorEq,gT,cov,List.range_zero,List.map_nil]<;>first | rfl | exact ⟨rfl,rfl⟩
 rintro ⟨i,last⟩ ⟨hi,hl,hll⟩
 simp only at hi hl hll
 simp -implicitDefEqProofs (maxSteps:=2000000) only [push_cast,reduceEqDiff,reduceLT,reduceLeDiff,reduceAdd,reduceMul,reduceSub,Nat.reduceBEq,↓reduceIte,reduceCtorEq,gT,eEvent]
 have hhi:=Bd.hi
 refine iteI (fun h=>?_) (fun h=>?_)
 rotate_left
 ·rw [show i=es.length by omega]
  exact Close.of [some 2,some 3] rfl rfl rfl (by simp only [push_cast,reduceEqDiff,reduceLT,reduceLeDiff,reduceAdd,reduceMul,reduceSub,Nat.reduceBEq,↓reduceIte,reduceCtorEq]<;>first | rfl | exact ⟨rfl,rfl⟩) (by simp only [push_cast,reduceEqDiff,reduceLT,reduceLeDiff,reduceAdd,reduceMul,reduceSub,Nat.reduceBEq,↓reduceIte,reduceCtorEq,coverL,sps]<;>first | rfl | exact ⟨rfl,rfl⟩)
 refine ⟨by omega,fun e he=>?_⟩
 rw [Int.toNat_natCast] at he
 have hcl : (cov es i).1.length=i:=cov_len (by omega)
 have hchb:=cov_ch (es:=es) (n:=i) (by omega)
 obtain ⟨sp,hsp⟩ : ∃ s,nextSpot es (cov es i).1 (cov es i).2 e.auth=s:=⟨_,rfl⟩
 obtain ⟨hln,hlc⟩:=hl.next hll he
 rw [hsp] at hln hlc
 have hc1 : (cov es (i + 1)).1[i]? = some sp:=by
  rw [cov_succ he,hsp]
  simp only
  rw [List.getElem?_append_right (by omega),hcl,Nat.sub_self]
  rfl
 obtain ⟨bs,bt,bq⟩:=hln.lo i sp hc1
 intro hll2
 refine W.join (ι:=Unit) (D:=(fun i=>if i=1000016 then (999999,[]) else if i=21 then (12,[]) else if i=11 then (12,[]) else if i=10 then (11,[(false,0),(false,1),(false,2),(false,3),(false,4),(false,5),(false,6),(false,7),(false,8),(false,9),(true,10)]) else (0,[]))) (fun _=>True) (fun _=>⟨138,[(0,.t (gT es)),(2,.rf 0 0),(3,.rf 4 0),(4,.sr 1),(5,.t (.i .i64 i)),(6,.rf 5 0),(7,.rf 6 0),(21,.t (eEventS es)),(22,.t (.i .i64 es.length)),(23,.t (.i .i64 i))],[.box (.ag [.ns,.ns]),.arr 3 1 (.own .leaf) (last.map fun n : Nat=>T.i .i64 (n:Int)),.arr 65 2 (.own (.ag [.leaf,.leaf])) ((cov es i).1.map eSpot),.arr 66 1 (.own (.sl 3 1 .leaf)) (((List.range i).map (rowL es)).map eIntS),.box (.ag [.sr 2,.sr 3]),.box (.t (eEvent e)),.box (.ag [.t (.i .i64 sp.chain),.t (.i .i64 sp.seq)])]⟩) mixed (by kernel_rfl) ?_ (fun _ _=>?_)
 ·simp -implicitDefEqProofs (maxSteps:=2000000) only [push_cast,reduceEqDiff,reduceLT,reduceLeDiff,reduceAdd,reduceMul,reduceSub,Nat.reduceBEq,↓reduceIte,reduceCtorEq,gT,eEvent]
  intro hal
  refine WL.loop (ι:=Nat) (D:=(fun i=>if i=1000016 then (999999,[]) else if i=21 then (12,[]) else if i=11 then (12,[]) else if i=10 then (11,[(false,0),(false,1),(false,2),(false,3),(false,4),(false,5),(false,6),(false,7),(false,8),(false,9),(true,10)]) else (0,[]))) (fun j=>j≤e.auth.length∧nextSpot es (cov es i).1 (cov es i).2 (e.auth.drop j)=sp) (fun j=>⟨138,[(0,.t (gT es)),(2,.rf 0 0),(3,.rf 4 0),(4,.sr 1),(5,.t (.i .i64 i)),(6,.rf 5 0),(7,.rf 6 0),(21,.t (eEventS es)),(22,.t (.i .i64 es.length)),(23,.t (.i .i64 i)),(32,.t (eStringS e.auth)),(33,.t (.i .i64 e.auth.length)),(34,.t (.i .i64 j))],[.box (.ag [.ns,.ns]),.arr 3 1 (.own .leaf) (last.map fun n : Nat=>T.i .i64 (n:Int)),.arr 65 2 (.own (.ag [.leaf,.leaf])) ((cov es i).1.map eSpot),.arr 66 1 (.own (.sl 3 1 .leaf)) (((List.range i).map (rowL es)).map eIntS),.box (.ag [.sr 2,.sr 3]),.box (.t (eEvent e)),.box (.ag [.t (.i .i64 last.length),.t (.i .i64 1)])]⟩) (fun j=>e.auth.length - j) mixed (by kernel_rfl) 0 ⟨by omega,by simpa using hsp⟩ (Keep.wk (ids:=[some 0,some 1,some 2,some 3,some 4,some 5,some 6]) ?_) ?_
  ·simp only [push_cast,reduceEqDiff,reduceLT,reduceLeDiff,reduceAdd,reduceMul,reduceSub,Nat.reduceBEq,↓reduceIte,reduceCtorEq,gT,eEvent]<;>first | rfl | exact ⟨rfl,rfl⟩
  rintro j ⟨hj,hf⟩
  simp -implicitDefEqProofs (maxSteps:=2000000) only [push_cast,reduceEqDiff,reduceLT,reduceLeDiff,reduceAdd,reduceMul,reduceSub,Nat.reduceBEq,↓reduceIte,reduceCtorEq,gT]
  refine iteI (fun h2=>⟨by omega,fun x hx=>?_⟩) (fun h2=>?_)
  ·rw [Int.toNat_natCast] at hx
   obtain ⟨k,a,hki,hka,hid,hp⟩:=pos_ref ((hv.good he).auth x (List.mem_of_getElem? hx))
   obtain ⟨s,hs⟩ : ∃ s,(cov es i).1[k]? = some s:=⟨_,List.getElem?_eq_getElem (by omega)⟩
   have hd:=nextSpot_drop (ch:=(cov es i).2) hx hp hs
   rw [hf] at hd
   refine gLook rfl (fun k' hk'=>?_) (fun hk'=>by rw [hp] at hk'; cases hk')
   rw [hp] at hk'; cases hk'
   simp -implicitDefEqProofs (maxSteps:=2000000) only [push_cast,reduceEqDiff,reduceLT,reduceLeDiff,reduceAdd,reduceMul,reduceSub,Nat.reduceBEq,↓reduceIte,reduceCtorEq,gT,eSpot]
   obtain ⟨b1,b2,b3⟩:=hl.lo k s hs
   have hsq:=cov_seq (n:=i) (by omega) s (List.mem_of_getElem? hs)
   have e1 : (Int.toNat (k:Int))=k:=Int.toNat_natCast _
   simp only [e1]
   refine ⟨by omega,by omega,fun s' hs'=>?_⟩
   rw [hs] at hs'; cases hs'
   refine ⟨by omega,by omega,fun l hlk=>?_⟩
   have hif:=hl.iff hs
   rw [hlk] at hif
   refine gLook rfl (fun k' hk'=>?_) (fun hk'=>by rw [hp] at hk'; cases hk')
   rw [hp] at hk'; cases hk'
   simp -implicitDefEqProofs (maxSteps:=2000000) only [push_cast,reduceEqDiff,reduceLT,reduceLeDiff,reduceAdd,reduceMul,reduceSub,Nat.reduceBEq,↓reduceIte,reduceCtorEq,gT,eSpot]
   refine iteI (fun h3=>?_) (fun h3=>?_)
   ·rw [if_pos (hif.2 (by congr 1; omega))] at hd
    refine ⟨by unfold inI64; omega,(),Keep.wk (ids:=[some 0,some 1,some 2,some 3,some 4,some 5,some 6]) ?_⟩
    rw [hd]
    simp only [push_cast,reduceEqDiff,reduceLT,reduceLeDiff,reduceAdd,reduceMul,reduceSub,Nat.reduceBEq,↓reduceIte,reduceCtorEq,gT,eEvent]<;>first | rfl | exact ⟨rfl,rfl⟩
   ·rw [if_neg (fun h=>h3 (by have:=hif.1 h; cases this; rfl))] at hd
    refine ⟨by unfold inI64; omega,j + 1,⟨by omega,hd.symm⟩,by omega,Keep.wk (ids:=[some 0,some 1,some 2,some 3,some 4,some 5,some 6]) ?_⟩
    simp only [push_cast,reduceEqDiff,reduceLT,reduceLeDiff,reduceAdd,reduceMul,reduceSub,Nat.reduceBEq,↓reduceIte,reduceCtorEq,gT,eSpot]<;>first | rfl | exact ⟨rfl,rfl⟩
  ·rw [List.drop_of_length_le (by omega)] at hf
   refine ⟨(),Keep.wk (ids:=[some 0,some 1,some 2,some 3,some 4,some 5,some 6]) ?_⟩
   simp only [push_cast,reduceEqDiff,reduceLT,reduceLeDiff,reduceAdd,reduceMul,reduceSub,Nat.reduceBEq,↓reduceIte,reduceCtorEq,gT,← hf,nextSpot,hll]<;>first | rfl | exact ⟨rfl,rfl⟩
 simp -implicitDefEqProofs (maxSteps:=2000000) only [push_cast,reduceEqDiff,reduceLT,reduceLeDiff,reduceAdd,reduceMul,reduceSub,Nat.reduceBEq,↓reduceIte,reduceCtorEq,gT,eEvent]
 have hnl : nextLast last sp i=(if sp.chain=last.length then last ++ [i] else last).set sp.chain.toNat i:=rfl
 have hl2 : (if sp.chain=last.length then last ++ [i] else last).length < 1000:=by split<;>(try simp)<;>omega
 generalize hg : (if sp.chain=last.length then last ++ [i] else last)=last2 at *
 refine W.join (ι:=Unit) (D:=(fun i=>if i=21 then (12,[]) else if i=11 then (12,[]) else if i=10 then (11,[(false,0),(false,1),(false,2),(false,3),(false,4),(false,5),(false,6),(false,7),(false,8),(false,9),(true,10)]) else (0,[]))) (fun _=>True) (fun _=>⟨138,[(0,.t (gT es)),(2,.rf 0 0),(3,.rf 4 0),(4,.sr 1),(5,.t (.i .i64 i)),(6,.rf 5 0),(7,.rf 6 0),(21,.t (eEventS es)),(22,.t (.i .i64 es.length)),(23,.t (.i .i64 i))],[.box (.ag [.ns,.ns]),.arr 3 1 (.own .leaf) (last2.map fun n : Nat=>T.i .i64 (n:Int)),.arr 65 2 (.own (.ag [.leaf,.leaf])) ((cov es i).1.map eSpot),.arr 66 1 (.own (.sl 3 1 .leaf)) (((List.range i).map (rowL es)).map eIntS),.box (.ag [.sr 2,.sr 3]),.box (.t (eEvent e)),.box (.ag [.t (.i .i64 sp.chain),.t (.i .i64 sp.seq)])]⟩) mixed (by kernel_rfl) ?_ (fun _ _=>?_)
 ·simp -implicitDefEqProofs (maxSteps:=2000000) only [push_cast,reduceEqDiff,reduceLT,reduceLeDiff,reduceAdd,reduceMul,reduceSub,Nat.reduceBEq,↓reduceIte,reduceCtorEq,gT,eEvent,snocI]
  intro _
  refine iteI (fun h4=>?_) (fun h4=>?_)
  ·rw [if_pos h4] at hg
   refine ⟨rfl,by omega,rfl,by omega,by omega,(),Keep.wk (ids:=[some 0,some 8,some 2,some 3,some 4,some 5,some 6]) ?_⟩
   rw [← hg]
   simp only [push_cast,reduceEqDiff,reduceLT,reduceLeDiff,reduceAdd,reduceMul,reduceSub,Nat.reduceBEq,↓reduceIte,reduceCtorEq,gT,eEvent]<;>first | rfl | exact ⟨rfl,rfl⟩
  ·rw [if_neg h4] at hg
   refine ⟨(),Keep.wk (ids:=[some 0,some 1,some 2,some 3,some 4,some 5,some 6]) ?_⟩
   rw [← hg]
   simp only [push_cast,reduceEqDiff,reduceLT,reduceLeDiff,reduceAdd,reduceMul,reduceSub,Nat.reduceBEq,↓reduceIte,reduceCtorEq,gT,eEvent]<;>first | rfl | exact ⟨rfl,rfl⟩
 simp -implicitDefEqProofs (maxSteps:=2000000) only [push_cast,reduceEqDiff,reduceLT,reduceLeDiff,reduceAdd,reduceMul,reduceSub,Nat.reduceBEq,↓reduceIte,reduceCtorEq,gT,eEvent,setI]
 have hnll : last2.length=(cov es (i + 1)).2:=by rw [← hlc,hnl,List.length_set]
 rw [hnl,List.length_set] at bt
 refine ⟨by omega,by omega,fun _ _ _=>⟨by omega,by omega,by omega,fun hal=>?_⟩⟩
 rw [Int.toNat_natCast,hnll,← outL_nil (es:=es)]
 refine WL.loop (ι:=Nat) (D:=(fun i=>if i=21 then (12,[]) else if i=11 then (12,[]) else if i=10 then (11,[(false,0),(false,1),(false,2),(false,3),(false,4),(false,5),(false,6),(false,7),(false,8),(false,9),(true,10)]) else (0,[]))) (fun j=>j≤e.auth.length) (fun j=>⟨138,[(0,.t (gT es)),(2,.rf 0 0),(3,.rf 4 0),(4,.sr 1),(5,.t (.i .i64 i)),(6,.rf 5 0),(7,.rf 6 0),(11,.sr 7),(21,.t (eEventS es)),(22,.t (.i .i64 es.length)),(23,.t (.i .i64 i)),(85,.t (eStringS e.auth)),(86,.t (.i .i64 e.auth.length)),(87,.t (.i .i64 j))],[.box (.ag [.ns,.ns]),.arr 3 1 (.own .leaf) ((last2.set sp.chain.toNat i).map fun n : Nat=>T.i .i64 (n:Int)),.arr 65 2 (.own (.ag [.leaf,.leaf])) ((cov es i).1.map eSpot),.arr 66 1 (.own (.sl 3 1 .leaf)) (((List.range i).map (rowL es)).map eIntS),.box (.ag [.sr 2,.sr 3]),.box (.t (eEvent e)),.box (.ag [.t (.i .i64 sp.chain),.t (.i .i64 sp.seq)]),.arr 3 1 (.own .leaf) ((outL es (e.auth.take j) (cov es (i + 1)).2).map (T.i .i64))]⟩) (fun j=>e.auth.length - j) mixed (by kernel_rfl) 0 (by omega) (Keep.wk (ids:=[some 0,some 1,some 2,some 3,some 4,some 5,some 6,some 7]) ?_) ?_
 ·simp only [push_cast,reduceEqDiff,reduceLT,reduceLeDiff,reduceAdd,reduceMul,reduceSub,Nat.reduceBEq,↓reduceIte,reduceCtorEq,gT,eEvent,List.take_zero]<;>first | rfl | exact ⟨rfl,rfl⟩
 intro j hj
 simp -implicitDefEqProofs (maxSteps:=2000000) only [push_cast,reduceEqDiff,reduceLT,reduceLeDiff,reduceAdd,reduceMul,reduceSub,Nat.reduceBEq,↓reduceIte,reduceCtorEq,gT,eEvent]
 refine iteI (fun h2=>⟨by omega,fun x hx=>?_⟩) (fun h2=>?_)
 ·rw [Int.toNat_natCast] at hx
  obtain ⟨k,a,hki,hka,hid,hp⟩:=pos_ref ((hv.good he).auth x (List.mem_of_getElem? hx))
  refine gLook rfl (fun k' hk'=>?_) (fun hk'=>by rw [hp] at hk'; cases hk')
  rw [hp] at hk'; cases hk'
  simp -implicitDefEqProofs (maxSteps:=2000000) only [push_cast,reduceEqDiff,reduceLT,reduceLeDiff,reduceAdd,reduceMul,reduceSub,Nat.reduceBEq,↓reduceIte,reduceCtorEq,gT,eEvent]
  have e1 : (Int.toNat (k:Int))=k:=Int.toNat_natCast _
  have hrl : (List.range i).length=i:=List.length_range
  simp only [e1,hrl]
  refine ⟨by omega,by omega,fun row hrow hrB=>?_⟩
  rw [List.getElem?_map,List.getElem?_range hki] at hrow
  have hrow : rowL es k=row:=by simpa using hrow
  have hrn : row.length=(cov es (k + 1)).2:=by rw [← hrow]; exact row_len hka
  have hmono:=cov_mono (es:=es) (m:=i + 1) (n:=k + 1) (by omega) (by omega)
  have hget : ∀ c v,row[c]? = some v→rowGet es x c=v:=fun c v hv=>by
   unfold rowGet
   rw [hp]
   dsimp only
   rw [hrow,hv]
   rfl
  have hnone : ∀ c,row.length≤c→rowGet es x c=0:=fun c hc=>by
   unfold rowGet
   rw [hp]
   dsimp only
   rw [hrow,List.getElem?_eq_none hc]
   rfl
  refine WL.loop (ι:=Nat) (D:=(fun i=>if i=21 then (12,[]) else if i=11 then (12,[]) else if i=10 then (11,[(false,0),(false,1),(false,2),(false,3),(false,4),(false,5),(false,6),(false,7),(false,8),(false,9),(true,10)]) else (0,[]))) (fun m=>m≤row.length) (fun m=>⟨138,[(0,.t (gT es)),(2,.rf 0 0),(3,.rf 4 0),(4,.sr 1),(5,.t (.i .i64 i)),(6,.rf 5 0),(7,.rf 6 0),(11,.sr 7),(21,.t (eEventS es)),(22,.t (.i .i64 es.length)),(23,.t (.i .i64 i)),(85,.t (eStringS e.auth)),(86,.t (.i .i64 e.auth.length)),(87,.t (.i .i64 j)),(100,.bw (eIntS row)),(101,.t (.i .i64 row.length)),(102,.t (.i .i64 m))],[.box (.ag [.ns,.ns]),.arr 3 1 (.own .leaf) ((last2.set sp.chain.toNat i).map fun n : Nat=>T.i .i64 (n:Int)),.arr 65 2 (.own (.ag [.leaf,.leaf])) ((cov es i).1.map eSpot),.arr 66 1 (.own (.sl 3 1 .leaf)) (((List.range i).map (rowL es)).map eIntS),.box (.ag [.sr 2,.sr 3]),.box (.t (eEvent e)),.box (.ag [.t (.i .i64 sp.chain),.t (.i .i64 sp.seq)]),.arr 3 1 (.own .leaf) ((outs es (e.auth.take j) x (cov es (i + 1)).2 m).map (T.i .i64))]⟩) (fun m=>row.length - m) mixed (by kernel_rfl) 0 (by omega) (Keep.wk (ids:=[some 0,some 1,some 2,some 3,some 4,some 5,some 6,some 7]) ?_) ?_
  ·simp only [push_cast,reduceEqDiff,reduceLT,reduceLeDiff,reduceAdd,reduceMul,reduceSub,Nat.reduceBEq,↓reduceIte,reduceCtorEq,gT,eEvent,outs_zero]<;>first | rfl | exact ⟨rfl,rfl⟩
  intro m hm
  simp -implicitDefEqProofs (maxSteps:=2000000) only [push_cast,reduceEqDiff,reduceLT,reduceLeDiff,reduceAdd,reduceMul,reduceSub,Nat.reduceBEq,↓reduceIte,reduceCtorEq,gT,eEvent]
  refine iteI (fun h3=>⟨by omega,fun v hv=>?_⟩) (fun h3=>?_)
  ·have e2 : (Int.toNat (m:Int))=m:=Int.toNat_natCast _
   rw [e2] at hv
   have ho:=outs_get (es:=es) (l:=e.auth.take j) (x:=x) (n:=(cov es (i + 1)).2) (m:=m) (by omega)
   have hset:=outs_set (es:=es) (l:=e.auth.take j) (x:=x) (n:=(cov es (i + 1)).2) (m:=m) (by omega)
   rw [hget m v hv] at hset
   have hol:=outs_len (es:=es) (l:=e.auth.take j) (x:=x) (n:=(cov es (i + 1)).2) (m:=m)
   simp only [e2,hol,setT]
   refine ⟨by omega,by omega,fun o ho'=>?_⟩
   rw [ho] at ho'
   cases ho'
   refine ⟨by omega,by omega,fun _ _=>⟨by unfold inI64; omega,m + 1,by omega,by omega,Keep.wk (ids:=[some 0,some 1,some 2,some 3,some 4,some 5,some 6,some 7]) ?_⟩⟩
   rw [hset]
   simp only [push_cast,reduceEqDiff,reduceLT,reduceLeDiff,reduceAdd,reduceMul,reduceSub,Nat.reduceBEq,↓reduceIte,reduceCtorEq,gT,eEvent]<;>first | rfl | exact ⟨rfl,rfl⟩
  ·rw [outs_end hx (fun c hc=>hnone c (by omega))]
   refine ⟨by unfold inI64; omega,j + 1,by omega,by omega,Keep.wk (ids:=[some 0,some 1,some 2,some 3,some 4,some 5,some 6,some 7]) ?_⟩
   simp only [push_cast,reduceEqDiff,reduceLT,reduceLeDiff,reduceAdd,reduceMul,reduceSub,Nat.reduceBEq,↓reduceIte,reduceCtorEq,gT,eEvent]<;>first | rfl | exact ⟨rfl,rfl⟩
 ·rw [List.take_of_length_le (by omega)]
  simp -implicitDefEqProofs (maxSteps:=2000000) only [push_cast,reduceEqDiff,reduceLT,reduceLeDiff,reduceAdd,reduceMul,reduceSub,Nat.reduceBEq,↓reduceIte,reduceCtorEq,gT,eEvent,setT,eSpot]
  have hrl : (List.range i).length=i:=List.length_range
  simp only [outL_len,hrl]
  have hsr : (List.range (i + 1)).map (rowL es)=(List.range i).map (rowL es) ++ [rowL es i]:=by rw [List.range_succ,List.map_append]; rfl
  have hcs : (cov es (i + 1)).1=(cov es i).1 ++ [sp]:=by rw [cov_succ he,hsp]
  have hch1:=cov_ch (es:=es) (n:=i + 1) (by omega)
  refine ⟨by omega,by omega,fun _ _=>⟨rfl,by omega,rfl,by omega,by omega,rfl,by omega,rfl,by omega,by omega,by unfold inI64; omega,(i + 1,last2.set sp.chain.toNat i),⟨by simp only; omega,by rw [← hnl]; exact hln,by rw [← hnl]; exact hlc⟩,by simp only; omega,Keep.wk (ids:=[some 0,some 1,some 9,some 11,some 4]) ?_⟩⟩
  rw [hsr,hcs,← out_row hv he hc1 bs (by omega)]
  simp only [push_cast,reduceEqDiff,reduceLT,reduceLeDiff,reduceAdd,reduceMul,reduceSub,Nat.reduceBEq,↓reduceIte,reduceCtorEq,gT,eEvent,List.map_append,eSpot]<;>first | rfl | exact ⟨rfl,rfl⟩
end Go.Proofs.YtmgdkkhnjkepiaaGreat.BX
namespace Go.Proofs.YtmgdkkhnjkepiaaGreat.BX
open Nat (reduceEqDiff reduceLT reduceLeDiff reduceAdd reduceMul reduceSub)
set_option linter.unusedSectionVars false
set_option linter.unusedSimpArgs false
set_option linter.unusedVariables false
open Go Go.RowKit
set_option maxRecDepth 20000
set_option maxHeartbeats 400000
variable [Bd]
theorem implMakeCover (es:List Event) (hB:Bd.B≤2147483648) : Con P0 32 [eRoom ⟨es⟩] (.tp [.ag [.sr 0,.sr 1],.t (.b (roomB es))]) [.arr 65 2 (.own (.ag [.leaf,.leaf])) ((covC es).spots.map eSpot),.arr 66 1 (.own (.sl 3 1 .leaf)) ((covC es).reach.map eIntS)]:=by
 refine Con.intro (fn:=Tryz.f32) [.cell 2 60,.tmp 3] (fun _=>(0,[])) mixed (by kernel_rfl) rfl (by decide) rfl (by rfl) (by kernel_rfl) ?_
 simp -implicitDefEqProofs (maxSteps:=2000000) only [push_cast,reduceEqDiff,reduceLT,reduceLeDiff,reduceAdd,reduceMul,reduceSub,Nat.reduceBEq,↓reduceIte,reduceCtorEq,eRoom]
 refine Callx.closed (graphOf es hB) rfl rfl (.inl rfl) ?_
 cases hr : roomB es with
 | false =>
   have hc : covC es=⟨[],[]⟩:=if_neg (by rw [hr]; simp)
   rw [hc]
   simp -implicitDefEqProofs (maxSteps:=2000000) only [push_cast,reduceEqDiff,reduceLT,reduceLeDiff,reduceAdd,reduceMul,reduceSub,Nat.reduceBEq,↓reduceIte,reduceCtorEq,gT]
   exact Close.of [none,none] rfl rfl rfl (by simp only [push_cast,reduceEqDiff,reduceLT,reduceLeDiff,reduceAdd,reduceMul,reduceSub,Nat.reduceBEq,↓reduceIte,reduceCtorEq]<;>first | rfl | exact ⟨rfl,rfl⟩) (by simp only [push_cast,reduceEqDiff,reduceLT,reduceLeDiff,reduceAdd,reduceMul,reduceSub,Nat.reduceBEq,↓reduceIte,reduceCtorEq]<;>first | rfl | exact ⟨rfl,rfl⟩)
 | true =>
   have hc : covC es=coverL es:=if_pos hr
   have hv:=room_valid hr
   rw [hc]
   simp -implicitDefEqProofs (maxSteps:=2000000) only [push_cast,reduceEqDiff,reduceLT,reduceLeDiff,reduceAdd,reduceMul,reduceSub,Nat.reduceBEq,↓reduceIte,reduceCtorEq,gT]
   refine Callx.closed (coverOf es hv hB) rfl rfl (.inl rfl) ?_
   simp -implicitDefEqProofs (maxSteps:=2000000) only [push_cast,reduceEqDiff,reduceLT,reduceLeDiff,reduceAdd,reduceMul,reduceSub,Nat.reduceBEq,↓reduceIte,reduceCtorEq]
   exact Close.of [some 2,some 3] rfl rfl rfl (by simp only [push_cast,reduceEqDiff,reduceLT,reduceLeDiff,reduceAdd,reduceMul,reduceSub,Nat.reduceBEq,↓reduceIte,reduceCtorEq]<;>first | rfl | exact ⟨rfl,rfl⟩) (by simp only [push_cast,reduceEqDiff,reduceLT,reduceLeDiff,reduceAdd,reduceMul,reduceSub,Nat.reduceBEq,↓reduceIte,reduceCtorEq]<;>first | rfl | exact ⟨rfl,rfl⟩)
end Go.Proofs.YtmgdkkhnjkepiaaGreat.BX
namespace Go.Proofs.YtmgdkkhnjkepiaaGreat.BX
open Nat (reduceEqDiff reduceLT reduceLeDiff reduceAdd reduceMul reduceSub)
set_option linter.unusedSectionVars false
set_option linter.unusedSimpArgs false
set_option linter.unusedVariables false
open Go Go.RowKit
set_option maxRecDepth 20000
set_option maxHeartbeats 400000
theorem runR_ok {b:List UInt8} {start:Nat} (h0:0 < start) : ∀ {f i:Nat} {r:RS},RSok b i r → ∃ j,RSok b j (runR b start f i r)∧i≤j∧j≤i + f∧(0 < f→i < start→i < j)
 | 0, i, r, h => ⟨i,h,Nat.le_refl _,Nat.le_refl _,fun h=>absurd h (by omega)⟩
 | f + 1, i, r, h => by
   have hp : nextP b start i r≤b.length:=by
    unfold nextP
    split
    ·exact h.p
    ·exact contE_p (np_le h.p)
   by_cases hc : i < start ∨ r.p < b.length
   ·obtain ⟨j,h1,h2,h3,_⟩:=runR_ok h0 (f:=f) (h.next hp h0)
    refine ⟨j,?_,by omega,by omega,fun _ _=>by omega⟩
    rw [show runR b start (f + 1) i r=runR b start f (i + 1) (stepR b start i r) from if_pos hc]
    exact h1
   ·refine ⟨i,?_,Nat.le_refl _,by omega,fun _ h=>absurd (.inl h) hc⟩
    rw [show runR b start (f + 1) i r=r from if_neg hc]
    exact h
theorem roomR_ok {b:List UInt8} {p:Nat} (hp:p≤b.length) : ∃ j,RSok b j (roomR b p)∧0 < j∧j≤15:=by
 have h1:=startR_le (k:=nx b p)
 have h2:=mostR_le (k:=nx b p) (l:=b.length - np b p)
 obtain ⟨j,k1,k2,k3,k4⟩:=runR_ok (start:=startR (nx b p)) (by omega) (f:=mostR (nx b p) (b.length - np b p)) (rs0_ok (np_le hp))
 exact ⟨j,k1,k4 (by omega) (by omega),by omega⟩
theorem room_is {es:List Event} (h:Valid es) : roomB es=true:=@decide_eq_true _ (Classical.propDecidable _) h
variable [Bd]
noncomputable abbrev anyE (c:List UInt8) : List Event:=(roomR (c.take 1000) 0).es
theorem anyE_ok {c:List UInt8} : Valid (anyE c)∧0 < (anyE c).length∧(anyE c).length≤15:=by
 obtain ⟨j,h1,h2,h3⟩:=roomR_ok (b:=c.take 1000) (p:=0) (Nat.zero_le _)
 have:=h1.le
 exact ⟨h1.val,h1.pos h2,by show (roomR (c.take 1000) 0).es.length≤15; omega⟩
theorem anyRoomT (c:List UInt8) (hB:Bd.B≤2147483648) : Con P0 31 [.sl (c.map eU8)] (.t (eRoom ⟨anyE c⟩)) []:=Con.seal (ids:=[0]) (anyRoom c hB) (by simp only [push_cast,reduceEqDiff,reduceLT,reduceLeDiff,reduceAdd,reduceMul,reduceSub,Nat.reduceBEq,↓reduceIte,reduceCtorEq]<;>rfl) rfl
theorem makeCoverT (es:List Event) (hv:Valid es) (hB:Bd.B≤2147483648) : Con P0 32 [eRoom ⟨es⟩] (.t (.tp [eCover (coverL es),.b true])) []:=by
 have h:=implMakeCover es hB
 rw [room_is hv,show covC es=coverL es from if_pos (room_is hv)] at h
 exact Con.seal (ids:=[0,1]) h (by simp only [push_cast,reduceEqDiff,reduceLT,reduceLeDiff,reduceAdd,reduceMul,reduceSub,Nat.reduceBEq,↓reduceIte,reduceCtorEq]<;>rfl) rfl
end Go.Proofs.YtmgdkkhnjkepiaaGreat.BX
namespace Go.Proofs.YtmgdkkhnjkepiaaGreat.BX
open Nat (reduceEqDiff reduceLT reduceLeDiff reduceAdd reduceMul reduceSub)
set_option linter.unusedSectionVars false
set_option linter.unusedSimpArgs false
set_option linter.unusedVariables false
open Go Go.RowKit
set_option maxRecDepth 20000
set_option maxHeartbeats 400000
theorem setMapB {xs:List Bool} {i:Nat} {v:Bool} : (List.map T.b xs).set i (T.b v)=List.map T.b (xs.set i v):=List.map_set.symm
theorem had_tf {had:List Bool} {k:Nat} (h:k < had.length) : had[k]? = some true ∨ had[k]? = some false:=by
 rw [List.getElem?_eq_getElem h]
 cases had[k]<;>simp
variable [Bd]
abbrev iT (n:Nat) : T:=.i .i64 (n:Int)
abbrev hadO (had:List Bool) : Ob:=.arr 4 1 (.own .leaf) (had.map T.b)
abbrev workO (work:List Nat) : Ob:=.arr 3 1 (.own .leaf) (work.map iT)
theorem visitNo (had:List Bool) (work:List Nat) (k:Nat) (hk:had[k]? = some true) : ConM P0 173 [.t (.i .i64 k),.rf 0 0,.rf 1 0] [.box (.sr 2),.box (.sr 3),hadO had,workO work] (.tp []) [.box (.sr 2),.box (.sr 3),hadO had,workO work]:=by
 refine ConM.intro (fn:=Tryz.f173) [] (fun _=>(0,[])) mixed (by kernel_rfl) rfl (by decide) rfl (by rfl) (by kernel_rfl) ?_
 simp -implicitDefEqProofs (maxSteps:=2000000) only [push_cast,reduceEqDiff,reduceLT,reduceLeDiff,reduceAdd,reduceMul,reduceSub,Nat.reduceBEq,↓reduceIte,reduceCtorEq]
 have hkl:=(List.getElem?_eq_some_iff.1 hk).1
 have e1 : (Int.toNat (k:Int))=k:=Int.toNat_natCast _
 refine ⟨by omega,by omega,fun b hb=>?_⟩
 rw [e1,hk] at hb
 cases hb
 exact Close.of [some 0,some 1,some 2,some 3] rfl rfl rfl rfl (by simp only [push_cast,reduceEqDiff,reduceLT,reduceLeDiff,reduceAdd,reduceMul,reduceSub,Nat.reduceBEq,↓reduceIte,reduceCtorEq]<;>rfl)
theorem visitYes (had:List Bool) (work:List Nat) (k:Nat) (hk:had[k]? = some false) (hB:Bd.B≤2147483648) (hl:work.length + 1 < Bd.B) : ConM P0 173 [.t (.i .i64 k),.rf 0 0,.rf 1 0] [.box (.sr 2),.box (.sr 3),hadO had,workO work] (.tp []) [.box (.sr 2),.box (.sr 4),hadO (had.set k true),.dead,workO (work ++ [k])]:=by
 refine ConM.intro (fn:=Tryz.f173) [] (fun _=>(0,[])) mixed (by kernel_rfl) rfl (by decide) rfl (by rfl) (by kernel_rfl) ?_
 simp -implicitDefEqProofs (maxSteps:=2000000) only [push_cast,reduceEqDiff,reduceLT,reduceLeDiff,reduceAdd,reduceMul,reduceSub,Nat.reduceBEq,↓reduceIte,reduceCtorEq,setMapB]
 have:=Bd.lo
 have hkl:=(List.getElem?_eq_some_iff.1 hk).1
 have e1 : (Int.toNat (k:Int))=k:=Int.toNat_natCast _
 refine ⟨by omega,by omega,fun b hb=>?_⟩
 rw [e1,hk] at hb
 cases hb
 rw [e1]
 refine ⟨by omega,by omega,fun _ _=>⟨rfl,by omega,rfl,by omega,hl,?_⟩⟩
 exact Close.of [some 0,some 1,some 2,some 3,some 5] rfl rfl rfl rfl (by simp only [push_cast,reduceEqDiff,reduceLT,reduceLeDiff,reduceAdd,reduceMul,reduceSub,Nat.reduceBEq,↓reduceIte,reduceCtorEq,List.map_append]<;>rfl)
theorem graphUnder (es:List Event) (ids:List (List UInt8)) (self:Bool) (hv:Valid es) (hids:∀ id∈ids,There es id) (hB:Bd.B≤2147483648) : Con P0 99 [gT es,eStringS ids,.b self] (.sr 0) [hadO (hadA es (if self=true then ids else ids.flatMap (authOf es)))]:=by
 refine Con.intro (fn:=Tryz.f99) [.tmp 6] (fun _=>(0,[])) mixed (by kernel_rfl) rfl (by decide) rfl (by rfl) (by kernel_rfl) ?_
 simp -implicitDefEqProofs (maxSteps:=2000000) only [push_cast,reduceEqDiff,reduceLT,reduceLeDiff,reduceAdd,reduceMul,reduceSub,Nat.reduceBEq,↓reduceIte,reduceCtorEq,gT]
 have:=Bd.lo
 have hhi:=Bd.hi
 have hel:=hv.len
 intro hlen
 refine ⟨by omega,by omega,by omega,rfl,by omega,fun _=>?_⟩
 rw [Int.toNat_natCast]
 obtain ⟨rsf,hrsf⟩ : ∃ rsf : List (List UInt8)→List (List UInt8),rsf=fun l=>if self=true then l else l.flatMap (authOf es):=⟨_,rfl⟩
 have hrs : ∀ x∈rsf ids,There es x:=fun x hx=>by
  rw [hrsf] at hx
  dsimp only at hx
  split at hx
  ·exact hids x hx
  ·obtain ⟨y,_,hx⟩:=List.mem_flatMap.1 hx
   exact hv.there hx
 have hgoal : (if self=true then ids else ids.flatMap (authOf es))=rsf ids:=by rw [hrsf]
 rw [hgoal]
 obtain ⟨rs,hrse⟩ : ∃ rs,rsf ids=rs:=⟨_,rfl⟩
 rw [hrse] at hrs ⊢
 refine WL.loop (ι:=Nat × List Bool × List Nat) (D:=(fun _=>(0,[]))) (fun i=>i.1≤ids.length∧Had es rs i.2.1 i.2.2 (rsf (ids.take i.1)) none∧unm i.2.1 + i.2.2.length≤es.length) (fun i=>⟨102,[(0,.t (gT es)),(2,.t (.b self)),(7,.rf 1 0),(8,.rf 3 0),(9,.fn 173 [.rf 1 0,.rf 3 0]),(26,.t (eStringS ids)),(27,.t (.i .i64 ids.length)),(28,.t (.i .i64 i.1))],[hadO i.2.1,.box (.sr 0),workO i.2.2,.box (.sr 2)]⟩) (fun i=>ids.length - i.1) mixed (by kernel_rfl) (0,List.replicate es.length false,[]) ⟨by simp,⟨by simp,fun k a hk h=>?_,by simp,fun x hx=>?_,fun k a hk h=>?_⟩,by simp [unm]⟩ (Keep.wk (ids:=[some 0,some 1,some 2,some 3]) ?_) ?_
 ·simp only [List.getElem?_replicate] at h
  split at h<;>cases h
 ·simp only [hrsf,List.take_zero] at hx
  split at hx<;>simp at hx
 ·simp only [List.getElem?_replicate] at h
  split at h<;>cases h
 ·simp only [push_cast,reduceEqDiff,reduceLT,reduceLeDiff,reduceAdd,reduceMul,reduceSub,Nat.reduceBEq,↓reduceIte,reduceCtorEq,gT,List.map_replicate]<;>rfl
 ·rintro ⟨i,had,work⟩ ⟨hi,hh,hw⟩
  simp only at hi hh hw
  simp -implicitDefEqProofs (maxSteps:=2000000) only [push_cast,reduceEqDiff,reduceLT,reduceLeDiff,reduceAdd,reduceMul,reduceSub,Nat.reduceBEq,↓reduceIte,reduceCtorEq,gT]
  refine iteI (fun h=>?_) (fun h=>?_)
  ·refine ⟨by omega,fun id hid=>?_⟩
   rw [Int.toNat_natCast] at hid
   obtain ⟨k,e,hke,heid,hp⟩:=there_at (hids id (List.mem_of_getElem? hid))
   have hau:=authOf_at hp hke
   have hkl:=(List.getElem?_eq_some_iff.1 hke).1
   refine gLook rfl (fun k' hk'=>?_) (fun hk'=>by rw [hp] at hk'; cases hk')
   rw [hp] at hk'; cases hk'
   simp -implicitDefEqProofs (maxSteps:=2000000) only [push_cast,reduceEqDiff,reduceLT,reduceLeDiff,reduceAdd,reduceMul,reduceSub,Nat.reduceBEq,↓reduceIte,reduceCtorEq,gT]
   refine iteI (fun h1=>?_) (fun h1=>?_)
   ·have hrt : rsf (ids.take (i + 1))=rsf (ids.take i) ++ [id]:=by
     rw [hrsf]; simp only [h1,if_true]; rw [List.take_add_one,hid]; rfl
    have hanc : Anc es rs id:=.root (by rw [← hrse,hrsf]; simp only [h1,if_true]; exact List.mem_of_getElem? hid)
    rcases had_tf (had:=had) (k:=k) (by rw [hh.len]; exact hkl) with hkh | hkh
    ·refine Callx.hand [1,3,0,2] (visitNo had work k hkh) (by decide) (by simp only [push_cast,reduceEqDiff,reduceLT,reduceLeDiff,reduceAdd,reduceMul,reduceSub,Nat.reduceBEq,↓reduceIte,reduceCtorEq]) rfl rfl (by simp only [push_cast,reduceEqDiff,reduceLT,reduceLeDiff,reduceAdd,reduceMul,reduceSub,Nat.reduceBEq,↓reduceIte,reduceCtorEq]<;>rfl) rfl (.inr ⟨rfl,by simp only [push_cast,reduceEqDiff,reduceLT,reduceLeDiff,reduceAdd,reduceMul,reduceSub,Nat.reduceBEq,↓reduceIte,reduceCtorEq]<;>rfl⟩) ?_
     simp -implicitDefEqProofs (maxSteps:=2000000) only [push_cast,reduceEqDiff,reduceLT,reduceLeDiff,reduceAdd,reduceMul,reduceSub,Nat.reduceBEq,↓reduceIte,reduceCtorEq,gT]
     refine ⟨by unfold inI64; omega,(i + 1,had,work),⟨by simp only; omega,?_,hw⟩,by simp only; omega,Keep.wk (ids:=[some 0,some 1,some 2,some 3]) ?_⟩
     ·simp only
      rw [hrt]
      exact hh.old hp hkh
     ·simp only [push_cast,reduceEqDiff,reduceLT,reduceLeDiff,reduceAdd,reduceMul,reduceSub,Nat.reduceBEq,↓reduceIte,reduceCtorEq,gT]<;>rfl
    ·have hus:=unm_set hkh
     refine Callx.hand [1,3,0,2] (visitYes had work k hkh hB (by omega)) (by decide) (by simp only [push_cast,reduceEqDiff,reduceLT,reduceLeDiff,reduceAdd,reduceMul,reduceSub,Nat.reduceBEq,↓reduceIte,reduceCtorEq]) rfl rfl (by simp only [push_cast,reduceEqDiff,reduceLT,reduceLeDiff,reduceAdd,reduceMul,reduceSub,Nat.reduceBEq,↓reduceIte,reduceCtorEq]<;>rfl) rfl (.inr ⟨rfl,by simp only [push_cast,reduceEqDiff,reduceLT,reduceLeDiff,reduceAdd,reduceMul,reduceSub,Nat.reduceBEq,↓reduceIte,reduceCtorEq]<;>rfl⟩) ?_
     simp -implicitDefEqProofs (maxSteps:=2000000) only [push_cast,reduceEqDiff,reduceLT,reduceLeDiff,reduceAdd,reduceMul,reduceSub,Nat.reduceBEq,↓reduceIte,reduceCtorEq,gT]
     refine ⟨by unfold inI64; omega,(i + 1,had.set k true,work ++ [k]),⟨by simp only; omega,?_,by simp only [List.length_append,List.length_singleton]; omega⟩,by simp only; omega,Keep.wk (ids:=[some 0,some 1,some 4,some 3]) ?_⟩
     ·simp only
      rw [hrt]
      exact hh.new hp hke heid hkh hanc
     ·simp only [push_cast,reduceEqDiff,reduceLT,reduceLeDiff,reduceAdd,reduceMul,reduceSub,Nat.reduceBEq,↓reduceIte,reduceCtorEq,gT]<;>rfl
   ·refine ⟨by omega,fun e' he'=>?_⟩
    rw [Int.toNat_natCast,hke] at he'
    cases he'
    simp -implicitDefEqProofs (maxSteps:=2000000) only [push_cast,reduceEqDiff,reduceLT,reduceLeDiff,reduceAdd,reduceMul,reduceSub,Nat.reduceBEq,↓reduceIte,reduceCtorEq,gT,eEvent]
    have hrt : rsf (ids.take (i + 1))=rsf (ids.take i) ++ e.auth:=by
     rw [hrsf]; simp only [h1,if_false]; rw [List.take_add_one,hid,List.flatMap_append,← hau]; simp
    have hanc : ∀ x∈e.auth,Anc es rs x:=fun x hx=>.root (by
     rw [← hrse,hrsf]; simp only [h1,if_false]; exact List.mem_flatMap.2 ⟨id,List.mem_of_getElem? hid,hau ▸ hx⟩)
    intro hal
    refine WL.loop (ι:=Nat × List Bool × List Nat) (D:=(fun _=>(0,[]))) (fun j=>j.1≤e.auth.length∧Had es rs j.2.1 j.2.2 (rsf (ids.take i) ++ e.auth.take j.1) none∧unm j.2.1 + j.2.2.length≤es.length) (fun j=>⟨102,[(0,.t (gT es)),(2,.t (.b self)),(7,.rf 1 0),(8,.rf 3 0),(9,.fn 173 [.rf 1 0,.rf 3 0]),(26,.t (eStringS ids)),(27,.t (.i .i64 ids.length)),(28,.t (.i .i64 i)),(49,.t (eStringS e.auth)),(50,.t (.i .i64 e.auth.length)),(51,.t (.i .i64 j.1))],[hadO j.2.1,.box (.sr 0),workO j.2.2,.box (.sr 2)]⟩) (fun j=>e.auth.length - j.1) mixed (by kernel_rfl) (0,had,work) ⟨by simp,by simpa using hh,hw⟩ (Keep.wk (ids:=[some 0,some 1,some 2,some 3]) ?_) ?_
    ·simp only [push_cast,reduceEqDiff,reduceLT,reduceLeDiff,reduceAdd,reduceMul,reduceSub,Nat.reduceBEq,↓reduceIte,reduceCtorEq,gT]<;>rfl
    ·rintro ⟨j,had,work⟩ ⟨hj,hh,hw⟩
     simp only at hj hh hw
     simp -implicitDefEqProofs (maxSteps:=2000000) only [push_cast,reduceEqDiff,reduceLT,reduceLeDiff,reduceAdd,reduceMul,reduceSub,Nat.reduceBEq,↓reduceIte,reduceCtorEq,gT]
     refine iteI (fun h2=>⟨by omega,fun x hx=>?_⟩) (fun h2=>?_)
     ·rw [Int.toNat_natCast] at hx
      have htx : e.auth.take (j + 1)=e.auth.take j ++ [x]:=by rw [List.take_add_one,hx]; rfl
      obtain ⟨m,f,hmf,hfid,hpx⟩:=there_at (hv.there (hau ▸ List.mem_of_getElem? hx))
      have hml:=(List.getElem?_eq_some_iff.1 hmf).1
      refine gLook rfl (fun m' hm'=>?_) (fun hm'=>by rw [hpx] at hm'; cases hm')
      rw [hpx] at hm'; cases hm'
      simp -implicitDefEqProofs (maxSteps:=2000000) only [push_cast,reduceEqDiff,reduceLT,reduceLeDiff,reduceAdd,reduceMul,reduceSub,Nat.reduceBEq,↓reduceIte,reduceCtorEq,gT]
      rcases had_tf (had:=had) (k:=m) (by rw [hh.len]; exact hml) with hkh | hkh
      ·refine Callx.hand [1,3,0,2] (visitNo had work m hkh) (by decide) (by simp only [push_cast,reduceEqDiff,reduceLT,reduceLeDiff,reduceAdd,reduceMul,reduceSub,Nat.reduceBEq,↓reduceIte,reduceCtorEq]) rfl rfl (by simp only [push_cast,reduceEqDiff,reduceLT,reduceLeDiff,reduceAdd,reduceMul,reduceSub,Nat.reduceBEq,↓reduceIte,reduceCtorEq]<;>rfl) rfl (.inr ⟨rfl,by simp only [push_cast,reduceEqDiff,reduceLT,reduceLeDiff,reduceAdd,reduceMul,reduceSub,Nat.reduceBEq,↓reduceIte,reduceCtorEq]<;>rfl⟩) ?_
       simp -implicitDefEqProofs (maxSteps:=2000000) only [push_cast,reduceEqDiff,reduceLT,reduceLeDiff,reduceAdd,reduceMul,reduceSub,Nat.reduceBEq,↓reduceIte,reduceCtorEq,gT]
       refine ⟨by unfold inI64; omega,(j + 1,had,work),⟨by simp only; omega,?_,hw⟩,by simp only; omega,Keep.wk (ids:=[some 0,some 1,some 2,some 3]) ?_⟩
       ·simp only
        rw [htx,← List.append_assoc]
        exact hh.old hpx hkh
       ·simp only [push_cast,reduceEqDiff,reduceLT,reduceLeDiff,reduceAdd,reduceMul,reduceSub,Nat.reduceBEq,↓reduceIte,reduceCtorEq,gT]<;>rfl
      ·have hus:=unm_set hkh
       refine Callx.hand [1,3,0,2] (visitYes had work m hkh hB (by omega)) (by decide) (by simp only [push_cast,reduceEqDiff,reduceLT,reduceLeDiff,reduceAdd,reduceMul,reduceSub,Nat.reduceBEq,↓reduceIte,reduceCtorEq]) rfl rfl (by simp only [push_cast,reduceEqDiff,reduceLT,reduceLeDiff,reduceAdd,reduceMul,reduceSub,Nat.reduceBEq,↓reduceIte,reduceCtorEq]<;>rfl) rfl (.inr ⟨rfl,by simp only [push_cast,reduceEqDiff,reduceLT,reduceLeDiff,reduceAdd,reduceMul,reduceSub,Nat.reduceBEq,↓reduceIte,reduceCtorEq]<;>rfl⟩) ?_
       simp -implicitDefEqProofs (maxSteps:=2000000) only [push_cast,reduceEqDiff,reduceLT,reduceLeDiff,reduceAdd,reduceMul,reduceSub,Nat.reduceBEq,↓reduceIte,reduceCtorEq,gT]
       refine ⟨by unfold inI64; omega,(j + 1,had.set m true,work ++ [m]),⟨by simp only; omega,?_,by simp only [List.length_append,List.length_singleton]; omega⟩,by simp only; omega,Keep.wk (ids:=[some 0,some 1,some 4,some 3]) ?_⟩
       ·simp only
        rw [htx,← List.append_assoc]
        exact hh.new hpx hmf hfid hkh (hanc x (List.mem_of_getElem? hx))
       ·simp only [push_cast,reduceEqDiff,reduceLT,reduceLeDiff,reduceAdd,reduceMul,reduceSub,Nat.reduceBEq,↓reduceIte,reduceCtorEq,gT]<;>rfl
     ·rw [List.take_of_length_le (l:=e.auth) (by omega)] at hh
      refine ⟨by unfold inI64; omega,(i + 1,had,work),⟨by simp only; omega,?_,hw⟩,by simp only; omega,Keep.wk (ids:=[some 0,some 1,some 2,some 3]) ?_⟩
      ·simp only
       rw [hrt]; exact hh
      ·simp only [push_cast,reduceEqDiff,reduceLT,reduceLeDiff,reduceAdd,reduceMul,reduceSub,Nat.reduceBEq,↓reduceIte,reduceCtorEq,gT]<;>rfl
  ·rw [List.take_of_length_le (by omega),hrse] at hh
   refine WL.loop (ι:=List Bool × List Nat × List (List UInt8)) (D:=(fun _=>(0,[]))) (fun i=>Had es rs i.1 i.2.1 i.2.2 none∧(∀ x∈rs,x∈i.2.2)∧unm i.1 + i.2.1.length≤es.length) (fun i=>⟨102,[(0,.t (gT es)),(7,.rf 1 0),(8,.rf 3 0),(9,.fn 173 [.rf 1 0,.rf 3 0])],[hadO i.1,.box (.sr 0),workO i.2.1,.box (.sr 2)]⟩) (fun i=>unm i.1 + i.2.1.length) mixed (by kernel_rfl) (had,work,rs) ⟨hh,fun x hx=>hx,hw⟩ (Keep.wk (ids:=[some 0,some 1,some 2,some 3]) ?_) ?_
   ·simp only [push_cast,reduceEqDiff,reduceLT,reduceLeDiff,reduceAdd,reduceMul,reduceSub,Nat.reduceBEq,↓reduceIte,reduceCtorEq,gT]<;>rfl
   ·rintro ⟨had,work,done⟩ ⟨hh,hd,hw⟩
    simp only at hh hd hw
    simp -implicitDefEqProofs (maxSteps:=2000000) only [push_cast,reduceEqDiff,reduceLT,reduceLeDiff,reduceAdd,reduceMul,reduceSub,Nat.reduceBEq,↓reduceIte,reduceCtorEq,gT,eEvent]
    intro _
    refine iteI (fun h2=>?_) (fun h2=>?_)
    ·have e1 : (Int.toNat ((work.length : Int) - 1))=work.length - 1:=by omega
     simp only [e1]
     refine fun _=>⟨by unfold inI64; omega,by omega,by omega,fun k hwk=>?_⟩
     have hkh:=hh.pile k (List.mem_of_getElem? hwk)
     have hkl : k < es.length:=by rw [← hh.len]; exact (List.getElem?_eq_some_iff.1 hkh).1
     refine fun _=>⟨by unfold inI64; omega,by omega,by omega,by omega,fun e hke=>?_⟩
     rw [Int.toNat_natCast] at hke
     have hp:=hv.pos hke
     have hau:=authOf_at hp hke
     have hpop:=hh.pop (fun hn=>by rw [hn] at h2; simp at h2) hwk
     have hanc : ∀ x∈e.auth,Anc es rs x:=fun x hx=>.step (hh.anc k e hke hkh) (hau ▸ hx)
     rw [← List.map_take]
     have hwl : (work.take (work.length - 1)).length + 1=work.length:=by rw [List.length_take]; omega
     generalize work.take (work.length - 1)=wk at *
     intro hal
     refine WL.loop (ι:=Nat × List Bool × List Nat) (D:=(fun _=>(0,[]))) (fun j=>j.1≤e.auth.length∧Had es rs j.2.1 j.2.2 (done ++ e.auth.take j.1) (some k)∧unm j.2.1 + j.2.2.length + 1≤unm had + work.length) (fun j=>⟨102,[(0,.t (gT es)),(7,.rf 1 0),(8,.rf 3 0),(9,.fn 173 [.rf 1 0,.rf 3 0]),(86,.t (eStringS e.auth)),(87,.t (.i .i64 e.auth.length)),(88,.t (.i .i64 j.1))],[hadO j.2.1,.box (.sr 0),workO j.2.2,.box (.sr 2)]⟩) (fun j=>e.auth.length - j.1) mixed (by kernel_rfl) (0,had,wk) ⟨by simp,by simpa using hpop,by simp only; omega⟩ (Keep.wk (ids:=[some 0,some 1,some 4,some 3]) ?_) ?_
     ·simp only [push_cast,reduceEqDiff,reduceLT,reduceLeDiff,reduceAdd,reduceMul,reduceSub,Nat.reduceBEq,↓reduceIte,reduceCtorEq,gT]<;>rfl
     ·rintro ⟨j,had2,work2⟩ ⟨hj,hh,hw2⟩
      simp only at hj hh hw2
      simp -implicitDefEqProofs (maxSteps:=2000000) only [push_cast,reduceEqDiff,reduceLT,reduceLeDiff,reduceAdd,reduceMul,reduceSub,Nat.reduceBEq,↓reduceIte,reduceCtorEq,gT]
      refine iteI (fun h3=>⟨by omega,fun x hx=>?_⟩) (fun h3=>?_)
      ·rw [Int.toNat_natCast] at hx
       have htx : e.auth.take (j + 1)=e.auth.take j ++ [x]:=by rw [List.take_add_one,hx]; rfl
       obtain ⟨m,f,hmf,hfid,hpx⟩:=there_at (hv.there (hau ▸ List.mem_of_getElem? hx))
       have hml:=(List.getElem?_eq_some_iff.1 hmf).1
       refine gLook rfl (fun m' hm'=>?_) (fun hm'=>by rw [hpx] at hm'; cases hm')
       rw [hpx] at hm'; cases hm'
       simp -implicitDefEqProofs (maxSteps:=2000000) only [push_cast,reduceEqDiff,reduceLT,reduceLeDiff,reduceAdd,reduceMul,reduceSub,Nat.reduceBEq,↓reduceIte,reduceCtorEq,gT]
       rcases had_tf (had:=had2) (k:=m) (by rw [hh.len]; exact hml) with hkh | hkh
       ·refine Callx.hand [1,3,0,2] (visitNo had2 work2 m hkh) (by decide) (by simp only [push_cast,reduceEqDiff,reduceLT,reduceLeDiff,reduceAdd,reduceMul,reduceSub,Nat.reduceBEq,↓reduceIte,reduceCtorEq]) rfl rfl (by simp only [push_cast,reduceEqDiff,reduceLT,reduceLeDiff,reduceAdd,reduceMul,reduceSub,Nat.reduceBEq,↓reduceIte,reduceCtorEq]<;>rfl) rfl (.inr ⟨rfl,by simp only [push_cast,reduceEqDiff,reduceLT,reduceLeDiff,reduceAdd,reduceMul,reduceSub,Nat.reduceBEq,↓reduceIte,reduceCtorEq]<;>rfl⟩) ?_
        simp -implicitDefEqProofs (maxSteps:=2000000) only [push_cast,reduceEqDiff,reduceLT,reduceLeDiff,reduceAdd,reduceMul,reduceSub,Nat.reduceBEq,↓reduceIte,reduceCtorEq,gT]
        refine ⟨by unfold inI64; omega,(j + 1,had2,work2),⟨by simp only; omega,?_,hw2⟩,by simp only; omega,Keep.wk (ids:=[some 0,some 1,some 2,some 3]) ?_⟩
        ·simp only
         rw [htx,← List.append_assoc]
         exact hh.old hpx hkh
        ·simp only [push_cast,reduceEqDiff,reduceLT,reduceLeDiff,reduceAdd,reduceMul,reduceSub,Nat.reduceBEq,↓reduceIte,reduceCtorEq,gT]<;>rfl
       ·have hus:=unm_set hkh
        refine Callx.hand [1,3,0,2] (visitYes had2 work2 m hkh hB (by omega)) (by decide) (by simp only [push_cast,reduceEqDiff,reduceLT,reduceLeDiff,reduceAdd,reduceMul,reduceSub,Nat.reduceBEq,↓reduceIte,reduceCtorEq]) rfl rfl (by simp only [push_cast,reduceEqDiff,reduceLT,reduceLeDiff,reduceAdd,reduceMul,reduceSub,Nat.reduceBEq,↓reduceIte,reduceCtorEq]<;>rfl) rfl (.inr ⟨rfl,by simp only [push_cast,reduceEqDiff,reduceLT,reduceLeDiff,reduceAdd,reduceMul,reduceSub,Nat.reduceBEq,↓reduceIte,reduceCtorEq]<;>rfl⟩) ?_
        simp -implicitDefEqProofs (maxSteps:=2000000) only [push_cast,reduceEqDiff,reduceLT,reduceLeDiff,reduceAdd,reduceMul,reduceSub,Nat.reduceBEq,↓reduceIte,reduceCtorEq,gT]
        refine ⟨by unfold inI64; omega,(j + 1,had2.set m true,work2 ++ [m]),⟨by simp only; omega,?_,by simp only [List.length_append,List.length_singleton]; omega⟩,by simp only; omega,Keep.wk (ids:=[some 0,some 1,some 4,some 3]) ?_⟩
        ·simp only
         rw [htx,← List.append_assoc]
         exact hh.new hpx hmf hfid hkh (hanc x (List.mem_of_getElem? hx))
        ·simp only [push_cast,reduceEqDiff,reduceLT,reduceLeDiff,reduceAdd,reduceMul,reduceSub,Nat.reduceBEq,↓reduceIte,reduceCtorEq,gT]<;>rfl
      ·rw [List.take_of_length_le (l:=e.auth) (by omega)] at hh
       refine ⟨(had2,work2,done ++ e.auth),⟨hh.seen rfl hke (fun x hx=>List.mem_append_right _ hx),fun x hx=>List.mem_append_left _ (hd x hx),by simp only; omega⟩,by simp only; omega,Keep.wk (ids:=[some 0,some 1,some 2,some 3]) ?_⟩
       simp only [push_cast,reduceEqDiff,reduceLT,reduceLeDiff,reduceAdd,reduceMul,reduceSub,Nat.reduceBEq,↓reduceIte,reduceCtorEq,gT]<;>rfl
    ·have hwn : work=[]:=List.eq_nil_of_length_eq_zero (by omega)
     subst hwn
     rw [hh.is hv hd hrs]
     exact Close.of [some 0] rfl rfl rfl rfl (by simp only [push_cast,reduceEqDiff,reduceLT,reduceLeDiff,reduceAdd,reduceMul,reduceSub,Nat.reduceBEq,↓reduceIte,reduceCtorEq]<;>rfl)
end Go.Proofs.YtmgdkkhnjkepiaaGreat.BX
namespace Go.Proofs.YtmgdkkhnjkepiaaGreat.BX
open Nat (reduceEqDiff reduceLT reduceLeDiff reduceAdd reduceMul reduceSub)
set_option linter.unusedSectionVars false
set_option linter.unusedSimpArgs false
set_option linter.unusedVariables false
open Go Go.RowKit
set_option maxRecDepth 20000
set_option maxHeartbeats 400000
noncomputable def chainC (es:List Event) (ids:List (List UInt8)) : Int:=if roomB es=true then (if (decide ((ids.length : Int)≤300) && allIn es ids)=true then 0 else 2) else 1
noncomputable def chainL (es:List Event) (ids:List (List UInt8)) : List (List UInt8):=if chainC es ids=0 then ancL es (ids.flatMap (authOf es)) else []
theorem allIn_there {es:List Event} {ids:List (List UInt8)} (h:allIn es ids=true) : ∀ id∈ids,There es id:=by
 unfold allIn at h
 exact of_decide_eq_true (p:=∀ id∈ids,(posOf id es).isSome=true) h
variable [Bd]
theorem specAuthChain (es:List Event) (ids:List (List UInt8)) (hB:Bd.B≤2147483648) : Con P0 42 [eRoom ⟨es⟩,eStringS ids] (.tp [.sr 0,.t (.i .i64 (chainC es ids))]) [.arr 9 1 (.own .leaf) ((chainL es ids).map T.s)]:=by
 refine Con.intro (fn:=Tryz.f42) [.tmp 4,.tmp 5] (fun _=>(0,[])) mixed (by kernel_rfl) rfl (by decide) rfl (by rfl) (by kernel_rfl) ?_
 simp -implicitDefEqProofs (maxSteps:=2000000) only [push_cast,reduceEqDiff,reduceLT,reduceLeDiff,reduceAdd,reduceMul,reduceSub,Nat.reduceBEq,↓reduceIte,reduceCtorEq,eRoom]
 have:=Bd.lo
 refine Callx.closed (specRoomOk es) rfl rfl (.inr ⟨rfl,rfl⟩) ?_
 simp -implicitDefEqProofs (maxSteps:=2000000) only [push_cast,reduceEqDiff,reduceLT,reduceLeDiff,reduceAdd,reduceMul,reduceSub,Nat.reduceBEq,↓reduceIte,reduceCtorEq,eRoom]
 refine iteI (fun hr=>?_) (fun hr=>?_)
 ·have h1 : chainC es ids=1:=if_neg (by simpa using hr)
  have h2 : chainL es ids=[]:=if_neg (by rw [h1]; simp)
  rw [h1,h2]
  refine ⟨rfl,by omega,?_⟩
  exact Close.of [some 1] rfl rfl rfl (by simp only [push_cast,reduceEqDiff,reduceLT,reduceLeDiff,reduceAdd,reduceMul,reduceSub,Nat.reduceBEq,↓reduceIte,reduceCtorEq]<;>rfl) (by simp only [push_cast,reduceEqDiff,reduceLT,reduceLeDiff,reduceAdd,reduceMul,reduceSub,Nat.reduceBEq,↓reduceIte,reduceCtorEq]<;>rfl)
 have hr : roomB es=true:=by simpa using hr
 refine Callx.closed (l2AllThere es ids) rfl rfl (.inr ⟨rfl,rfl⟩) ?_
 simp -implicitDefEqProofs (maxSteps:=2000000) only [push_cast,reduceEqDiff,reduceLT,reduceLeDiff,reduceAdd,reduceMul,reduceSub,Nat.reduceBEq,↓reduceIte,reduceCtorEq,eRoom]
 refine iteI (fun hr2=>?_) (fun hr2=>?_)
 ·have h1 : chainC es ids=2:=by unfold chainC; rw [if_pos hr,if_neg (fun hh=>by rw [hh] at hr2; cases hr2)]
  have h2 : chainL es ids=[]:=if_neg (by rw [h1]; simp)
  rw [h1,h2]
  refine ⟨rfl,by omega,?_⟩
  exact Close.of [some 1] rfl rfl rfl (by simp only [push_cast,reduceEqDiff,reduceLT,reduceLeDiff,reduceAdd,reduceMul,reduceSub,Nat.reduceBEq,↓reduceIte,reduceCtorEq]<;>rfl) (by simp only [push_cast,reduceEqDiff,reduceLT,reduceLeDiff,reduceAdd,reduceMul,reduceSub,Nat.reduceBEq,↓reduceIte,reduceCtorEq]<;>rfl)
 have hr2 : (decide ((ids.length : Int)≤300) && allIn es ids)=true:=by simpa using hr2
 have h1 : chainC es ids=0:=by unfold chainC; rw [if_pos hr,if_pos hr2]
 have h2 : chainL es ids=_:=if_pos h1
 rw [h1,h2]
 refine Callx.closed (l2Chain es ids (room_valid hr) (allIn_there (by simp only [Bool.and_eq_true] at hr2; exact hr2.2)) hB) rfl rfl (.inr ⟨rfl,rfl⟩) ?_
 simp -implicitDefEqProofs (maxSteps:=2000000) only [push_cast,reduceEqDiff,reduceLT,reduceLeDiff,reduceAdd,reduceMul,reduceSub,Nat.reduceBEq,↓reduceIte,reduceCtorEq,eRoom]
 exact Close.of [some 1] rfl rfl rfl (by simp only [push_cast,reduceEqDiff,reduceLT,reduceLeDiff,reduceAdd,reduceMul,reduceSub,Nat.reduceBEq,↓reduceIte,reduceCtorEq]<;>rfl) (by simp only [push_cast,reduceEqDiff,reduceLT,reduceLeDiff,reduceAdd,reduceMul,reduceSub,Nat.reduceBEq,↓reduceIte,reduceCtorEq]<;>rfl)
theorem chain1 (had:List Bool) (i:Nat) (hi:i < had.length) : Con P0 101 [.i .i64 i,.po (.sl (had.map T.b)) 0] (.t (.b had[i])) []:=by
 refine Con.intro (fn:=Tryz.f101) [.tmp 3] (fun _=>(0,[])) mixed (by kernel_rfl) rfl (by decide) rfl (by rfl) (by kernel_rfl) ?_
 simp -implicitDefEqProofs (maxSteps:=2000000) only [push_cast,reduceEqDiff,reduceLT,reduceLeDiff,reduceAdd,reduceMul,reduceSub,Nat.reduceBEq,↓reduceIte,reduceCtorEq]
 refine ⟨by omega,fun a ha=>?_⟩
 rw [Int.toNat_natCast,List.getElem?_eq_getElem hi] at ha
 cases ha
 rfl
theorem implAuthChain (es:List Event) (ids:List (List UInt8)) (hB:Bd.B≤2147483648) : Con P0 43 [eRoom ⟨es⟩,eStringS ids] (.tp [.sr 0,.t (.i .i64 (chainC es ids))]) [.arr 9 1 (.own .leaf) ((chainL es ids).map T.s)]:=by
 refine Con.intro (fn:=Tryz.f43) [.tmp 4,.tmp 5] (fun _=>(0,[])) mixed (by kernel_rfl) rfl (by decide) rfl (by rfl) (by kernel_rfl) ?_
 simp -implicitDefEqProofs (maxSteps:=2000000) only [push_cast,reduceEqDiff,reduceLT,reduceLeDiff,reduceAdd,reduceMul,reduceSub,Nat.reduceBEq,↓reduceIte,reduceCtorEq,eRoom]
 refine Callx.closed (graphOf es hB) rfl rfl (.inl rfl) ?_
 simp -implicitDefEqProofs (maxSteps:=2000000) only [push_cast,reduceEqDiff,reduceLT,reduceLeDiff,reduceAdd,reduceMul,reduceSub,Nat.reduceBEq,↓reduceIte,reduceCtorEq,eRoom]
 by_cases hr : roomB es=true
 ·rw [if_pos hr]
  simp -implicitDefEqProofs (maxSteps:=2000000) only [push_cast,reduceEqDiff,reduceLT,reduceLeDiff,reduceAdd,reduceMul,reduceSub,Nat.reduceBEq,↓reduceIte,reduceCtorEq,eRoom,gT]
  have hv:=room_valid hr
  have no : (decide ((ids.length : Int)≤300) && allIn es ids)=false→chainC es ids=2∧chainL es ids=[]:=fun h=>by
   have h1 : chainC es ids=2:=by unfold chainC; rw [if_pos hr,if_neg (by rw [h]; simp)]
   exact ⟨h1,if_neg (by rw [h1]; simp)⟩
  intro hlen
  refine iteI (fun h=>?_) (fun h=>?_)
  ·obtain ⟨h1,h2⟩:=no (by rw [decide_eq_false (by omega)]; rfl)
   rw [h1,h2]
   exact Close.of [none] rfl rfl rfl (by simp only [push_cast,reduceEqDiff,reduceLT,reduceLeDiff,reduceAdd,reduceMul,reduceSub,Nat.reduceBEq,↓reduceIte,reduceCtorEq]<;>rfl) (by simp only [push_cast,reduceEqDiff,reduceLT,reduceLeDiff,reduceAdd,reduceMul,reduceSub,Nat.reduceBEq,↓reduceIte,reduceCtorEq]<;>rfl)
  refine Callx.closed (graphAll es ids) rfl rfl (.inl rfl) ?_
  simp -implicitDefEqProofs (maxSteps:=2000000) only [push_cast,reduceEqDiff,reduceLT,reduceLeDiff,reduceAdd,reduceMul,reduceSub,Nat.reduceBEq,↓reduceIte,reduceCtorEq,eRoom,gT]
  refine iteI (fun h1=>?_) (fun h1=>?_)
  ·obtain ⟨h1,h2⟩:=no (by rw [show allIn es ids=false by simpa using h1,Bool.and_false])
   rw [h1,h2]
   exact Close.of [none] rfl rfl rfl (by simp only [push_cast,reduceEqDiff,reduceLT,reduceLeDiff,reduceAdd,reduceMul,reduceSub,Nat.reduceBEq,↓reduceIte,reduceCtorEq]<;>rfl) (by simp only [push_cast,reduceEqDiff,reduceLT,reduceLeDiff,reduceAdd,reduceMul,reduceSub,Nat.reduceBEq,↓reduceIte,reduceCtorEq]<;>rfl)
  have hal : allIn es ids=true:=by simpa using h1
  have h1 : chainC es ids=0:=by unfold chainC; rw [if_pos hr,if_pos (by rw [hal,decide_eq_true (by omega)]; rfl)]
  have h2 : chainL es ids=_:=if_pos h1
  rw [h1,h2]
  refine Callx.closed (graphUnder es ids false hv (allIn_there hal) hB) rfl rfl (.inl rfl) ?_
  rw [if_neg (by simp)]
  have hp : ∀ i,i < es.length→Con P0 101 (.i .i64 i :: [.po (.sl ((hadA es (ids.flatMap (authOf es))).map T.b)) 0]) (.t (.b (ancP es (ids.flatMap (authOf es)) i))) []:=fun i hi=>by
   have ht:=chain1 (hadA es (ids.flatMap (authOf es))) i (by rw [hadA_len]; exact hi)
   have hg:=hadA_get (rs:=ids.flatMap (authOf es)) hi
   rw [List.getElem?_eq_getElem (by rw [hadA_len]; exact hi),Option.some.injEq] at hg
   rw [← hg]
   exact ht
  simp -implicitDefEqProofs (maxSteps:=2000000) only [push_cast,reduceEqDiff,reduceLT,reduceLeDiff,reduceAdd,reduceMul,reduceSub,Nat.reduceBEq,↓reduceIte,reduceCtorEq,eRoom,gT]
  refine Callx.closed (graphNamed es 101 [.po (.sl ((hadA es (ids.flatMap (authOf es))).map T.b)) 0] (ancP es (ids.flatMap (authOf es))) (by decide) ⟨_,Tryz.func101,rfl,rfl⟩ hp hB) rfl rfl (.inr ⟨rfl,rfl⟩) ?_
  simp -implicitDefEqProofs (maxSteps:=2000000) only [push_cast,reduceEqDiff,reduceLT,reduceLeDiff,reduceAdd,reduceMul,reduceSub,Nat.reduceBEq,↓reduceIte,reduceCtorEq,eRoom,gT]
  exact Close.of [some 3] rfl rfl rfl (by simp only [push_cast,reduceEqDiff,reduceLT,reduceLeDiff,reduceAdd,reduceMul,reduceSub,Nat.reduceBEq,↓reduceIte,reduceCtorEq]<;>rfl) (by simp only [push_cast,reduceEqDiff,reduceLT,reduceLeDiff,reduceAdd,reduceMul,reduceSub,Nat.reduceBEq,↓reduceIte,reduceCtorEq,ancL]<;>rfl)
 ·rw [if_neg hr]
  simp -implicitDefEqProofs (maxSteps:=2000000) only [push_cast,reduceEqDiff,reduceLT,reduceLeDiff,reduceAdd,reduceMul,reduceSub,Nat.reduceBEq,↓reduceIte,reduceCtorEq,eRoom,gT]
  have h1 : chainC es ids=1:=if_neg hr
  have h2 : chainL es ids=[]:=if_neg (by rw [h1]; simp)
  rw [h1,h2]
  exact Close.of [none] rfl rfl rfl (by simp only [push_cast,reduceEqDiff,reduceLT,reduceLeDiff,reduceAdd,reduceMul,reduceSub,Nat.reduceBEq,↓reduceIte,reduceCtorEq]<;>rfl) (by simp only [push_cast,reduceEqDiff,reduceLT,reduceLeDiff,reduceAdd,reduceMul,reduceSub,Nat.reduceBEq,↓reduceIte,reduceCtorEq]<;>rfl)
end Go.Proofs.YtmgdkkhnjkepiaaGreat.BX
namespace Go.Proofs.YtmgdkkhnjkepiaaGreat.BX
open Nat (reduceEqDiff reduceLT reduceLeDiff reduceAdd reduceMul reduceSub)
set_option linter.unusedSectionVars false
set_option linter.unusedSimpArgs false
set_option linter.unusedVariables false
open Go Go.RowKit
variable [Bd]
set_option maxRecDepth 20000
set_option maxHeartbeats 400000
def reaches (c:Cover) (a b:Int) : Bool :=
 if a < 0 then false else if (c.reach.length : Int)≤a then false else if b < 0 then false else if (c.spots.length : Int)≤b then false else
 match c.spots[b.toNat]?,c.reach[a.toNat]? with
 | some s, some r => decide (1≤s.seq) && decide (0≤s.chain) && decide (s.chain < r.length) && (match r[s.chain.toNat]? with | some x=>decide (s.seq≤x) | none=>false)
 | _, _ => false
theorem implReaches (c:Cover) (a b:Int) : Con P0 45 [eCover c,.i .i64 a,.i .i64 b] (.t (.b (reaches c a b))) []:=by
 refine Con.intro (fn:=Tryz.f45) [.tmp 6] (fun i=>if i=4 then (34,[]) else (0,[])) mixed (by kernel_rfl) rfl (by decide) rfl (by rfl) (by kernel_rfl) ?_
 simp -implicitDefEqProofs (maxSteps:=2000000) only [push_cast,reduceEqDiff,reduceLT,reduceLeDiff,reduceAdd,reduceMul,reduceSub,Nat.reduceBEq,↓reduceIte,reduceCtorEq,eCover,eSpot]
 unfold reaches
 by_cases h1 : a < 0
 ·simp only [if_pos h1]
 simp only [if_neg h1]
 intro _
 by_cases h2 : (c.reach.length : Int)≤a
 ·simp only [if_pos h2]
 simp only [if_neg h2]
 by_cases h3 : b < 0
 ·simp only [if_pos h3]
 simp only [if_neg h3]
 intro _
 by_cases h4 : (c.spots.length : Int)≤b
 ·simp only [if_pos h4]
 simp only [if_neg h4]
 refine ⟨by omega,fun s hs=>?_⟩
 have hr : ∃ r,c.reach[a.toNat]? = some r:=⟨_,List.getElem?_eq_getElem (by omega)⟩
 obtain ⟨r,hr⟩:=hr
 simp only [hs,hr,Option.some.injEq,forall_eq']
 by_cases h5 : 1≤s.seq
 case neg=>simp [h5]
 by_cases h6 : 0≤s.chain
 case neg=>simp [h6]
 simp only [if_pos h5,if_pos h6]
 refine ⟨by omega,fun _=>?_⟩
 by_cases h7 : s.chain < r.length
 case neg=>simp [h7]
 simp only [if_pos h7]
 refine ⟨by omega,⟨h6,h7⟩,fun x hx=>?_⟩
 simp only [hx,decide_eq_true h5,decide_eq_true h6,decide_eq_true h7,Bool.true_and]
end Go.Proofs.YtmgdkkhnjkepiaaGreat.BX
namespace Go.Proofs.YtmgdkkhnjkepiaaGreat.BX
open Nat (reduceEqDiff reduceLT reduceLeDiff reduceAdd reduceMul reduceSub)
set_option linter.unusedSectionVars false
set_option linter.unusedSimpArgs false
set_option linter.unusedVariables false
open Go Go.RowKit
set_option maxRecDepth 20000
set_option maxHeartbeats 400000
theorem nextSpot_ref {es:List Event} {sp:List Spot} {ch:Nat} : ∀ {l:List (List UInt8)},nextSpot es sp ch l=⟨ch,1⟩ ∨ ∃ (x:List UInt8) (k:Nat) (a:Spot),x∈l∧posOf x es=some k∧isLast sp k=true∧sp[k]? = some a∧nextSpot es sp ch l=⟨a.chain,a.seq + 1⟩
 | [] => .inl rfl
 | x :: r => by
   have ih:=nextSpot_ref (es:=es) (sp:=sp) (ch:=ch) (l:=r)
   have more : ∀ {s:Spot},(nextSpot es sp ch r=⟨ch,1⟩ ∨ ∃ (x:List UInt8) (k:Nat) (a:Spot),x∈r∧posOf x es=some k∧isLast sp k=true∧sp[k]? = some a∧nextSpot es sp ch r=⟨a.chain,a.seq + 1⟩)→s=nextSpot es sp ch r→(s=⟨ch,1⟩ ∨ ∃ (y:List UInt8) (k:Nat) (a:Spot),y∈x :: r∧posOf y es=some k∧isLast sp k=true∧sp[k]? = some a∧s=⟨a.chain,a.seq + 1⟩):=by
    rintro s h rfl
    rcases h with h | ⟨y,k,a,h1,h2⟩
    ·exact .inl h
    ·exact .inr ⟨y,k,a,List.mem_cons_of_mem _ h1,h2⟩
   unfold nextSpot
   split
   ·rename_i k hk
    split
    ·rename_i hl
     split
     ·rename_i a ha
      exact .inr ⟨x,k,a,List.mem_cons_self ..,hk,hl,ha,rfl⟩
     ·exact more ih rfl
    ·exact more ih rfl
   ·exact more ih rfl
structure Chn (es:List Event) (n:Nat) : Prop where
 spot : ∀ s∈(cov es n).1,0≤s.chain∧s.chain < (cov es n).2∧1≤s.seq
 rest : ∀ (j k:Nat) (s t:Spot) (a b:Event),(cov es n).1[k]? = some s→(cov es n).1[j]? = some t→es[k]? = some a→es[j]? = some b→s.chain=t.chain→s.seq≤t.seq→k=j ∨ Anc es b.auth a.id
theorem get_snoc {α:Type} {l:List α} {x y:α} {k:Nat} (h:(l ++ [x])[k]? = some y) : (k < l.length∧l[k]? = some y) ∨ (k=l.length∧y=x):=by
 by_cases hk : k < l.length
 ·rw [List.getElem?_append_left hk] at h
  exact .inl ⟨hk,h⟩
 ·rw [List.getElem?_append_right (by omega)] at h
  obtain ⟨h1,h2⟩:=List.getElem?_eq_some_iff.1 h
  have h1 : k - l.length < 1:=by simpa using h1
  have h0 : k - l.length=0:=by omega
  simp only [h0,List.getElem_cons_zero] at h2
  exact .inr ⟨by omega,h2.symm⟩
theorem chn {es:List Event} (hv:Valid es) : ∀ {n:Nat},n≤es.length→Chn es n
 | 0, _ => ⟨fun s h=>by simp [cov] at h,fun j k s t a b h=>by simp [cov] at h⟩
 | n + 1, hn => by
   have ih:=chn hv (n:=n) (by omega)
   obtain ⟨e,he⟩ : ∃ e,es[n]? = some e:=⟨_,List.getElem?_eq_getElem (by omega)⟩
   have hl:=cov_len (es:=es) (n:=n) (by omega)
   have hsu:=cov_succ he
   have hns:=nextSpot_ref (es:=es) (sp:=(cov es n).1) (ch:=(cov es n).2) (l:=e.auth)
   generalize nextSpot es (cov es n).1 (cov es n).2 e.auth=ns at *
   have hgrow : (cov es n).2≤(cov es (n + 1)).2:=by rw [hsu]; simp only; split<;>omega
   have hfst : (cov es (n + 1)).1=(cov es n).1 ++ [ns]:=by rw [hsu]
   have hsnd : ns.chain=(cov es n).2→(cov es (n + 1)).2=(cov es n).2 + 1:=fun h=>by rw [hsu]; exact if_pos h
   refine ⟨fun s hs=>?_,fun j k s t a b hk hj ha hb hc hq=>?_⟩
   ·rw [hfst] at hs
    rcases List.mem_append.1 hs with hs | hs
    ·have:=ih.spot s hs
     omega
    ·rw [List.mem_singleton.1 hs]
     rcases hns with rfl | ⟨x,k,a,_,_,_,ha,rfl⟩
     ·have:=hsnd rfl
      simp only at this ⊢
      omega
     ·have:=ih.spot a (List.mem_of_getElem? ha)
      simp only
      omega
   ·rw [hfst] at hk hj
    rcases get_snoc hk with ⟨k1,k2⟩ | ⟨k1,k2⟩<;>rcases get_snoc hj with ⟨j1,j2⟩ | ⟨j1,j2⟩
    ·exact ih.rest j k s t a b k2 j2 ha hb hc hq
    ·subst j2
     rw [hl] at j1
     subst j1
     rw [he] at hb
     cases hb
     rcases hns with rfl | ⟨x,k',a',hx,hp,hlast,ha',rfl⟩
     ·have:=ih.spot s (List.mem_of_getElem? k2)
      simp only at hc
      omega
     ·have hsq:=(isLast_at ha').1 hlast s (List.mem_of_getElem? k2) hc
      obtain ⟨c',hc1,hc2,_⟩:=posOf_some.1 hp
      right
      refine (anc_split hv).2 ⟨x,hx,?_⟩
      rcases ih.rest k' k s a' a c' k2 ha' ha hc1 hc hsq with rfl | h
      ·rw [ha] at hc1
       cases hc1
       exact .inl hc2
      ·exact .inr (by rw [authOf_at hp hc1]; exact h)
    ·subst k2
     rcases hns with rfl | ⟨x,k',a',hx,hp,hlast,ha',rfl⟩
     ·have:=ih.spot t (List.mem_of_getElem? j2)
      simp only at hc
      omega
     ·have hsq:=(isLast_at ha').1 hlast t (List.mem_of_getElem? j2) hc.symm
      simp only at hq
      omega
    ·exact .inl (by omega)
theorem chain_one {es:List Event} (hv:Valid es) {i:Nat} {e:Event} (he:es[i]? = some e) : chainC es [e.id]=0∧∀ x,x∈chainL es [e.id] ↔ Anc es e.auth x:=by
 have hp:=hv.pos he
 have h1 : chainC es [e.id]=0:=by
  unfold chainC
  rw [if_pos (room_is hv),if_pos (by simp [allIn,hp])]
 refine ⟨h1,fun x=>?_⟩
 unfold chainL
 have hau:=authOf_at hp he
 rw [if_pos h1,show [e.id].flatMap (authOf es)=e.auth by simp [hau]]
 exact ancL_mem hv fun y hy=>hv.there (hau ▸ hy)
theorem reach_is {es:List Event} (hv:Valid es) {i k:Nat} {e f:Event} (he:es[i]? = some e) (hf:es[k]? = some f) : reaches (coverL es) i k=(decide (i=k) || decide (f.id∈chainL es [e.id])):=by
 have hil:=(List.getElem?_eq_some_iff.1 he).1
 have hkl:=(List.getElem?_eq_some_iff.1 hf).1
 have hch:=chn hv (Nat.le_refl es.length)
 have hsl : (sps es).length=es.length:=cov_len (Nat.le_refl _)
 obtain ⟨s,hs⟩ : ∃ s,(sps es)[k]? = some s:=⟨_,List.getElem?_eq_getElem (by omega)⟩
 have hspot:=hch.spot s (List.mem_of_getElem? hs)
 have hrow : (coverL es).reach[i]? = some (rowL es i):=by
  simp only [coverL,List.getElem?_map]
  rw [List.getElem?_range (by omega)]; rfl
 have hc:=(chain_one hv he).2 f.id
 have hrl : (coverL es).reach.length=es.length:=by simp [coverL]
 have hlhs : reaches (coverL es) i k=true ↔ (s.chain < (rowL es i).length∧s.seq≤grt (nearL es e.id) s.chain):=by
  unfold reaches
  rw [if_neg (by omega),if_neg (by omega),if_neg (by omega),if_neg (by show ¬ ((sps es).length : Int)≤k; omega)]
  simp only [Int.toNat_natCast,hrow]
  rw [show (coverL es).spots[k]? = some s from hs]
  simp only
  have hr:=row_len he
  by_cases hcl : s.chain < (rowL es i).length
  ·have hrc : (rowL es i)[s.chain.toNat]? = some (grt (nearL es e.id) s.chain):=by
    rw [row_at he (by omega),show ((s.chain.toNat : Nat) : Int)=s.chain by omega]
   rw [hrc]
   simp only [Bool.and_eq_true,decide_eq_true_eq]
   constructor
   ·exact fun h=>⟨h.1.2,h.2⟩
   ·exact fun h=>⟨⟨⟨hspot.2.2,hspot.1⟩,h.1⟩,h.2⟩
  ·simp only [Bool.and_eq_true,decide_eq_true_eq]
   constructor
   ·exact fun h=>absurd h.1.2 hcl
   ·exact fun h=>absurd h.1 hcl
 rw [Bool.eq_iff_iff,hlhs,Bool.or_eq_true,decide_eq_true_eq,decide_eq_true_eq,hc]
 constructor
 ·rintro ⟨_,hg⟩
  rcases grt_or (l:=nearL es e.id) (c:=s.chain) with h0 | ⟨t,ht,tc,tq⟩
  ·omega
  ·obtain ⟨j,a,ha,hja,hsj⟩:=(near_mem hv he).1 ht
   rcases hch.rest j k s t f a hs hsj hf ha tc.symm (by omega) with rfl | h
   ·rcases hja with rfl | h
    ·exact .inl rfl
    ·rw [hf] at ha; cases ha; exact .inr h
   ·right
    rcases hja with rfl | hja
    ·rw [he] at ha; cases ha; exact h
    ·exact h.least (fun z hz=>.step hja (by rw [authOf_at (hv.pos ha) ha]; exact hz)) fun y hy x hx=>.step hy hx
 ·intro h
  have hki : k≤i:=by
   rcases h with rfl | h
   ·exact Nat.le_refl _
   ·have:=anc_lt hv he h k (hv.pos hf)
    omega
  have hn : s∈nearL es e.id:=(near_mem hv he).2 ⟨k,f,hf,h.imp (fun h=>h.symm) id,hs⟩
  refine ⟨?_,grt_le hn rfl⟩
  rw [row_len he]
  have hs' : (cov es (i + 1)).1[k]? = some s:=by
   rw [← hs]
   exact (cov_prefix (by omega) (by omega) (Nat.le_refl _)).symm
  have:=(chn hv (n:=i + 1) (by omega)).spot s (List.mem_of_getElem? hs')
  omega
end Go.Proofs.YtmgdkkhnjkepiaaGreat.BX
namespace Go.Proofs.YtmgdkkhnjkepiaaGreat.BX
open Nat (reduceEqDiff reduceLT reduceLeDiff reduceAdd reduceMul reduceSub)
set_option linter.unusedSectionVars false
set_option linter.unusedSimpArgs false
set_option linter.unusedVariables false
open Go Go.RowKit
set_option maxRecDepth 20000
set_option maxHeartbeats 400000
variable [Bd]
theorem lwHas (xs:List (List UInt8)) (s:List UInt8) : Con P0 46 [eStringS xs,.s s] (.t (.b (decide (s∈xs)))) []:=by
 refine Con.intro (fn:=Tryz.f46) [.tmp 4] (fun _=>(0,[])) mixed (by kernel_rfl) rfl (by decide) rfl (by rfl) (by kernel_rfl) ?_
 simp -implicitDefEqProofs (maxSteps:=2000000) only [push_cast,reduceEqDiff,reduceLT,reduceLeDiff,reduceAdd,reduceMul,reduceSub,Nat.reduceBEq,↓reduceIte,reduceCtorEq]
 refine WL.loop (ι:=Nat) (D:=(fun _=>(0,[]))) (fun i=>i≤xs.length∧∀ c∈xs.take i,c≠s) (fun i=>⟨18,[(0,.t (eStringS xs)),(1,.t (.s s)),(5,.t (.i .i64 i))],[]⟩) (fun i=>xs.length - i) mixed (by kernel_rfl) 0 ⟨by omega,by simp⟩ (Keep.wk (ids:=[]) ?_) ?_
 ·simp only [push_cast,reduceEqDiff,reduceLT,reduceLeDiff,reduceAdd,reduceMul,reduceSub,Nat.reduceBEq,↓reduceIte,reduceCtorEq]<;>rfl
 ·rintro i ⟨hi,hc⟩
  simp -implicitDefEqProofs (maxSteps:=2000000) only [push_cast,reduceEqDiff,reduceLT,reduceLeDiff,reduceAdd,reduceMul,reduceSub,Nat.reduceBEq,↓reduceIte,reduceCtorEq]
  intro _
  have:=Bd.hi
  split
  ·rename_i h
   refine ⟨by omega,fun a ha=>?_⟩
   rw [Int.toNat_natCast] at ha
   split
   ·rename_i he
    exact congrArg T.b (decide_eq_true (he ▸ List.mem_of_getElem? ha)).symm
   ·rename_i he
    refine ⟨by unfold inI64; omega,i + 1,⟨by omega,take_snoc ha hc he⟩,by omega,Keep.wk (ids:=[]) ?_⟩
    simp only [push_cast,reduceEqDiff,reduceLT,reduceLeDiff,reduceAdd,reduceMul,reduceSub,Nat.reduceBEq,↓reduceIte,reduceCtorEq]<;>rfl
  ·rw [List.take_of_length_le (by omega)] at hc
   exact congrArg T.b (decide_eq_false fun hm=>hc s hm rfl).symm
theorem lwSame (xs ys:List (List UInt8)) : Con P0 44 [eStringS xs,eStringS ys] (.t (.b (decide (xs=ys)))) []:=by
 refine Con.intro (fn:=Tryz.f44) [.tmp 4] (fun i=>if i=6 then (9,[]) else (0,[])) mixed (by kernel_rfl) rfl (by decide) rfl (by rfl) (by kernel_rfl) ?_
 simp -implicitDefEqProofs (maxSteps:=2000000) only [push_cast,reduceEqDiff,reduceLT,reduceLeDiff,reduceAdd,reduceMul,reduceSub,Nat.reduceBEq,↓reduceIte,reduceCtorEq]
 intro _ _
 split
 ·rename_i h
  exact congrArg T.b (decide_eq_false (fun e=>h (by rw [e]))).symm
 ·rename_i h
  have h : xs.length=ys.length:=by omega
  refine WL.loop (ι:=Nat) (D:=(fun i=>if i=6 then (9,[]) else (0,[]))) (fun i=>i≤xs.length∧xs.take i=ys.take i) (fun i=>⟨26,[(0,.t (eStringS xs)),(1,.t (eStringS ys)),(5,.t (.i .i64 i))],[]⟩) (fun i=>xs.length - i) mixed (by kernel_rfl) 0 ⟨by omega,by simp⟩ (Keep.wk (ids:=[]) ?_) ?_
  ·simp only [push_cast,reduceEqDiff,reduceLT,reduceLeDiff,reduceAdd,reduceMul,reduceSub,Nat.reduceBEq,↓reduceIte,reduceCtorEq]<;>rfl
  ·rintro i ⟨h1,h2⟩
   simp -implicitDefEqProofs (maxSteps:=2000000) only [push_cast,reduceEqDiff,reduceLT,reduceLeDiff,reduceAdd,reduceMul,reduceSub,Nat.reduceBEq,↓reduceIte,reduceCtorEq]
   intro hB
   have:=Bd.hi
   split
   ·rename_i hi
    refine ⟨by omega,?_⟩
    rw [Int.toNat_natCast]
    intro a ha
    try dsimp only
    refine ⟨by omega,?_⟩
    intro b hb
    try dsimp only
    split
    ·rename_i hne
     exact congrArg T.b (decide_eq_false (fun e=>absurd hne (by rw [e,hb] at ha; simp [Option.some.inj ha]))).symm
    ·rename_i he
     have he : a=b:=by simpa using he
     subst he
     refine ⟨by unfold inI64; omega,i + 1,⟨by omega,?_⟩,by omega,Keep.wk (ids:=[]) ?_⟩
     ·rw [List.take_add_one,List.take_add_one,h2,ha,hb]
     ·simp only [push_cast,reduceEqDiff,reduceLT,reduceLeDiff,reduceAdd,reduceMul,reduceSub,Nat.reduceBEq,↓reduceIte,reduceCtorEq]<;>rfl
   ·have hi : i=xs.length:=by omega
    subst hi
    rw [List.take_length,h,List.take_length] at h2
    exact congrArg T.b (decide_eq_true h2).symm
end Go.Proofs.YtmgdkkhnjkepiaaGreat.BX
namespace Go.Proofs.YtmgdkkhnjkepiaaGreat.BX
open Nat (reduceEqDiff reduceLT reduceLeDiff reduceAdd reduceMul reduceSub)
set_option linter.unusedSectionVars false
set_option linter.unusedSimpArgs false
set_option linter.unusedVariables false
open Go Go.RowKit
set_option maxRecDepth 20000
set_option maxHeartbeats 400000
variable [Bd]
theorem lawFnReaches (c:List UInt8) (hB:mxs [.sl (c.map eU8)]≤1048576→Bd.B≤2147483648) : Con P0 8 [.sl (c.map eU8)] (.t (.b true)) []:=by
 refine Con.intro (fn:=Tryz.f8) [.tmp 2] (fun i=>if i=11 then (15,[(false,0),(false,1),(false,2),(false,3),(false,4),(false,5),(false,6),(false,7),(true,8),(true,9),(false,10),(false,11),(false,12),(false,13),(false,14)]) else if i=10 then (14,[(false,0),(false,1),(false,2),(false,3),(false,4),(false,5),(false,6),(true,7),(true,8),(false,9),(false,10),(false,11),(false,12),(false,13)]) else (0,[])) mixed (by kernel_rfl) rfl (by decide) rfl (by rfl) (by kernel_rfl) ?_
 simp -implicitDefEqProofs (maxSteps:=2000000) only [push_cast,reduceEqDiff,reduceLT,reduceLeDiff,reduceAdd,reduceMul,reduceSub,Nat.reduceBEq,↓reduceIte,reduceCtorEq]
 intro hlen
 refine iteI (fun h=>trivial) (fun h=>?_)
 have hB:=hB (mxs_cons (by rw [mxCode]; omega) mxs_nil)
 have cA:=anyRoomT c hB
 obtain ⟨hv,h0,h15⟩:=anyE_ok (c:=c)
 generalize anyE c=es at *
 have cM:=makeCoverT es hv hB
 simp only [eRoom] at cA cM
 refine Callx.closed cA rfl rfl (.inl rfl) ?_
 simp -implicitDefEqProofs (maxSteps:=2000000) only [push_cast,reduceEqDiff,reduceLT,reduceLeDiff,reduceAdd,reduceMul,reduceSub,Nat.reduceBEq,↓reduceIte,reduceCtorEq]
 refine Callx.closed cA rfl rfl (.inl rfl) ?_
 simp -implicitDefEqProofs (maxSteps:=2000000) only [push_cast,reduceEqDiff,reduceLT,reduceLeDiff,reduceAdd,reduceMul,reduceSub,Nat.reduceBEq,↓reduceIte,reduceCtorEq]
 refine Callx.closed cM rfl rfl (.inl rfl) ?_
 simp -implicitDefEqProofs (maxSteps:=2000000) only [push_cast,reduceEqDiff,reduceLT,reduceLeDiff,reduceAdd,reduceMul,reduceSub,Nat.reduceBEq,↓reduceIte,reduceCtorEq,eCover]
 have hlo:=Bd.lo
 have hri:=fun (i k:Nat) (e f:Event) (he:es[i]? = some e) (hf:es[k]? = some f)=>reach_is hv he hf
 generalize coverL es=cv at *
 refine WL.loop (ι:=Nat) (D:=(fun i=>if i=11 then (15,[(false,0),(false,1),(false,2),(false,3),(false,4),(false,5),(false,6),(false,7),(true,8),(true,9),(false,10),(false,11),(false,12),(false,13),(false,14)]) else if i=10 then (14,[(false,0),(false,1),(false,2),(false,3),(false,4),(false,5),(false,6),(true,7),(true,8),(false,9),(false,10),(false,11),(false,12),(false,13)]) else (0,[]))) (fun n=>n≤es.length) (fun n=>⟨90,[(0,.t (.sl (c.map eU8))),(2,.t (.b false)),(3,.rf 0 0),(4,.rf 1 0),(6,.t (.i .i64 n))],[.box (.t (eRoom ⟨es⟩)),.box (.t (eCover cv))]⟩) (fun n=>es.length - n) mixed (by kernel_rfl) 0 (by omega) (Keep.wk (ids:=[some 0,some 1]) ?_) ?_
 ·simp only [push_cast,reduceEqDiff,reduceLT,reduceLeDiff,reduceAdd,reduceMul,reduceSub,Nat.reduceBEq,↓reduceIte,reduceCtorEq,eRoom,eCover]<;>trivial
 intro n hn
 simp -implicitDefEqProofs (maxSteps:=2000000) only [push_cast,reduceEqDiff,reduceLT,reduceLeDiff,reduceAdd,reduceMul,reduceSub,Nat.reduceBEq,↓reduceIte,reduceCtorEq,eRoom,eCover]
 intro _
 refine iteI (fun h1=>⟨⟨by omega,by omega⟩,fun e he=>?_⟩) (fun h1=>trivial)
 rw [Int.toNat_natCast] at he
 have cS:=specAuthChain es [e.id] hB
 have cI:=implAuthChain es [e.id] hB
 have hch:=chain_one hv he
 rw [hch.1] at cS cI
 simp only [eRoom,List.map_cons,List.map_nil] at cS cI
 simp -implicitDefEqProofs (maxSteps:=2000000) only [push_cast,reduceEqDiff,reduceLT,reduceLeDiff,reduceAdd,reduceMul,reduceSub,Nat.reduceBEq,↓reduceIte,reduceCtorEq,eEvent]
 refine ⟨rfl,by omega,?_⟩
 refine Mkx.closed cS rfl rfl (.inr ⟨rfl,rfl⟩) ?_
 simp -implicitDefEqProofs (maxSteps:=2000000) only [push_cast,reduceEqDiff,reduceLT,reduceLeDiff,reduceAdd,reduceMul,reduceSub,Nat.reduceBEq,↓reduceIte,reduceCtorEq,eRoom]
 refine CallV.t cA (.inl rfl) ?_
 simp -implicitDefEqProofs (maxSteps:=2000000) only [push_cast,reduceEqDiff,reduceLT,reduceLeDiff,reduceAdd,reduceMul,reduceSub,Nat.reduceBEq,↓reduceIte,reduceCtorEq,eRoom]
 refine ⟨⟨by omega,by omega⟩,fun e' he'=>?_⟩
 rw [Int.toNat_natCast,he] at he'
 cases he'
 simp -implicitDefEqProofs (maxSteps:=2000000) only [push_cast,reduceEqDiff,reduceLT,reduceLeDiff,reduceAdd,reduceMul,reduceSub,Nat.reduceBEq,↓reduceIte,reduceCtorEq,eEvent]
 refine ⟨rfl,by omega,?_⟩
 refine Mkx.closed cI rfl rfl (.inr ⟨rfl,rfl⟩) ?_
 simp -implicitDefEqProofs (maxSteps:=2000000) only [push_cast,reduceEqDiff,reduceLT,reduceLeDiff,reduceAdd,reduceMul,reduceSub,Nat.reduceBEq,↓reduceIte,reduceCtorEq,eRoom]
 refine Callx.closed (lwSame (chainL es [e.id]) (chainL es [e.id])) rfl rfl (.inr ⟨rfl,rfl⟩) ?_
 simp -implicitDefEqProofs (maxSteps:=2000000) only [push_cast,reduceEqDiff,reduceLT,reduceLeDiff,reduceAdd,reduceMul,reduceSub,Nat.reduceBEq,↓reduceIte,reduceCtorEq,eRoom]
 generalize hL : chainL es [e.id]=L at *
 refine WL.loop (ι:=Nat) (D:=(fun i=>if i=11 then (15,[(false,0),(false,1),(false,2),(false,3),(false,4),(false,5),(false,6),(false,7),(true,8),(true,9),(false,10),(false,11),(false,12),(false,13),(false,14)]) else if i=10 then (14,[(false,0),(false,1),(false,2),(false,3),(false,4),(false,5),(false,6),(true,7),(true,8),(false,9),(false,10),(false,11),(false,12),(false,13)]) else (0,[]))) (fun k=>k≤es.length) (fun k=>⟨90,[(0,.t (.sl (c.map eU8))),(2,.t (.b false)),(3,.rf 0 0),(4,.rf 1 0),(6,.t (.i .i64 n)),(7,.sr 2),(11,.t (.i .i64 k))],[.box (.t (eRoom ⟨es⟩)),.box (.t (eCover cv)),.arr 9 1 (.own .leaf) (L.map T.s)]⟩) (fun k=>es.length - k) mixed (by kernel_rfl) 0 (by omega) (Keep.wk (ids:=[some 0,some 1,some 3]) ?_) ?_
 ·simp only [push_cast,reduceEqDiff,reduceLT,reduceLeDiff,reduceAdd,reduceMul,reduceSub,Nat.reduceBEq,↓reduceIte,reduceCtorEq,eRoom,eCover]<;>trivial
 intro k hk
 simp -implicitDefEqProofs (maxSteps:=2000000) only [push_cast,reduceEqDiff,reduceLT,reduceLeDiff,reduceAdd,reduceMul,reduceSub,Nat.reduceBEq,↓reduceIte,reduceCtorEq,eRoom,eCover]
 intro _
 refine iteI (fun h2=>?_) (fun h2=>?_)
 rotate_left
 ·refine ⟨by unfold inI64; omega,n + 1,by omega,by omega,Keep.wk (ids:=[some 0,some 1]) ?_⟩
  simp only [push_cast,reduceEqDiff,reduceLT,reduceLeDiff,reduceAdd,reduceMul,reduceSub,Nat.reduceBEq,↓reduceIte,reduceCtorEq,eRoom,eCover]<;>trivial
 obtain ⟨f,hf⟩ : ∃ x,es[k]? = some x:=⟨_,List.getElem?_eq_getElem (by omega)⟩
 have cR:=implReaches cv n k
 rw [hri n k e f he hf,hL] at cR
 simp only [eCover] at cR
 refine Callx.closed cR rfl rfl (.inl rfl) ?_
 simp -implicitDefEqProofs (maxSteps:=2000000) only [push_cast,reduceEqDiff,reduceLT,reduceLeDiff,reduceAdd,reduceMul,reduceSub,Nat.reduceBEq,↓reduceIte,reduceCtorEq,eRoom]
 refine iteI (fun h3=>?_) (fun h3=>⟨⟨by omega,by omega⟩,fun f' hf'=>?_⟩)
 ·refine iteI (fun h4=>absurd (by rw [decide_eq_true (show n=k by omega)]; rfl) h4) (fun _=>⟨by unfold inI64; omega,k + 1,by omega,by omega,Keep.wk (ids:=[some 0,some 1,some 2]) ?_⟩)
  simp only [push_cast,reduceEqDiff,reduceLT,reduceLeDiff,reduceAdd,reduceMul,reduceSub,Nat.reduceBEq,↓reduceIte,reduceCtorEq,eRoom,eCover]<;>trivial
 ·rw [Int.toNat_natCast,hf] at hf'
  cases hf'
  simp -implicitDefEqProofs (maxSteps:=2000000) only [push_cast,reduceEqDiff,reduceLT,reduceLeDiff,reduceAdd,reduceMul,reduceSub,Nat.reduceBEq,↓reduceIte,reduceCtorEq,eEvent]
  refine Callx.closed (lwHas L f.id) rfl rfl (.inr ⟨rfl,rfl⟩) ?_
  simp -implicitDefEqProofs (maxSteps:=2000000) only [push_cast,reduceEqDiff,reduceLT,reduceLeDiff,reduceAdd,reduceMul,reduceSub,Nat.reduceBEq,↓reduceIte,reduceCtorEq,eRoom]
  refine iteI (fun h4=>absurd (by rw [decide_eq_false (show ¬ n=k by omega)]; rfl) h4) (fun _=>⟨by unfold inI64; omega,k + 1,by omega,by omega,Keep.wk (ids:=[some 0,some 1,some 2]) ?_⟩)
  simp only [push_cast,reduceEqDiff,reduceLT,reduceLeDiff,reduceAdd,reduceMul,reduceSub,Nat.reduceBEq,↓reduceIte,reduceCtorEq,eRoom,eCover]<;>trivial
end Go.Proofs.YtmgdkkhnjkepiaaGreat.BX