/-
  Part 8 of what LFnPrefix leans on: its texts, merged by a program (prune.py), with what it needs alone.
-/
import Derived.Test.YtmgdkkhnjkepiaaGreatQ7
namespace Go.Proofs.YtmgdkkhnjkepiaaGreat.BX
open Nat (reduceEqDiff reduceLT reduceLeDiff reduceAdd reduceMul reduceSub)
set_option linter.unusedSectionVars false
set_option linter.unusedSimpArgs false
set_option linter.unusedVariables false
open Go Go.RowKit
set_option maxRecDepth 20000
set_option maxHeartbeats 400000
def letters : List UInt8:=[113,119,101,114,116,121,117,105,111,112,97,115,100,102]
def tmG (k:Nat) : Int:=100 + (k:Int) % 7
def letterL (i:Nat) : List UInt8:=(letters.take (i + 1)).drop i
def newE (n k:Nat) : Event:=⟨36 :: (letterL ((k + n) % 14) ++ decT n),userT (k / 4 % 16 % 5),[],false,[],tmG k,[],[],[],[]⟩
def cntG (k:Nat) : Nat:=if 5≤k % 8 then 2 + k % 8 / 7 else 1
def posG (n k i:Nat) : Nat:=if k % 3=0 then n - 1 - i % n else n - 1 - (k / 8 % 4 + i * 3) % n
def idG (es:List Event) (p:Nat) : List UInt8:=((es[p]?).map Event.id).getD []
def prevG (es:List Event) (after:List (List Entry)) (k:Nat) : Nat→List (List UInt8) × List (List Entry)
  | 0 => ([],[])
  | i + 1 => if idG es (posG es.length k i)∈(prevG es after k i).1 then prevG es after k i else ((prevG es after k i).1 ++ [idG es (posG es.length k i)],(prevG es after k i).2 ++ [(after[posG es.length k i]?).getD []])
noncomputable def authG (s:List Entry) (ks:List Slot) : List (List UInt8):=ks.filterMap fun x=>if fOk s x.typ x.key=true then some (fId s x.typ x.key) else none
def auth2 (es:List Event) (k:Nat) (a:List (List UInt8)) : List (List UInt8):=if a=[] ∨ k % 32=31 then [idG es 0] else a
def auth3 (es:List Event) (k:Nat) (a:List (List UInt8)) : List (List UInt8):=if k % 16=7∧idG es (es.length - 1) ∉ a then a ++ [idG es (es.length - 1)] else a
def bodyG (es:List Event) (after:List (List Entry)) (b:List UInt8) (p:Nat) : Event × Nat:=contE b (np b p) { newE es.length (nx b p) with prev:=(prevG es after (nx b p) (cntG (nx b p))).1 }
noncomputable def authL (es:List Event) (after:List (List Entry)) (b:List UInt8) (p:Nat) : List (List UInt8):=auth3 es (nx b p) (auth2 es (nx b p) (authG (resR es (prevG es after (nx b p) (cntG (nx b p))).2) (needOf (bodyG es after b p).1)))
noncomputable def growE (es:List Event) (after:List (List Entry)) (b:List UInt8) (p:Nat) : Event:={ (bodyG es after b p).1 with auth:=authL es after b p }
theorem cntG_le {k:Nat} : 1≤cntG k∧cntG k≤3:=by
  unfold cntG
  split<;>omega
theorem posG_lt {n k i:Nat} (h:0 < n) : posG n k i < n:=by
  unfold posG
  split<;>omega
theorem prevG_len {es:List Event} {after:List (List Entry)} {k:Nat} : ∀ {i:Nat},(prevG es after k i).1.length≤i∧(prevG es after k i).2.length=(prevG es after k i).1.length
  | 0 => ⟨Nat.le_refl _,rfl⟩
  | i + 1 => by
    have h:=prevG_len (es:=es) (after:=after) (k:=k) (i:=i)
    unfold prevG
    split
    · omega
    · simp only [List.length_append,List.length_singleton]; omega
theorem contE_auth {b:List UInt8} {p:Nat} {e:Event} : (contE b p e).1.auth=e.auth:=by
  unfold contE
  repeat' split
  all_goals rfl
theorem contE_prev {b:List UInt8} {p:Nat} {e:Event} : (contE b p e).1.prev=e.prev:=by
  unfold contE
  repeat' split
  all_goals rfl
theorem contE_gr {b:List UInt8} {p:Nat} {e:Event} (h:e.grants.length≤11) : (contE b p e).1.grants.length≤11:=by
  unfold contE
  repeat' split
  all_goals first | exact grL_len | exact h
theorem contE_p {b:List UInt8} {p:Nat} {e:Event} (h:p≤b.length) : (contE b p e).2≤b.length:=by
  unfold contE
  repeat' split
  all_goals first | exact grL_p (np_le h) | exact np_le h
variable [Bd]
abbrev evX (e:Event) (x:AV) : AV:=.ag [.t (.s e.id),.t (.s e.sender),.t (.s e.typ),.t (.b e.isState),.t (.s e.key),.t (.i .i64 e.time),.t (eStringS e.prev),x,.t (.s e.value),.t (eGrantS e.grants)]
def auA : List (List UInt8)→AV
  | [] => .ns
  | _ :: _ => .sr 9
def auO : List (List UInt8)→Ob
  | [] => .dead
  | x :: l => .arr 9 1 (.own .leaf) (T.s x :: l.map T.s)
abbrev nwA (n k:Nat) (x:AV) : AV:=.ag [.t (.s (newE n k).id),.t (.s (newE n k).sender),.t (.s []),.t (.b false),.t (.s []),.t (.i .i64 (tmG k)),x,.ns,.t (.s []),.ns]
def pvA : Nat→AV
  | 0 => .ns
  | _ + 1 => .sr 7
def pvO (l:List (List UInt8)) : Nat→Ob
  | 0 => .dead
  | _ + 1 => .arr 9 1 (.own .leaf) (l.map T.s)
abbrev rmO (es:List Event) : Ob:=.arr 42 10 .clo (es.map eEvent)
abbrev afO (after:List (List Entry)) : Ob:=.arr 38 1 .clo (after.map eEntryS)
theorem l2Grow (es:List Event) (after:List (List Entry)) (b:List UInt8) (p:Nat) (hB:Bd.B≤2147483648) (hb:b.length≤1000) (hp:p≤b.length) (hn:0 < es.length) (hm:es.length≤300) (hl:after.length=es.length) : ConM P0 87 [.rf 0 0,.ag [.sr 1],.sr 2] [rdO b p,rmO es,afO after] (.t (eEvent (growE es after b p))) [rdO b (bodyG es after b p).2,rmO es,afO after]:=by
  refine ConM.intro (fn:=Tryz.f87) [.cell 6 42] (fun i=>if i=1000030 then (999999,[]) else if i=1000028 then (999999,[]) else if i=17 then (999999,[]) else if i=1000014 then (999999,[]) else if i=1000007 then (999999,[]) else if i=29 then (10,[(false,0),(false,1),(false,2),(false,3),(false,4),(false,5),(false,6),(false,7),(false,8),(true,9)]) else if i=28 then (16,[]) else if i=23 then (17,[]) else if i=15 then (9,[(false,0),(false,1),(false,2),(false,3),(false,4),(false,5),(false,6),(false,7),(true,8)]) else if i=14 then (10,[]) else if i=3 then (24,[(false,0),(false,1),(false,2),(false,3),(false,4),(false,5),(false,6),(false,7),(false,8),(false,9),(false,10),(false,11),(false,12),(false,13),(false,14),(false,15),(false,16),(false,17),(false,18),(false,19),(false,20),(false,21),(false,22),(true,23)]) else (0,[])) mixed (by kernel_rfl) rfl (by decide) rfl (by rfl) (by kernel_rfl) ?_
  simp -implicitDefEqProofs (maxSteps:=2000000) only [push_cast,reduceEqDiff,reduceLT,reduceLeDiff,reduceAdd,reduceMul,reduceSub,Nat.reduceBEq,↓reduceIte,reduceCtorEq]
  have:=Bd.lo
  have hhi:=Bd.hi
  intro _
  refine Callx.hand [0] (rdNext b p hb hp) (by decide) (by simp only [push_cast,reduceEqDiff,reduceLT,reduceLeDiff,reduceAdd,reduceMul,reduceSub,Nat.reduceBEq,↓reduceIte,reduceCtorEq]) rfl rfl (by simp only [push_cast,reduceEqDiff,reduceLT,reduceLeDiff,reduceAdd,reduceMul,reduceSub,Nat.reduceBEq,↓reduceIte,reduceCtorEq]<;>rfl) rfl (.inr ⟨rfl,by simp only [push_cast,reduceEqDiff,reduceLT,reduceLeDiff,reduceAdd,reduceMul,reduceSub,Nat.reduceBEq,↓reduceIte,reduceCtorEq]⟩) ?_
  simp -implicitDefEqProofs (maxSteps:=2000000) only [push_cast,reduceEqDiff,reduceLT,reduceLeDiff,reduceAdd,reduceMul,reduceSub,Nat.reduceBEq,↓reduceIte,reduceCtorEq]
  have hk:=nx_lt (b:=b) (p:=p)
  have hq:=np_le hp
  obtain ⟨k,hke⟩ : ∃ k,nx b p=k:=⟨_,rfl⟩
  rw [hke] at hk ⊢
  have h64 : inI64 ((k:Int) + es.length):=by unfold inI64; omega
  have e1 : (((k:Int) + es.length) % 14).toNat=(k + es.length) % 14:=by omega
  have e2 : (((k:Int) + es.length) % 14 + 1).toNat=(k + es.length) % 14 + 1:=by omega
  have hll : (letterL ((k + es.length) % 14)).length=1:=by
    unfold letterL
    rw [List.length_drop,List.length_take]
    have : letters.length=14:=rfl
    omega
  rw [e1,e2,show List.drop ((k + es.length) % 14) (List.take ((k + es.length) % 14 + 1) [113,119,101,114,116,121,117,105,111,112,97,115,100,102])=letterL ((k + es.length) % 14) from rfl]
  refine ⟨h64,by omega,by omega,h64,by omega,by omega,by unfold inI64; omega,by omega,by omega,?_⟩
  refine CallV.t (l1Dec es.length (by omega)) (.inl rfl) ?_
  simp -implicitDefEqProofs (maxSteps:=2000000) only [push_cast,reduceEqDiff,reduceLT,reduceLeDiff,reduceAdd,reduceMul,reduceSub,Nat.reduceBEq,↓reduceIte,reduceCtorEq]
  have hdl:=decT_len es.length 15 (by omega)
  have hk64 : inI64 (k:Int):=by unfold inI64; omega
  have e5 : (k:Int) / 4 % 16 % 5=((k / 4 % 16 % 5 : Nat) : Int):=by simp
  rw [e5]
  refine ⟨by omega,by omega,by omega,hk64,by omega,by omega,by omega,by omega,?_⟩
  refine CallV.t (l1User (k / 4 % 16 % 5) (by omega)) (.inl rfl) ?_
  simp -implicitDefEqProofs (maxSteps:=2000000) only [push_cast,reduceEqDiff,reduceLT,reduceLeDiff,reduceAdd,reduceMul,reduceSub,Nat.reduceBEq,↓reduceIte,reduceCtorEq]
  refine ⟨by omega,by omega,by unfold inI64; omega,?_⟩
  refine W.join (ι:=Unit) (D:=(fun i=>if i=1000030 then (999999,[]) else if i=1000028 then (999999,[]) else if i=17 then (999999,[]) else if i=1000014 then (999999,[]) else if i=1000007 then (999999,[]) else if i=29 then (10,[(false,0),(false,1),(false,2),(false,3),(false,4),(false,5),(false,6),(false,7),(false,8),(true,9)]) else if i=28 then (16,[]) else if i=23 then (17,[]) else if i=15 then (9,[(false,0),(false,1),(false,2),(false,3),(false,4),(false,5),(false,6),(false,7),(true,8)]) else if i=14 then (10,[]) else if i=3 then (24,[(false,0),(false,1),(false,2),(false,3),(false,4),(false,5),(false,6),(false,7),(false,8),(false,9),(false,10),(false,11),(false,12),(false,13),(false,14),(false,15),(false,16),(false,17),(false,18),(false,19),(false,20),(false,21),(false,22),(true,23)]) else (0,[]))) (fun _=>True) (fun _=>⟨193,[(0,.rf 0 0),(2,.sr 2),(4,.rf 3 0),(6,.rf 4 0),(7,.t (.i .i64 es.length)),(8,.t (.i .i64 k)),(9,.rf 5 0),(10,.t (.i .i64 (cntG k)))],[rdO b (np b p),rmO es,afO after,.box (.ag [.sr 1]),.box zEv,.box (nwA es.length k .ns)]⟩) mixed (by kernel_rfl) ?_ (fun _ _=>?_)
  · simp -implicitDefEqProofs (maxSteps:=2000000) only [push_cast,reduceEqDiff,reduceLT,reduceLeDiff,reduceAdd,reduceMul,reduceSub,Nat.reduceBEq,↓reduceIte,reduceCtorEq]
    refine ⟨by omega,by omega,iteI (fun h=>?_) (fun h=>?_)⟩
    · have hcn : ((cntG k:Nat) : Int)=2 + (k:Int) % 8 / 7:=by rw [show cntG k=2 + k % 8 / 7 from if_pos (by omega)]; omega
      refine ⟨by omega,by omega,by omega,by omega,by unfold inI64; omega,by unfold inI64; omega,(),Keep.wk (ids:=[some 0,some 1,some 2,some 3,some 4,some 5]) ?_⟩
      simp only [push_cast,reduceEqDiff,reduceLT,reduceLeDiff,reduceAdd,reduceMul,reduceSub,Nat.reduceBEq,↓reduceIte,reduceCtorEq,hcn,zEv,nwA,newE,userT,tmG]<;>rfl
    · have hcn : ((cntG k:Nat) : Int)=1:=by rw [show cntG k=1 from if_neg (by omega)]; rfl
      refine ⟨(),Keep.wk (ids:=[some 0,some 1,some 2,some 3,some 4,some 5]) ?_⟩
      simp only [push_cast,reduceEqDiff,reduceLT,reduceLeDiff,reduceAdd,reduceMul,reduceSub,Nat.reduceBEq,↓reduceIte,reduceCtorEq,hcn,zEv,nwA,newE,userT,tmG]<;>rfl
  simp -implicitDefEqProofs (maxSteps:=2000000) only [push_cast,reduceEqDiff,reduceLT,reduceLeDiff,reduceAdd,reduceMul,reduceSub,Nat.reduceBEq,↓reduceIte,reduceCtorEq]
  have hcl:=cntG_le (k:=k)
  refine ⟨rfl,by omega,?_⟩
  refine WL.loop (ι:=Nat) (D:=(fun i=>if i=1000030 then (999999,[]) else if i=1000028 then (999999,[]) else if i=17 then (999999,[]) else if i=1000014 then (999999,[]) else if i=1000007 then (999999,[]) else if i=29 then (10,[(false,0),(false,1),(false,2),(false,3),(false,4),(false,5),(false,6),(false,7),(false,8),(true,9)]) else if i=28 then (16,[]) else if i=23 then (17,[]) else if i=15 then (9,[(false,0),(false,1),(false,2),(false,3),(false,4),(false,5),(false,6),(false,7),(true,8)]) else if i=14 then (10,[]) else if i=3 then (24,[(false,0),(false,1),(false,2),(false,3),(false,4),(false,5),(false,6),(false,7),(false,8),(false,9),(false,10),(false,11),(false,12),(false,13),(false,14),(false,15),(false,16),(false,17),(false,18),(false,19),(false,20),(false,21),(false,22),(true,23)]) else (0,[]))) (fun i=>i≤cntG k) (fun i=>⟨193,[(0,.rf 0 0),(2,.sr 2),(4,.rf 3 0),(6,.rf 4 0),(7,.t (.i .i64 es.length)),(8,.t (.i .i64 k)),(9,.rf 5 0),(10,.t (.i .i64 (cntG k))),(11,.sr 6),(12,.t (.i .i64 i))],[rdO b (np b p),rmO es,afO after,.box (.ag [.sr 1]),.box zEv,.box (nwA es.length k (pvA i)),afO (prevG es after k i).2,pvO (prevG es after k i).1 i]⟩) (fun i=>cntG k - i) mixed (by kernel_rfl) 0 (by omega) (Wk.trans (Wk.clo 6 rfl) (Keep.wk (ids:=[some 0,some 1,some 2,some 3,some 4,some 5,some 6,none]) ?_)) ?_
  · simp only [push_cast,reduceEqDiff,reduceLT,reduceLeDiff,reduceAdd,reduceMul,reduceSub,Nat.reduceBEq,↓reduceIte,reduceCtorEq,zEv,nwA,pvA,pvO,prevG,List.map_nil]<;>trivial
  intro i hi
  generalize hpn : posG es.length k i=m
  have hmn : m < es.length:=by rw [← hpn]; exact posG_lt hn
  have hpl:=prevG_len (es:=es) (after:=after) (k:=k) (i:=i)
  simp -implicitDefEqProofs (maxSteps:=2000000) only [push_cast,reduceEqDiff,reduceLT,reduceLeDiff,reduceAdd,reduceMul,reduceSub,Nat.reduceBEq,↓reduceIte,reduceCtorEq]
  have hz : ((k:Int) / 8 % 4 + i * 3) % es.length=(((k / 8 % 4 + i * 3) % es.length : Nat) : Int):=by simp
  have hz2 : ((i:Int) % es.length)=((i % es.length : Nat) : Int):=by simp
  have hzl:=Nat.mod_lt (k / 8 % 4 + i * 3) hn
  have hzl2:=Nat.mod_lt i hn
  rw [hz]
  refine iteI (fun h=>?_) (fun h=>?_)
  · refine ⟨by unfold inI64; omega,by omega,by omega,hk64,by omega,by omega,by unfold inI64; omega,by unfold inI64; omega,by omega,by omega,by unfold inI64; omega,?_⟩
    refine W.join (ι:=Unit) (D:=(fun i=>if i=1000030 then (999999,[]) else if i=1000028 then (999999,[]) else if i=17 then (999999,[]) else if i=1000014 then (999999,[]) else if i=1000007 then (999999,[]) else if i=29 then (10,[(false,0),(false,1),(false,2),(false,3),(false,4),(false,5),(false,6),(false,7),(false,8),(true,9)]) else if i=28 then (16,[]) else if i=23 then (17,[]) else if i=15 then (9,[(false,0),(false,1),(false,2),(false,3),(false,4),(false,5),(false,6),(false,7),(true,8)]) else if i=14 then (10,[]) else if i=3 then (24,[(false,0),(false,1),(false,2),(false,3),(false,4),(false,5),(false,6),(false,7),(false,8),(false,9),(false,10),(false,11),(false,12),(false,13),(false,14),(false,15),(false,16),(false,17),(false,18),(false,19),(false,20),(false,21),(false,22),(true,23)]) else (0,[]))) (fun _=>True) (fun _=>⟨193,[(0,.rf 0 0),(2,.sr 2),(4,.rf 3 0),(6,.rf 4 0),(7,.t (.i .i64 es.length)),(8,.t (.i .i64 k)),(9,.rf 5 0),(10,.t (.i .i64 (cntG k))),(11,.sr 6),(12,.t (.i .i64 i)),(13,.t (.i .i64 m))],[rdO b (np b p),rmO es,afO after,.box (.ag [.sr 1]),.box zEv,.box (nwA es.length k (pvA i)),afO (prevG es after k i).2,pvO (prevG es after k i).1 i]⟩) mixed (by kernel_rfl) ?_ (fun _ _=>?_)
    · simp -implicitDefEqProofs (maxSteps:=2000000) only [push_cast,reduceEqDiff,reduceLT,reduceLeDiff,reduceAdd,reduceMul,reduceSub,Nat.reduceBEq,↓reduceIte,reduceCtorEq]
      rw [hz2]
      refine ⟨by omega,by omega,iteI (fun h3=>?_) (fun h3=>?_)⟩
      · have hmz : (m:Int)=(es.length : Int) - 1 - ((i % es.length : Nat) : Int):=by
          rw [← hpn,show posG es.length k i=es.length - 1 - i % es.length from if_pos (by omega)]; omega
        refine ⟨by unfold inI64; omega,by omega,by omega,by unfold inI64; omega,(),Keep.wk (ids:=[some 0,some 1,some 2,some 3,some 4,some 5,some 6,some 7]) ?_⟩
        simp only [push_cast,reduceEqDiff,reduceLT,reduceLeDiff,reduceAdd,reduceMul,reduceSub,Nat.reduceBEq,↓reduceIte,reduceCtorEq,hmz]
        cases i<;>simp only [push_cast,reduceEqDiff,reduceLT,reduceLeDiff,reduceAdd,reduceMul,reduceSub,Nat.reduceBEq,↓reduceIte,reduceCtorEq,pvA,pvO]<;>trivial
      · have hmz : (m:Int)=(es.length : Int) - 1 - (((k / 8 % 4 + i * 3) % es.length : Nat) : Int):=by
          rw [← hpn,show posG es.length k i=es.length - 1 - (k / 8 % 4 + i * 3) % es.length from if_neg (by omega)]; omega
        refine ⟨(),Keep.wk (ids:=[some 0,some 1,some 2,some 3,some 4,some 5,some 6,some 7]) ?_⟩
        simp only [push_cast,reduceEqDiff,reduceLT,reduceLeDiff,reduceAdd,reduceMul,reduceSub,Nat.reduceBEq,↓reduceIte,reduceCtorEq,hmz]
        cases i<;>simp only [push_cast,reduceEqDiff,reduceLT,reduceLeDiff,reduceAdd,reduceMul,reduceSub,Nat.reduceBEq,↓reduceIte,reduceCtorEq,pvA,pvO]<;>trivial
    obtain ⟨em,hem⟩ : ∃ e,es[m]? = some e:=⟨_,List.getElem?_eq_getElem hmn⟩
    obtain ⟨am,ham⟩ : ∃ s,after[m]? = some s:=⟨_,List.getElem?_eq_getElem (by omega)⟩
    have more : ∀ {e1 s1},es[m]? = some e1→after[m]? = some s1→idG es m ∉ (prevG es after k i).1→prevG es after k (i + 1)=((prevG es after k i).1 ++ [e1.id],(prevG es after k i).2 ++ [s1]):=fun {e1 s1} h1 h2 h3=>by
      have : prevG es after k (i + 1)=((prevG es after k i).1 ++ [idG es (posG es.length k i)],(prevG es after k i).2 ++ [(after[posG es.length k i]?).getD []]):=if_neg (by rw [hpn]; exact h3)
      rw [this,hpn,h2]
      unfold idG
      rw [h1]; rfl
    cases i with
    | zero =>
      simp only [nwA,pvA,pvO]
      simp -implicitDefEqProofs (maxSteps:=2000000) only [push_cast,reduceEqDiff,reduceLT,reduceLeDiff,reduceAdd,reduceMul,reduceSub,Nat.reduceBEq,↓reduceIte,reduceCtorEq]
      refine ⟨by omega,by omega,fun e' he'=>?_⟩
      rw [Int.toNat_natCast,hem] at he'
      cases he'
      simp -implicitDefEqProofs (maxSteps:=2000000) only [push_cast,reduceEqDiff,reduceLT,reduceLeDiff,reduceAdd,reduceMul,reduceSub,Nat.reduceBEq,↓reduceIte,reduceCtorEq,eEvent]
      have hH : Con P0 143 [T.sl [],T.s em.id] (.t (.b (decide (em.id∈([] : List (List UInt8)))))) []:=l1Has [] em.id
      refine CallV.t hH (.inr rfl) ?_
      simp -implicitDefEqProofs (maxSteps:=2000000) only [push_cast,reduceEqDiff,reduceLT,reduceLeDiff,reduceAdd,reduceMul,reduceSub,Nat.reduceBEq,↓reduceIte,reduceCtorEq,eEvent]
      refine ⟨by omega,by omega,fun e1 he1=>⟨rfl,by omega,rfl,by omega,by omega,by omega,by omega,fun s1 hs1=>⟨rfl,by omega,rfl,by omega,by omega,by unfold inI64; omega,1,by omega,by omega,Keep.wk (ids:=[some 0,some 1,some 2,some 3,some 4,some 5,some 11,some 9]) ?_⟩⟩⟩
      rw [Int.toNat_natCast] at he1 hs1
      have hnx : prevG es after k 1=_:=more he1 hs1 (by simp [prevG])
      simp only [push_cast,reduceEqDiff,reduceLT,reduceLeDiff,reduceAdd,reduceMul,reduceSub,Nat.reduceBEq,↓reduceIte,reduceCtorEq,hnx,show prevG es after k 0=([],[]) from rfl,List.map_append,List.map_cons,List.map_nil,List.nil_append]<;>first | rfl | trivial
    | succ i =>
      simp only [nwA,pvA,pvO]
      simp -implicitDefEqProofs (maxSteps:=2000000) only [push_cast,reduceEqDiff,reduceLT,reduceLeDiff,reduceAdd,reduceMul,reduceSub,Nat.reduceBEq,↓reduceIte,reduceCtorEq]
      refine ⟨by omega,by omega,fun e' he'=>?_⟩
      rw [Int.toNat_natCast,hem] at he'
      cases he'
      simp -implicitDefEqProofs (maxSteps:=2000000) only [push_cast,reduceEqDiff,reduceLT,reduceLeDiff,reduceAdd,reduceMul,reduceSub,Nat.reduceBEq,↓reduceIte,reduceCtorEq,eEvent]
      refine CallV.t (l1Has (prevG es after k (i + 1)).1 em.id) (.inr rfl) ?_
      simp -implicitDefEqProofs (maxSteps:=2000000) only [push_cast,reduceEqDiff,reduceLT,reduceLeDiff,reduceAdd,reduceMul,reduceSub,Nat.reduceBEq,↓reduceIte,reduceCtorEq,eEvent]
      have hidm : idG es m=em.id:=by unfold idG; rw [hem]; rfl
      refine iteI (fun hx=>?_) (fun hx=>?_)
      · refine ⟨by omega,by omega,fun e1 he1=>⟨rfl,by omega,rfl,by omega,by omega,by omega,by omega,fun s1 hs1=>⟨rfl,by omega,rfl,by omega,by omega,by unfold inI64; omega,i + 1 + 1,by omega,by omega,Keep.wk (ids:=[some 0,some 1,some 2,some 3,some 4,some 5,some 11,some 9]) ?_⟩⟩⟩
        rw [Int.toNat_natCast] at he1 hs1
        have hnx:=more he1 hs1 (by rw [hidm]; simpa using hx)
        simp only [push_cast,reduceEqDiff,reduceLT,reduceLeDiff,reduceAdd,reduceMul,reduceSub,Nat.reduceBEq,↓reduceIte,reduceCtorEq,hnx,List.map_append,List.map_cons,List.map_nil]<;>first | rfl | trivial
      · refine ⟨by unfold inI64; omega,i + 1 + 1,by omega,by omega,Keep.wk (ids:=[some 0,some 1,some 2,some 3,some 4,some 5,some 6,some 7]) ?_⟩
        have hnx : prevG es after k (i + 1 + 1)=prevG es after k (i + 1):=if_pos (by rw [hpn,hidm]; simpa using hx)
        simp only [push_cast,reduceEqDiff,reduceLT,reduceLeDiff,reduceAdd,reduceMul,reduceSub,Nat.reduceBEq,↓reduceIte,reduceCtorEq,hnx]<;>first | rfl | trivial
  · have hi : i=cntG k:=by omega
    subst hi
    obtain ⟨c,hc⟩ : ∃ c,cntG k=c + 1:=⟨cntG k - 1,by omega⟩
    have hbd : bodyG es after b p=contE b (np b p) { newE es.length k with prev:=(prevG es after k (cntG k)).1 }:=by unfold bodyG; rw [hke]
    rw [hc] at hbd hpl ⊢
    simp only [pvA,pvO]
    refine W.cut (ι:=Unit) (D:=(fun i=>if i=1000030 then (999999,[]) else if i=1000028 then (999999,[]) else if i=29 then (10,[(false,0),(false,1),(false,2),(false,3),(false,4),(false,5),(false,6),(false,7),(false,8),(true,9)]) else if i=28 then (16,[]) else if i=23 then (17,[]) else if i=15 then (9,[(false,0),(false,1),(false,2),(false,3),(false,4),(false,5),(false,6),(false,7),(true,8)]) else if i=14 then (10,[]) else if i=3 then (24,[(false,0),(false,1),(false,2),(false,3),(false,4),(false,5),(false,6),(false,7),(false,8),(false,9),(false,10),(false,11),(false,12),(false,13),(false,14),(false,15),(false,16),(false,17),(false,18),(false,19),(false,20),(false,21),(false,22),(true,23)]) else (0,[]))) (fun _=>True) (fun _=>⟨193,[(0,.rf 0 0),(2,.sr 2),(4,.rf 3 0),(6,.rf 4 0),(7,.t (.i .i64 es.length)),(8,.t (.i .i64 k)),(9,.rf 5 0),(11,.sr 6)],[rdO b (np b p),rmO es,afO after,.box (.ag [.sr 1]),.box zEv,.box (evN { newE es.length k with prev:=(prevG es after k ((c + 1))).1 }),afO (prevG es after k ((c + 1))).2]⟩) mixed (by kernel_rfl) () trivial (Wk.trans (Wk.sealBoxP 5 keep7 (ids:=[7]) (by simp only [push_cast,reduceEqDiff,reduceLT,reduceLeDiff,reduceAdd,reduceMul,reduceSub,Nat.reduceBEq,↓reduceIte,reduceCtorEq,boxSeal,sealL,nwA]<;>rfl) rfl) (Keep.wk (ids:=[some 0,some 1,some 2,some 3,some 4,some 5,some 6]) ?_)) (fun _ _=>?_)
    · simp only [push_cast,reduceEqDiff,reduceLT,reduceLeDiff,reduceAdd,reduceMul,reduceSub,Nat.reduceBEq,↓reduceIte,reduceCtorEq,killAll,nwA,zEv]<;>trivial
    simp -implicitDefEqProofs (maxSteps:=2000000) only [push_cast,reduceEqDiff,reduceLT,reduceLeDiff,reduceAdd,reduceMul,reduceSub,Nat.reduceBEq,↓reduceIte,reduceCtorEq]
    refine Callx.hand [0] (l1DrawContent b (np b p) { newE es.length k with prev:=(prevG es after k (c + 1)).1 } hB hb hq) (by decide) (by simp only [push_cast,reduceEqDiff,reduceLT,reduceLeDiff,reduceAdd,reduceMul,reduceSub,Nat.reduceBEq,↓reduceIte,reduceCtorEq]) rfl rfl (by simp only [push_cast,reduceEqDiff,reduceLT,reduceLeDiff,reduceAdd,reduceMul,reduceSub,Nat.reduceBEq,↓reduceIte,reduceCtorEq]<;>rfl) rfl (.inr ⟨rfl,by simp only [push_cast,reduceEqDiff,reduceLT,reduceLeDiff,reduceAdd,reduceMul,reduceSub,Nat.reduceBEq,↓reduceIte,reduceCtorEq]⟩) ?_
    simp -implicitDefEqProofs (maxSteps:=2000000) only [push_cast,reduceEqDiff,reduceLT,reduceLeDiff,reduceAdd,reduceMul,reduceSub,Nat.reduceBEq,↓reduceIte,reduceCtorEq]
    have hAu : (contE b (np b p) { newE es.length k with prev:=(prevG es after k (c + 1)).1 }).1.auth=[]:=contE_auth
    generalize contE b (np b p) { newE es.length k with prev:=(prevG es after k (c + 1)).1 }=ce at *
    obtain ⟨e2,p2⟩:=ce
    generalize hss : (prevG es after k (c + 1)).2=ss at *
    have cR:=specResolve es ss hB
    simp only [eRoom] at cR
    refine Callx.closed cR rfl rfl (.inr ⟨rfl,rfl⟩) ?_
    simp -implicitDefEqProofs (maxSteps:=2000000) only [push_cast,reduceEqDiff,reduceLT,reduceLeDiff,reduceAdd,reduceMul,reduceSub,Nat.reduceBEq,↓reduceIte,reduceCtorEq]
    have cN:=specNeeded e2 hB
    simp only [eEvent,show e2.auth=[] from hAu,List.map_nil] at cN
    refine Callx.closed cN rfl rfl (.inl rfl) ?_
    simp -implicitDefEqProofs (maxSteps:=2000000) only [push_cast,reduceEqDiff,reduceLT,reduceLeDiff,reduceAdd,reduceMul,reduceSub,Nat.reduceBEq,↓reduceIte,reduceCtorEq]
    have hkl:=need_len (e:=e2)
    have hgr : growE es after b p = { e2 with auth:=auth3 es k (auth2 es k (authG (resR es ss) (needOf e2))) }:=by
      unfold growE authL
      rw [hbd,hke,hc,hss]
    rw [hgr,hbd]
    clear hgr cN
    generalize needOf e2=ks at *
    generalize resR es ss=sr at *
    refine WL.loop (ι:=Nat) (D:=(fun i=>if i=1000030 then (999999,[]) else if i=1000028 then (999999,[]) else if i=29 then (10,[(false,0),(false,1),(false,2),(false,3),(false,4),(false,5),(false,6),(false,7),(false,8),(true,9)]) else if i=28 then (16,[]) else if i=23 then (17,[]) else if i=15 then (9,[(false,0),(false,1),(false,2),(false,3),(false,4),(false,5),(false,6),(false,7),(true,8)]) else if i=14 then (10,[]) else if i=3 then (24,[(false,0),(false,1),(false,2),(false,3),(false,4),(false,5),(false,6),(false,7),(false,8),(false,9),(false,10),(false,11),(false,12),(false,13),(false,14),(false,15),(false,16),(false,17),(false,18),(false,19),(false,20),(false,21),(false,22),(true,23)]) else (0,[]))) (fun j=>j≤ks.length) (fun j=>⟨193,[(0,.rf 0 0),(4,.rf 3 0),(6,.rf 4 0),(7,.t (.i .i64 es.length)),(8,.t (.i .i64 k)),(9,.rf 5 0),(14,.sr 7),(16,.sr 8),(17,.t (.i .i64 j))],[rdO b p2,rmO es,afO after,.box (.ag [.sr 1]),.box zEv,.box (evX e2 (auA (authG sr (ks.take j)))),afO ss,enO sr,slO ks,auO (authG sr (ks.take j))]⟩) (fun j=>ks.length - j) mixed (by kernel_rfl) 0 (by omega) (Keep.wk (ids:=[some 0,some 1,some 2,some 3,some 4,some 5,some 6,some 7,some 8,none]) ?_) ?_
    · simp only [push_cast,reduceEqDiff,reduceLT,reduceLeDiff,reduceAdd,reduceMul,reduceSub,Nat.reduceBEq,↓reduceIte,reduceCtorEq,authG,List.take_zero,List.filterMap_nil,auA,auO]<;>trivial
    intro j hj
    have hal : (authG sr (ks.take j)).length≤j:=by
      have:=List.length_filterMap_le (fun x:Slot=>if fOk sr x.typ x.key=true then some (fId sr x.typ x.key) else none) (ks.take j)
      rw [List.length_take] at this
      unfold authG
      omega
    simp -implicitDefEqProofs (maxSteps:=2000000) only [push_cast,reduceEqDiff,reduceLT,reduceLeDiff,reduceAdd,reduceMul,reduceSub,Nat.reduceBEq,↓reduceIte,reduceCtorEq,eSlot]
    intro _
    refine iteI (fun h1=>⟨by omega,by omega,fun q hq=>⟨by omega,by omega,fun q' hq'=>?_⟩⟩) (fun h1=>?_)
    · rw [Int.toNat_natCast] at hq hq'
      rw [hq] at hq'
      cases hq'
      refine CallV.t (specFind sr q.typ q.key) (.inr rfl) ?_
      simp -implicitDefEqProofs (maxSteps:=2000000) only [push_cast,reduceEqDiff,reduceLT,reduceLeDiff,reduceAdd,reduceMul,reduceSub,Nat.reduceBEq,↓reduceIte,reduceCtorEq,eSlot]
      have hsn : authG sr (ks.take (j + 1))=authG sr (ks.take j) ++ (if fOk sr q.typ q.key=true then [fId sr q.typ q.key] else []):=by
        unfold authG
        rw [List.take_add_one,hq,List.filterMap_append]
        simp only [Option.toList_some,List.filterMap_cons,List.filterMap_nil]
        split<;>simp_all
      refine iteI (fun h2=>⟨rfl,by omega,?_⟩) (fun h2=>?_)
      · rw [if_pos h2] at hsn
        rcases ha : authG sr (ks.take j) with _ | ⟨x,l⟩
        · rw [ha] at hsn hal
          simp only [auA,auO]
          simp -implicitDefEqProofs (maxSteps:=2000000) only [push_cast,reduceEqDiff,reduceLT,reduceLeDiff,reduceAdd,reduceMul,reduceSub,Nat.reduceBEq,↓reduceIte,reduceCtorEq]
          refine ⟨rfl,by omega,by omega,by unfold inI64; omega,j + 1,by omega,by omega,Keep.wk (ids:=[some 0,some 1,some 2,some 3,some 4,some 5,some 6,some 7,some 8,some 11]) ?_⟩
          simp only [push_cast,reduceEqDiff,reduceLT,reduceLeDiff,reduceAdd,reduceMul,reduceSub,Nat.reduceBEq,↓reduceIte,reduceCtorEq,hsn,List.nil_append,auA,auO]<;>trivial
        · rw [ha] at hsn hal
          simp only [auA,auO]
          simp -implicitDefEqProofs (maxSteps:=2000000) only [push_cast,reduceEqDiff,reduceLT,reduceLeDiff,reduceAdd,reduceMul,reduceSub,Nat.reduceBEq,↓reduceIte,reduceCtorEq]
          simp only [List.length_cons] at hal
          refine ⟨rfl,by omega,by omega,by unfold inI64; omega,j + 1,by omega,by omega,Keep.wk (ids:=[some 0,some 1,some 2,some 3,some 4,some 5,some 6,some 7,some 8,some 11]) ?_⟩
          simp only [push_cast,reduceEqDiff,reduceLT,reduceLeDiff,reduceAdd,reduceMul,reduceSub,Nat.reduceBEq,↓reduceIte,reduceCtorEq,hsn,List.cons_append,auA,auO,List.map_append,List.map_cons,List.map_nil]<;>trivial
      · rw [if_neg h2,List.append_nil] at hsn
        refine ⟨by unfold inI64; omega,j + 1,by omega,by omega,Keep.wk (ids:=[some 0,some 1,some 2,some 3,some 4,some 5,some 6,some 7,some 8,some 9]) ?_⟩
        rw [hsn]
        rcases ha : authG sr (ks.take j) with _ | ⟨x,l⟩<;>simp only [push_cast,reduceEqDiff,reduceLT,reduceLeDiff,reduceAdd,reduceMul,reduceSub,Nat.reduceBEq,↓reduceIte,reduceCtorEq,auA,auO]<;>trivial
    · have hj : j=ks.length:=by omega
      subst hj
      rw [List.take_length] at hal ⊢
      generalize authG sr ks=a at *
      obtain ⟨em,hem⟩ : ∃ e,es[0]? = some e:=⟨_,List.getElem?_eq_getElem hn⟩
      obtain ⟨en,hen⟩ : ∃ e,es[es.length - 1]? = some e:=⟨_,List.getElem?_eq_getElem (by omega)⟩
      have hid0 : idG es 0=em.id:=by unfold idG; rw [hem]; rfl
      have hidn : idG es (es.length - 1)=en.id:=by unfold idG; rw [hen]; rfl
      refine W.join (ι:=Unit) (D:=(fun i=>if i=1000030 then (999999,[]) else if i=29 then (10,[(false,0),(false,1),(false,2),(false,3),(false,4),(false,5),(false,6),(false,7),(false,8),(true,9)]) else if i=28 then (16,[]) else if i=23 then (17,[]) else if i=15 then (9,[(false,0),(false,1),(false,2),(false,3),(false,4),(false,5),(false,6),(false,7),(true,8)]) else if i=14 then (10,[]) else if i=3 then (24,[(false,0),(false,1),(false,2),(false,3),(false,4),(false,5),(false,6),(false,7),(false,8),(false,9),(false,10),(false,11),(false,12),(false,13),(false,14),(false,15),(false,16),(false,17),(false,18),(false,19),(false,20),(false,21),(false,22),(true,23)]) else (0,[]))) (fun _=>True) (fun _=>⟨193,[(0,.rf 0 0),(4,.rf 3 0),(6,.rf 4 0),(7,.t (.i .i64 es.length)),(8,.t (.i .i64 k)),(9,.rf 5 0)],[rdO b p2,rmO es,afO after,.box (.ag [.sr 1]),.box zEv,.box (evX e2 (.sr 6)),.arr 9 1 (.own .leaf) ((auth2 es k a).map T.s)]⟩) mixed (by kernel_rfl) ?_ (fun _ _=>?_)
      · rcases a with _ | ⟨x,l⟩
        · simp only [auA,auO]
          simp -implicitDefEqProofs (maxSteps:=2000000) only [push_cast,reduceEqDiff,reduceLT,reduceLeDiff,reduceAdd,reduceMul,reduceSub,Nat.reduceBEq,↓reduceIte,reduceCtorEq]
          refine ⟨by omega,by omega,fun e' he'=>?_⟩
          rw [show Int.toNat 0=0 from rfl,hem] at he'
          cases he'
          simp -implicitDefEqProofs (maxSteps:=2000000) only [push_cast,reduceEqDiff,reduceLT,reduceLeDiff,reduceAdd,reduceMul,reduceSub,Nat.reduceBEq,↓reduceIte,reduceCtorEq,eEvent]
          refine ⟨rfl,by omega,(),Keep.wk (ids:=[some 0,some 1,some 2,some 3,some 4,some 5,some 10]) ?_⟩
          rw [show auth2 es k []=[idG es 0] from if_pos (.inl rfl),hid0]
          simp only [push_cast,reduceEqDiff,reduceLT,reduceLeDiff,reduceAdd,reduceMul,reduceSub,Nat.reduceBEq,↓reduceIte,reduceCtorEq,List.map_cons,List.map_nil]<;>trivial
        · simp only [auA,auO]
          simp -implicitDefEqProofs (maxSteps:=2000000) only [push_cast,reduceEqDiff,reduceLT,reduceLeDiff,reduceAdd,reduceMul,reduceSub,Nat.reduceBEq,↓reduceIte,reduceCtorEq]
          simp only [List.length_cons] at hal
          intro _
          refine iteI (fun h1=>by omega) (fun h1=>⟨by omega,by omega,iteI (fun h2=>?_) (fun h2=>?_)⟩)
          · refine ⟨by omega,by omega,fun e' he'=>?_⟩
            rw [show Int.toNat 0=0 from rfl,hem] at he'
            cases he'
            simp -implicitDefEqProofs (maxSteps:=2000000) only [push_cast,reduceEqDiff,reduceLT,reduceLeDiff,reduceAdd,reduceMul,reduceSub,Nat.reduceBEq,↓reduceIte,reduceCtorEq,eEvent]
            refine ⟨rfl,by omega,(),Keep.wk (ids:=[some 0,some 1,some 2,some 3,some 4,some 5,some 10]) ?_⟩
            rw [show auth2 es k (x :: l)=[idG es 0] from if_pos (.inr (by omega)),hid0]
            simp only [push_cast,reduceEqDiff,reduceLT,reduceLeDiff,reduceAdd,reduceMul,reduceSub,Nat.reduceBEq,↓reduceIte,reduceCtorEq,List.map_cons,List.map_nil]<;>trivial
          · refine ⟨(),Keep.wk (ids:=[some 0,some 1,some 2,some 3,some 4,some 5,some 9]) ?_⟩
            rw [show auth2 es k (x :: l)=x :: l from if_neg (by rintro (h | h)<;>first | cases h | omega)]
            simp only [push_cast,reduceEqDiff,reduceLT,reduceLeDiff,reduceAdd,reduceMul,reduceSub,Nat.reduceBEq,↓reduceIte,reduceCtorEq,List.map_cons]<;>trivial
      have ha2 : (auth2 es k a).length≤6:=by
        unfold auth2
        split
        · simp
        · omega
      have hau3 : auth3 es k (auth2 es k a)=auth3 es k (auth2 es k a):=rfl
      conv at hau3=>rhs; unfold auth3
      generalize auth2 es k a=a2 at *
      simp -implicitDefEqProofs (maxSteps:=2000000) only [push_cast,reduceEqDiff,reduceLT,reduceLeDiff,reduceAdd,reduceMul,reduceSub,Nat.reduceBEq,↓reduceIte,reduceCtorEq]
      refine W.join (ι:=Unit) (D:=(fun i=>if i=29 then (10,[(false,0),(false,1),(false,2),(false,3),(false,4),(false,5),(false,6),(false,7),(false,8),(true,9)]) else if i=28 then (16,[]) else if i=23 then (17,[]) else if i=15 then (9,[(false,0),(false,1),(false,2),(false,3),(false,4),(false,5),(false,6),(false,7),(true,8)]) else if i=14 then (10,[]) else if i=3 then (24,[(false,0),(false,1),(false,2),(false,3),(false,4),(false,5),(false,6),(false,7),(false,8),(false,9),(false,10),(false,11),(false,12),(false,13),(false,14),(false,15),(false,16),(false,17),(false,18),(false,19),(false,20),(false,21),(false,22),(true,23)]) else (0,[]))) (fun _=>True) (fun _=>⟨193,[(6,.rf 4 0),(9,.rf 5 0)],[rdO b p2,rmO es,afO after,.dead,.box zEv,.box (.t (eEvent { e2 with auth:=auth3 es k a2 }))]⟩) mixed (by kernel_rfl) ?_ (fun _ _=>?_)
      · simp -implicitDefEqProofs (maxSteps:=2000000) only [push_cast,reduceEqDiff,reduceLT,reduceLeDiff,reduceAdd,reduceMul,reduceSub,Nat.reduceBEq,↓reduceIte,reduceCtorEq]
        have el : ((es.length : Int) - 1).toNat=es.length - 1:=by omega
        refine ⟨by omega,by omega,iteI (fun h1=>⟨by unfold inI64; omega,⟨by omega,by omega⟩,by omega,fun e' he'=>?_⟩) (fun h1=>?_)⟩
        · rw [el,hen] at he'
          cases he'
          simp -implicitDefEqProofs (maxSteps:=2000000) only [push_cast,reduceEqDiff,reduceLT,reduceLeDiff,reduceAdd,reduceMul,reduceSub,Nat.reduceBEq,↓reduceIte,reduceCtorEq,eEvent]
          refine CallV.t (l1Has a2 en.id) (.inr rfl) ?_
          simp -implicitDefEqProofs (maxSteps:=2000000) only [push_cast,reduceEqDiff,reduceLT,reduceLeDiff,reduceAdd,reduceMul,reduceSub,Nat.reduceBEq,↓reduceIte,reduceCtorEq,eEvent]
          refine iteI (fun h2=>⟨by unfold inI64; omega,⟨by omega,by omega⟩,by omega,fun e' he'=>?_⟩) (fun h2=>?_)
          · rw [el,hen] at he'
            cases he'
            rw [if_pos ⟨by omega,by rw [hidn]; simpa using h2⟩] at hau3
            refine ⟨rfl,by omega,rfl,by omega,by omega,(),Wk.trans (Wk.sealBox 5 (y:=eEvent { e2 with auth:=auth3 es k a2 }) (ids:=[8]) ?_ rfl) (Keep.wk (ids:=[some 0,some 1,some 2,none,some 4,some 5]) ?_)⟩
            · rw [hau3,hidn]
              simp only [push_cast,reduceEqDiff,reduceLT,reduceLeDiff,reduceAdd,reduceMul,reduceSub,Nat.reduceBEq,↓reduceIte,reduceCtorEq,boxTake,eEvent,eStringS,List.map_append,List.map_cons,List.map_nil]<;>rfl
            · simp only [push_cast,reduceEqDiff,reduceLT,reduceLeDiff,reduceAdd,reduceMul,reduceSub,Nat.reduceBEq,↓reduceIte,reduceCtorEq,killAll]<;>trivial
          · rw [if_neg (by rintro ⟨_,h⟩; rw [hidn] at h; simp_all)] at hau3
            refine ⟨(),Wk.trans (Wk.sealBox 5 (y:=eEvent { e2 with auth:=auth3 es k a2 }) (ids:=[6]) ?_ rfl) (Keep.wk (ids:=[some 0,some 1,some 2,none,some 4,some 5]) ?_)⟩
            · rw [hau3]
              simp only [push_cast,reduceEqDiff,reduceLT,reduceLeDiff,reduceAdd,reduceMul,reduceSub,Nat.reduceBEq,↓reduceIte,reduceCtorEq,boxTake]<;>rfl
            · simp only [push_cast,reduceEqDiff,reduceLT,reduceLeDiff,reduceAdd,reduceMul,reduceSub,Nat.reduceBEq,↓reduceIte,reduceCtorEq,killAll]<;>trivial
        · rw [if_neg (by rintro ⟨h,_⟩; omega)] at hau3
          refine ⟨(),Wk.trans (Wk.sealBox 5 (y:=eEvent { e2 with auth:=auth3 es k a2 }) (ids:=[6]) ?_ rfl) (Keep.wk (ids:=[some 0,some 1,some 2,none,some 4,some 5]) ?_)⟩
          · rw [hau3]
            simp only [push_cast,reduceEqDiff,reduceLT,reduceLeDiff,reduceAdd,reduceMul,reduceSub,Nat.reduceBEq,↓reduceIte,reduceCtorEq,boxTake]<;>rfl
          · simp only [push_cast,reduceEqDiff,reduceLT,reduceLeDiff,reduceAdd,reduceMul,reduceSub,Nat.reduceBEq,↓reduceIte,reduceCtorEq,killAll]<;>trivial
      simp -implicitDefEqProofs (maxSteps:=2000000) only [push_cast,reduceEqDiff,reduceLT,reduceLeDiff,reduceAdd,reduceMul,reduceSub,Nat.reduceBEq,↓reduceIte,reduceCtorEq]
      exact ⟨rfl,Rest.of [some 0,some 1,some 2] rfl rfl (by simp only [push_cast,reduceEqDiff,reduceLT,reduceLeDiff,reduceAdd,reduceMul,reduceSub,Nat.reduceBEq,↓reduceIte,reduceCtorEq]<;>first | rfl | trivial)⟩
end Go.Proofs.YtmgdkkhnjkepiaaGreat.BX
namespace Go.Proofs.YtmgdkkhnjkepiaaGreat.BX
open Nat (reduceEqDiff reduceLT reduceLeDiff reduceAdd reduceMul reduceSub)
set_option linter.unusedSectionVars false
set_option linter.unusedSimpArgs false
set_option linter.unusedVariables false
open Go Go.RowKit
set_option maxRecDepth 20000
set_option maxHeartbeats 400000
def evC0 : Event:=⟨[36,99,48],[64,97],sCreate,true,[],1,[],[],[],[]⟩
def evA1 : Event:=⟨[36,97,49],[64,97],sMember,true,[64,97],2,[[36,99,48]],[[36,99,48]],sJoin,[]⟩
def evP2 : Event:=⟨[36,112,50],[64,97],sPower,true,[],3,[[36,97,49]],[[36,99,48],[36,97,49]],[],[⟨[64,97],100⟩,⟨[64,98],50⟩]⟩
def evJ3 : Event:=⟨[36,106,51],[64,97],sRules,true,[],4,[[36,112,50]],[[36,99,48],[36,97,49],[36,112,50]],sPublic,[]⟩
def evB4 : Event:=⟨[36,98,52],[64,98],sMember,true,[64,98],5,[[36,106,51]],[[36,99,48],[36,112,50],[36,106,51]],sJoin,[]⟩
def first5 : List Event:=[evC0,evA1,evP2,evJ3,evB4]
theorem code_c0 : codeE [] evC0=0:=by
  unfold codeE cd2 cd3 cd4 cd5 evOk ev2 ev3 ev4 ev5 contentB
  simp [evC0,sCreate,isW,wordB,refsB,allIn,posOf]
theorem valid_nil : Valid []:=fun i e h=>by simp at h
theorem Valid.snoc {es:List Event} {e:Event} (h:Valid es) (he:codeE es e=0) : Valid (es ++ [e]):=fun i x hx=>by
  by_cases hi : i < es.length
  · rw [List.getElem?_append_left hi] at hx
    rw [List.take_append_of_le_length (by omega)]
    exact h i x hx
  · rw [List.getElem?_append_right (by omega)] at hx
    obtain ⟨hl,hx⟩:=List.getElem?_eq_some_iff.1 hx
    have hl : i - es.length < 1:=by simpa using hl
    have hi : i=es.length:=by omega
    subst hi
    rw [List.take_append_of_le_length (by omega),List.take_length]
    simp only [Nat.sub_self,List.getElem_cons_zero] at hx
    rw [← hx]; exact he
theorem posOf_more {es:List Event} {e:Event} {k:List UInt8} {i:Nat} (h:posOf k es=some i) : posOf k (es ++ [e])=some i:=by rw [posOf_snoc,h]; rfl
theorem Fit.more {es:List Event} {e:Event} {s:List Entry} (h:Fit es s) : Fit (es ++ [e]) s:=by
  refine ⟨h.ord,h.ids,fun x hx=>?_⟩
  obtain ⟨j,a,hj,ha,h1,h2,h3⟩:=fitE_at (h.fit x hx)
  have hl:=(List.getElem?_eq_some_iff.1 ha).1
  unfold fitE
  rw [posOf_more hj]
  simp only [List.getElem?_append_left hl,ha,h1,h2,h3,Bool.true_and,decide_true]
structure RS where
  es : List Event
  aft : List (List Entry)
  p : Nat
noncomputable def nextE (b:List UInt8) (start i:Nat) (r:RS) : Event:=if i < start then (first5[i]?).getD evC0 else growE r.es r.aft b r.p
def nextP (b:List UInt8) (start i:Nat) (r:RS) : Nat:=if i < start then r.p else (bodyG r.es r.aft b r.p).2
noncomputable def stepR (b:List UInt8) (start i:Nat) (r:RS) : RS :=
  if codeE r.es (nextE b start i r)=0 then ⟨r.es ++ [nextE b start i r],r.aft ++ [aftL (r.es ++ [nextE b start i r]) r.aft (nextE b start i r)],nextP b start i r⟩
  else ⟨r.es,r.aft,nextP b start i r⟩
noncomputable def runR (b:List UInt8) (start:Nat) : Nat→Nat→RS→RS
  | 0, _, r => r
  | f + 1, i, r => if i < start ∨ r.p < b.length then runR b start f (i + 1) (stepR b start i r) else r
def startR (k:Nat) : Nat:=if 5 < 1 + k % 6 ∨ 64≤k then 5 else 1 + k % 6
def mostR (k l:Nat) : Nat:=if 15 < startR k + 2 + k / 6 % 3 + l / 7 then 15 else startR k + 2 + k / 6 % 3 + l / 7
noncomputable def roomR (b:List UInt8) (p:Nat) : RS:=runR b (startR (nx b p)) (mostR (nx b p) (b.length - np b p)) 0 ⟨[],[],np b p⟩
theorem startR_le {k:Nat} : 1≤startR k∧startR k≤5:=by unfold startR; split<;>omega
theorem mostR_le {k l:Nat} : startR k≤mostR k l∧mostR k l≤15:=by
  have:=startR_le (k:=k)
  unfold mostR; split<;>omega
structure RSok (b:List UInt8) (i:Nat) (r:RS) : Prop where
  val : Valid r.es
  len : r.aft.length=r.es.length
  fit : ∀ s∈r.aft,Fit r.es s
  p : r.p≤b.length
  le : r.es.length≤i
  pos : 0 < i→0 < r.es.length
theorem Valid.fine [Bd] {es:List Event} (h:Valid es) : ∀ x∈es,Fine x:=fun x hx=>by
  obtain ⟨i,hi⟩:=List.mem_iff_getElem?.1 hx
  have hg:=(h.good hi).ok
  have h1:=evOk_refs hg
  have:=evOk_grants hg
  have:=Bd.lo
  refine ⟨?_,?_,?_⟩<;>omega
theorem RSok.has {b:List UInt8} {i:Nat} {r:RS} (h:RSok b i r) {e:Event} (he:codeE r.es e=0) : Has (r.es ++ [e]) r.aft e.prev:=by
  have hg:=good_of he
  refine ⟨(evOk_refs hg.ok).1,fun x hx=>?_⟩
  obtain ⟨k,hk⟩:=Option.isSome_iff_exists.1 (hg.prev x hx)
  have hkl:=posOf_lt hk
  have hl:=h.len
  obtain ⟨s,hs⟩ : ∃ s,r.aft[k]? = some s:=⟨_,List.getElem?_eq_getElem (by omega)⟩
  exact ⟨k,s,posOf_more hk,hs,(h.fit s (List.mem_of_getElem? hs)).more⟩
theorem RSok.next {b:List UInt8} {i start:Nat} {r:RS} (h:RSok b i r) (hp:nextP b start i r≤b.length) (h0:0 < start) : RSok b (i + 1) (stepR b start i r):=by
  have hfirst : i=0→codeE r.es (nextE b start i r)=0:=fun hi=>by
    have : r.es=[]:=List.eq_nil_of_length_eq_zero (by have:=h.le; omega)
    subst hi
    rw [this,show nextE b start 0 r=evC0 from if_pos h0]
    exact code_c0
  unfold stepR
  split
  · rename_i he
    have hv:=h.val.snoc he
    have hat : (r.es ++ [nextE b start i r])[r.es.length]? = some (nextE b start i r):=by rw [List.getElem?_append_right (Nat.le_refl _)]; simp
    have hle:=h.le
    refine ⟨hv,by simp [h.len],fun s hs=>?_,hp,by simp; omega,fun _=>by simp⟩
    rcases List.mem_append.1 hs with hs | hs
    · exact (h.fit s hs).more
    · rw [List.mem_singleton.1 hs]
      exact putE_fit hv (resL_fit hv (h.has he).fits) hat
  · rename_i he
    have hle:=h.le
    refine ⟨h.val,h.len,h.fit,hp,by simp only; omega,fun _=>?_⟩
    rcases Nat.eq_zero_or_pos i with hi | hi
    · exact absurd (hfirst hi) he
    · exact h.pos hi
theorem rs0_ok {b:List UInt8} {p:Nat} (h:p≤b.length) : RSok b 0 ⟨[],[],p⟩:=⟨valid_nil,rfl,by simp,h,Nat.le_refl _,fun h=>absurd h (by omega)⟩
theorem growE_fine [Bd] {es:List Event} {aft:List (List Entry)} {b:List UInt8} {p:Nat} : Fine (growE es aft b p):=by
  have hlo:=Bd.lo
  refine ⟨?_,?_,?_⟩
  · show (bodyG es aft b p).1.prev.length < _
    unfold bodyG
    rw [contE_prev]
    have h1:=prevG_len (es:=es) (after:=aft) (k:=nx b p) (i:=cntG (nx b p))
    have h2:=cntG_le (k:=nx b p)
    show (prevG es aft (nx b p) (cntG (nx b p))).1.length < _
    omega
  · show (authL es aft b p).length < _
    unfold authL
    have h1 : ∀ (s:List Entry) (ks:List Slot),(authG s ks).length≤ks.length:=fun s ks=>List.length_filterMap_le _ _
    have h2:=h1 (resR es (prevG es aft (nx b p) (cntG (nx b p))).2) (needOf (bodyG es aft b p).1)
    have h3:=need_len (e:=(bodyG es aft b p).1)
    generalize authG (resR es (prevG es aft (nx b p) (cntG (nx b p))).2) (needOf (bodyG es aft b p).1)=a at *
    unfold auth3 auth2
    repeat' split
    all_goals try simp only [List.length_append,List.length_cons,List.length_nil]
    all_goals omega
  · show (bodyG es aft b p).1.grants.length < _
    unfold bodyG
    have:=contE_gr (b:=b) (p:=np b p) (e:={ newE es.length (nx b p) with prev:=(prevG es aft (nx b p) (cntG (nx b p))).1 }) (by simp [newE])
    omega
theorem nextE_fine [Bd] {b:List UInt8} {start i:Nat} {r:RS} : Fine (nextE b start i r):=by
  have hlo:=Bd.lo
  unfold nextE
  split
  · have h : ∀ e∈first5,e.prev.length≤3∧e.auth.length≤3∧e.grants.length≤3:=by
      intro e he
      simp only [first5,List.mem_cons,List.not_mem_nil,or_false] at he
      rcases he with rfl | rfl | rfl | rfl | rfl<;>simp [evC0,evA1,evP2,evJ3,evB4]
    have : (first5[i]?).getD evC0∈first5:=by
      rcases hx : first5[i]? with _ | x
      · exact List.mem_cons_self ..
      · exact List.mem_of_getElem? hx
    have:=h _ this
    refine ⟨?_,?_,?_⟩<;>omega
  · exact growE_fine
variable [Bd]
theorem Wk.share {N:Nat} {n:Nat} {tm:List (Nat × AV)} {ob:List Ob} (i:Nat) {e:TypeId} {m:Nat} {sh:Sh} {es:List T} (hi:ob[i]? = some (.arr e m (.own sh) es)) : Wk N ⟨n,tm,ob⟩ ⟨n,tm,ob.set i (.arr e m .clo es)⟩:=by
  intro w0 hv S F a w hN hr
  obtain ⟨vs,k1,k2,k3,k4⟩:=hr.ob i _ hi
  obtain ⟨L,o1,o2,o3⟩:=k2
  obtain ⟨L',f1,f2⟩:=ownEs_foot sh es o1
  have hlt : i < ob.length:=(List.getElem?_eq_some_iff.1 hi).1
  have h1:=hr.write (id:=i) (o':=.arr e m .bor es) hi (by simp) (fun _ _=>rfl) rfl rfl rfl rfl (Nat.le_refl _) rfl ⟨vs,k1,⟨L',f1,fun b hb=>(hr.fown i _ hi rfl b (o3 b (f2 b hb))).2.1⟩,k3,k4⟩ (fun h=>by cases h)
  have h2:=h1.moreS (S':=fun b=>S b ∨ b∈F i) (fun b hb=>.inl hb) (fun b hb=>hb.elim (hr.SB b) fun hb=>(hr.fown i _ hi rfl b hb).2.1) (fun j oj hj hoj b hb hh=>by
    rcases set_get hj with ⟨_,rfl⟩ | ⟨hne,hj'⟩
    · cases hoj
    · rcases hh with hh | hh
      · exact (hr.fown j oj hj' hoj b hb).2.2 hh
      · exact hr.fsep j i oj _ hne hj' hi hoj rfl b hb hh)
  have hi2 : (ob.set i (.arr e m .bor es))[i]? = some (.arr e m .bor es):=by rw [List.getElem?_set_self hlt]
  have h3:=h2.write (id:=i) (o':=.arr e m .clo es) hi2 (by simp) (fun _ _=>rfl) rfl rfl rfl rfl (Nat.le_refl _) rfl ⟨vs,k1,⟨L',f1,fun b hb=>.inr (o3 b (f2 b hb))⟩,k3,k4⟩ (fun h=>by cases h)
  simp only [List.set_set] at h3
  exact ⟨_,_,_,h3⟩
abbrev reO (es:List Event) : Ob:=.arr 42 10 (.own (.ag [.leaf,.leaf,.leaf,.leaf,.leaf,.leaf,.sl 9 1 .leaf,.sl 9 1 .leaf,.leaf,.sl 138 2 (.ag [.leaf,.leaf])])) (es.map eEvent)
theorem l2CopyO (e:Event) (hB:Bd.B≤2147483648) (hf:Fine e) : Con P0 91 [eEvent e] (evAV e 0) (evOb e):=l2Copy e hB hf
theorem l2CopyRoomO (es:List Event) (hB:Bd.B≤2147483648) (hf:∀ e∈es,Fine e) (hl:es.length + 1 < Bd.B) : Con P0 89 [eRoom ⟨es⟩] (.ag [.sr 0]) [reO es]:=by
  refine Con.intro (fn:=Tryz.f89) [.cell 2 36] (fun i=>if i=5 then (9,[(false,0),(false,1),(false,2),(false,3),(false,4),(false,5),(false,6),(true,7),(true,8)]) else (0,[])) mixed (by kernel_rfl) rfl (by decide) rfl (by rfl) (by kernel_rfl) ?_
  simp -implicitDefEqProofs (maxSteps:=2000000) only [push_cast,reduceEqDiff,reduceLT,reduceLeDiff,reduceAdd,reduceMul,reduceSub,Nat.reduceBEq,↓reduceIte,reduceCtorEq,eRoom]
  have:=Bd.lo
  refine ⟨rfl,by omega,?_⟩
  refine WL.loop (ι:=Nat) (D:=(fun i=>if i=5 then (9,[(false,0),(false,1),(false,2),(false,3),(false,4),(false,5),(false,6),(true,7),(true,8)]) else (0,[]))) (fun i=>i≤es.length) (fun i=>⟨26,[(1,.rf 0 0),(2,.rf 1 0),(3,.rf 3 0),(4,.t (.i .i64 i))],[.box (.t (eRoom ⟨es⟩)),.box (.ag [.ns]),reO (es.take i),.box (.ag [.sr 2])]⟩) (fun i=>es.length - i) mixed (by kernel_rfl) 0 (by omega) (Keep.wk (ids:=[some 0,some 1,some 2,some 3]) ?_) ?_
  · simp only [push_cast,reduceEqDiff,reduceLT,reduceLeDiff,reduceAdd,reduceMul,reduceSub,Nat.reduceBEq,↓reduceIte,reduceCtorEq,eRoom,List.take_zero]<;>trivial
  · intro i hi
    simp -implicitDefEqProofs (maxSteps:=2000000) only [push_cast,reduceEqDiff,reduceLT,reduceLeDiff,reduceAdd,reduceMul,reduceSub,Nat.reduceBEq,↓reduceIte,reduceCtorEq,eRoom]
    intro _
    have:=Bd.hi
    refine iteI (fun h=>?_) (fun h=>?_)
    · refine ⟨by omega,fun a ha=>?_⟩
      rw [Int.toNat_natCast] at ha
      have hts : es.take (i + 1)=es.take i ++ [a]:=by rw [List.take_add_one,ha]; rfl
      have cC:=l2CopyO a hB (hf a (List.mem_of_getElem? ha))
      simp only [eEvent] at cC ⊢
      refine Mkx.closed cC rfl rfl (.inl rfl) ?_
      simp -implicitDefEqProofs (maxSteps:=2000000) only [push_cast,reduceEqDiff,reduceLT,reduceLeDiff,reduceAdd,reduceMul,reduceSub,Nat.reduceBEq,↓reduceIte,reduceCtorEq,eEvent]
      have hlt : (es.take i).length=i:=by rw [List.length_take]; omega
      refine ⟨rfl,by omega,rfl,by omega,by omega,by unfold inI64; omega,i + 1,by omega,by omega,Keep.wk (ids:=[some 0,some 1,some 8,some 3]) ?_⟩
      simp only [push_cast,reduceEqDiff,reduceLT,reduceLeDiff,reduceAdd,reduceMul,reduceSub,Nat.reduceBEq,↓reduceIte,reduceCtorEq,hts,List.map_append,List.map_cons,List.map_nil,eEvent]<;>trivial
    · rw [List.take_of_length_le (by omega)]
      exact Close.of [some 2] rfl rfl rfl (by simp only [push_cast,reduceEqDiff,reduceLT,reduceLeDiff,reduceAdd,reduceMul,reduceSub,Nat.reduceBEq,↓reduceIte,reduceCtorEq]<;>rfl) (by simp only [push_cast,reduceEqDiff,reduceLT,reduceLeDiff,reduceAdd,reduceMul,reduceSub,Nat.reduceBEq,↓reduceIte,reduceCtorEq]<;>rfl)
theorem specInsertO (es:List Event) (e:Event) (hB:Bd.B≤2147483648) (hf:∀ x∈es,Fine x) (he:Fine e) (hl:es.length + 1 < Bd.B) : Con P0 35 [eRoom ⟨es⟩,eEvent e] (.tp [.ag [.sr 0],.t (.i .i64 (codeE es e))]) [reO (insE es e)]:=by
  refine Con.intro (fn:=Tryz.f35) [.cell 4 36,.tmp 5] (fun i=>if i=4 then (5,[(false,0),(false,1),(false,2),(true,3),(true,4)]) else (0,[])) mixed (by kernel_rfl) rfl (by decide) rfl (by rfl) (by kernel_rfl) ?_
  simp -implicitDefEqProofs (maxSteps:=2000000) only [push_cast,reduceEqDiff,reduceLT,reduceLeDiff,reduceAdd,reduceMul,reduceSub,Nat.reduceBEq,↓reduceIte,reduceCtorEq,eRoom,eEvent]
  have:=Bd.lo
  refine Callx.closed (l2CopyRoomO es hB hf hl) rfl rfl (.inl rfl) ?_
  simp -implicitDefEqProofs (maxSteps:=2000000) only [push_cast,reduceEqDiff,reduceLT,reduceLeDiff,reduceAdd,reduceMul,reduceSub,Nat.reduceBEq,↓reduceIte,reduceCtorEq,eRoom,eEvent]
  refine Callx.closed (l2Code es e) rfl rfl (.inl rfl) ?_
  simp -implicitDefEqProofs (maxSteps:=2000000) only [push_cast,reduceEqDiff,reduceLT,reduceLeDiff,reduceAdd,reduceMul,reduceSub,Nat.reduceBEq,↓reduceIte,reduceCtorEq,eRoom,eEvent]
  refine iteI (fun h=>?_) (fun h=>?_)
  · refine Mkx.closed (l2CopyO e hB he) rfl rfl (.inl rfl) ?_
    simp -implicitDefEqProofs (maxSteps:=2000000) only [push_cast,reduceEqDiff,reduceLT,reduceLeDiff,reduceAdd,reduceMul,reduceSub,Nat.reduceBEq,↓reduceIte,reduceCtorEq,eRoom,eEvent]
    refine ⟨rfl,by omega,rfl,by omega,hl,?_⟩
    have : insE es e=es ++ [e]:=if_pos h
    rw [this]
    exact Close.of [some 9] rfl rfl rfl (by simp only [push_cast,reduceEqDiff,reduceLT,reduceLeDiff,reduceAdd,reduceMul,reduceSub,Nat.reduceBEq,↓reduceIte,reduceCtorEq]<;>rfl) (by simp only [push_cast,reduceEqDiff,reduceLT,reduceLeDiff,reduceAdd,reduceMul,reduceSub,Nat.reduceBEq,↓reduceIte,reduceCtorEq,List.map_append,List.map_cons,List.map_nil,eEvent]<;>trivial)
  · have : insE es e=es:=if_neg h
    rw [this]
    exact Close.of [some 3] rfl rfl rfl (by simp only [push_cast,reduceEqDiff,reduceLT,reduceLeDiff,reduceAdd,reduceMul,reduceSub,Nat.reduceBEq,↓reduceIte,reduceCtorEq]<;>rfl) (by simp only [push_cast,reduceEqDiff,reduceLT,reduceLeDiff,reduceAdd,reduceMul,reduceSub,Nat.reduceBEq,↓reduceIte,reduceCtorEq]<;>rfl)
theorem l2DrawRoom (b:List UInt8) (p:Nat) (hB:Bd.B≤2147483648) (hb:b.length≤1000) (hp:p≤b.length) : ConM P0 83 [.rf 0 0] [rdO b p] (.tp [.ag [.sr 1],.sr 2]) [rdO b (roomR b p).p,rmO (roomR b p).es,afO (roomR b p).aft]:=by
  refine ConM.intro (fn:=Tryz.f83) [.cell 2 36,.tmp 3] (fun i=>if i=1000018 then (999999,[]) else if i=1000014 then (999999,[]) else if i=1000011 then (999999,[]) else if i=1000008 then (999999,[]) else (0,[])) mixed (by kernel_rfl) rfl (by decide) rfl (by rfl) (by kernel_rfl) ?_
  simp -implicitDefEqProofs (maxSteps:=2000000) only [push_cast,reduceEqDiff,reduceLT,reduceLeDiff,reduceAdd,reduceMul,reduceSub,Nat.reduceBEq,↓reduceIte,reduceCtorEq]
  have:=Bd.lo
  have hhi:=Bd.hi
  refine Callx.hand [0] (rdNext b p hb hp) (by decide) (by simp only [push_cast,reduceEqDiff,reduceLT,reduceLeDiff,reduceAdd,reduceMul,reduceSub,Nat.reduceBEq,↓reduceIte,reduceCtorEq]) rfl rfl (by simp only [push_cast,reduceEqDiff,reduceLT,reduceLeDiff,reduceAdd,reduceMul,reduceSub,Nat.reduceBEq,↓reduceIte,reduceCtorEq]<;>rfl) rfl (.inr ⟨rfl,by simp only [push_cast,reduceEqDiff,reduceLT,reduceLeDiff,reduceAdd,reduceMul,reduceSub,Nat.reduceBEq,↓reduceIte,reduceCtorEq]⟩) ?_
  simp -implicitDefEqProofs (maxSteps:=2000000) only [push_cast,reduceEqDiff,reduceLT,reduceLeDiff,reduceAdd,reduceMul,reduceSub,Nat.reduceBEq,↓reduceIte,reduceCtorEq]
  have hk:=nx_lt (b:=b) (p:=p)
  have hq:=np_le hp
  have hR : roomR b p=runR b (startR (nx b p)) (mostR (nx b p) (b.length - np b p)) 0 ⟨[],[],np b p⟩:=rfl
  rw [hR]
  generalize nx b p=k at *
  generalize np b p=q at *
  clear hR
  refine ⟨rfl,by omega,rfl,by omega,rfl,by omega,rfl,by omega,rfl,by omega,rfl,by omega,rfl,by omega,rfl,by omega,rfl,by omega,rfl,by omega,rfl,by omega,rfl,by omega,by omega,by omega,by unfold inI64; omega,?_⟩
  refine W.join (ι:=Unit) (D:=(fun i=>if i=1000018 then (999999,[]) else if i=1000014 then (999999,[]) else if i=1000011 then (999999,[]) else (0,[]))) (fun _=>True) (fun _=>⟨107,[(0,.rf 0 0),(2,.rf 1 0),(4,.t (.i .i64 k)),(5,.rf 3 0),(6,.sr 4),(7,.t (eEventS first5)),(8,.t (.i .i64 (startR k)))],[rdO b q,.box (.ag [.ns]),rmO [],.box (.ag [.sr 2]),afO []]⟩) mixed (by kernel_rfl) ?_ (fun _ _=>?_)
  · simp -implicitDefEqProofs (maxSteps:=2000000) only [push_cast,reduceEqDiff,reduceLT,reduceLeDiff,reduceAdd,reduceMul,reduceSub,Nat.reduceBEq,↓reduceIte,reduceCtorEq]
    refine iteI (fun h1=>?_) (fun h1=>iteI (fun h2=>?_) (fun h2=>?_))
    · have hs : ((startR k:Nat) : Int)=5:=by rw [show startR k=5 from if_pos (by omega)]; rfl
      refine ⟨(),Wk.trans (Wk.clo 2 rfl) (Wk.trans (Wk.clo 4 rfl) (Wk.trans (Wk.seal (y:=eEventS first5) (ids:=[14]) 7 ?_ rfl) (Keep.wk (ids:=[some 0,some 1,some 2,some 3,some 4]) ?_)))⟩
      · simp only [push_cast,reduceEqDiff,reduceLT,reduceLeDiff,reduceAdd,reduceMul,reduceSub,Nat.reduceBEq,↓reduceIte,reduceCtorEq,getL,first5,evC0,evA1,evP2,evJ3,evB4,List.map_cons,List.map_nil,eEvent]<;>rfl
      simp only [push_cast,reduceEqDiff,reduceLT,reduceLeDiff,reduceAdd,reduceMul,reduceSub,Nat.reduceBEq,↓reduceIte,reduceCtorEq,hs,killAll]<;>trivial
    · have hs : ((startR k:Nat) : Int)=5:=by rw [show startR k=5 from if_pos (by omega)]; rfl
      refine ⟨(),Wk.trans (Wk.clo 2 rfl) (Wk.trans (Wk.clo 4 rfl) (Wk.trans (Wk.seal (y:=eEventS first5) (ids:=[14]) 7 ?_ rfl) (Keep.wk (ids:=[some 0,some 1,some 2,some 3,some 4]) ?_)))⟩
      · simp only [push_cast,reduceEqDiff,reduceLT,reduceLeDiff,reduceAdd,reduceMul,reduceSub,Nat.reduceBEq,↓reduceIte,reduceCtorEq,getL,first5,evC0,evA1,evP2,evJ3,evB4,List.map_cons,List.map_nil,eEvent]<;>rfl
      simp only [push_cast,reduceEqDiff,reduceLT,reduceLeDiff,reduceAdd,reduceMul,reduceSub,Nat.reduceBEq,↓reduceIte,reduceCtorEq,hs,killAll]<;>trivial
    · have hs : ((startR k:Nat) : Int)=1 + (k:Int) % 6:=by rw [show startR k=1 + k % 6 from if_neg (by omega)]; omega
      refine ⟨(),Wk.trans (Wk.clo 2 rfl) (Wk.trans (Wk.clo 4 rfl) (Wk.trans (Wk.seal (y:=eEventS first5) (ids:=[14]) 7 ?_ rfl) (Keep.wk (ids:=[some 0,some 1,some 2,some 3,some 4]) ?_)))⟩
      · simp only [push_cast,reduceEqDiff,reduceLT,reduceLeDiff,reduceAdd,reduceMul,reduceSub,Nat.reduceBEq,↓reduceIte,reduceCtorEq,getL,first5,evC0,evA1,evP2,evJ3,evB4,List.map_cons,List.map_nil,eEvent]<;>rfl
      simp only [push_cast,reduceEqDiff,reduceLT,reduceLeDiff,reduceAdd,reduceMul,reduceSub,Nat.reduceBEq,↓reduceIte,reduceCtorEq,hs,killAll]<;>trivial
  have hsl:=startR_le (k:=k)
  have hml:=mostR_le (k:=k) (l:=b.length - q)
  have hmd : mostR k (b.length - q)=mostR k (b.length - q):=rfl
  conv at hmd=>rhs; unfold mostR
  generalize startR k=start at *
  generalize mostR k (b.length - q)=most at *
  simp -implicitDefEqProofs (maxSteps:=2000000) only [push_cast,reduceEqDiff,reduceLT,reduceLeDiff,reduceAdd,reduceMul,reduceSub,Nat.reduceBEq,↓reduceIte,reduceCtorEq]
  have hk64 : inI64 (k:Int):=by unfold inI64; omega
  refine ⟨by unfold inI64; omega,by omega,by omega,hk64,by omega,by omega,by unfold inI64; omega,?_⟩
  refine Callx.hand [0] (rdLeft b q hb hq) (by decide) (by simp only [push_cast,reduceEqDiff,reduceLT,reduceLeDiff,reduceAdd,reduceMul,reduceSub,Nat.reduceBEq,↓reduceIte,reduceCtorEq]) rfl rfl (by simp only [push_cast,reduceEqDiff,reduceLT,reduceLeDiff,reduceAdd,reduceMul,reduceSub,Nat.reduceBEq,↓reduceIte,reduceCtorEq]<;>rfl) rfl (.inr ⟨rfl,by simp only [push_cast,reduceEqDiff,reduceLT,reduceLeDiff,reduceAdd,reduceMul,reduceSub,Nat.reduceBEq,↓reduceIte,reduceCtorEq]⟩) ?_
  simp -implicitDefEqProofs (maxSteps:=2000000) only [push_cast,reduceEqDiff,reduceLT,reduceLeDiff,reduceAdd,reduceMul,reduceSub,Nat.reduceBEq,↓reduceIte,reduceCtorEq]
  have hl64 : inI64 ((b.length - q : Nat) : Int):=by unfold inI64; omega
  have hl7 : ((b.length - q : Nat) : Int) / 7=(((b.length - q) / 7 : Nat) : Int):=by omega
  generalize hlf : b.length - q=left at *
  rw [hl7]
  refine ⟨by omega,by omega,hl64,by unfold inI64; omega,?_⟩
  refine W.join (ι:=Unit) (D:=(fun i=>if i=1000018 then (999999,[]) else if i=1000014 then (999999,[]) else (0,[]))) (fun _=>True) (fun _=>⟨107,[(0,.rf 0 0),(2,.rf 1 0),(5,.rf 3 0),(6,.sr 4),(7,.t (eEventS first5)),(8,.t (.i .i64 start)),(9,.t (.i .i64 most))],[rdO b q,.box (.ag [.ns]),rmO [],.box (.ag [.sr 2]),afO []]⟩) mixed (by kernel_rfl) ?_ (fun _ _=>?_)
  · simp -implicitDefEqProofs (maxSteps:=2000000) only [push_cast,reduceEqDiff,reduceLT,reduceLeDiff,reduceAdd,reduceMul,reduceSub,Nat.reduceBEq,↓reduceIte,reduceCtorEq]
    refine iteI (fun h1=>?_) (fun h1=>?_)
    · rw [if_pos (by omega)] at hmd
      refine ⟨(),Keep.wk (ids:=[some 0,some 1,some 2,some 3,some 4]) ?_⟩
      simp only [push_cast,reduceEqDiff,reduceLT,reduceLeDiff,reduceAdd,reduceMul,reduceSub,Nat.reduceBEq,↓reduceIte,reduceCtorEq,hmd]<;>trivial
    · rw [if_neg (by omega)] at hmd
      have hmz : (most:Int)=(start:Int) + 2 + (k:Int) / 6 % 3 + ((left / 7 : Nat) : Int):=by omega
      refine ⟨(),Keep.wk (ids:=[some 0,some 1,some 2,some 3,some 4]) ?_⟩
      simp only [push_cast,reduceEqDiff,reduceLT,reduceLeDiff,reduceAdd,reduceMul,reduceSub,Nat.reduceBEq,↓reduceIte,reduceCtorEq,hmz]<;>trivial
  simp -implicitDefEqProofs (maxSteps:=2000000) only [push_cast,reduceEqDiff,reduceLT,reduceLeDiff,reduceAdd,reduceMul,reduceSub,Nat.reduceBEq,↓reduceIte,reduceCtorEq]
  clear hlf hl7 hl64 hmd
  generalize hRR : runR b start most 0 ⟨[],[],q⟩=R
  refine WL.loop (ι:=Nat × RS) (D:=(fun i=>if i=1000018 then (999999,[]) else if i=1000014 then (999999,[]) else (0,[]))) (fun x=>x.1≤most∧RSok b x.1 x.2∧runR b start (most - x.1) x.1 x.2=R) (fun x=>⟨107,[(0,.rf 0 0),(2,.rf 1 0),(5,.rf 3 0),(6,.sr 4),(7,.t (eEventS first5)),(8,.t (.i .i64 start)),(9,.t (.i .i64 most)),(10,.t (.i .i64 x.1))],[rdO b x.2.p,.box (.ag [.ns]),rmO x.2.es,.box (.ag [.sr 2]),afO x.2.aft]⟩) (fun x=>most - x.1) mixed (by kernel_rfl) (0,⟨[],[],q⟩) ⟨by omega,rs0_ok hq,hRR⟩ (Keep.wk (ids:=[some 0,some 1,some 2,some 3,some 4]) ?_) ?_
  · simp only [push_cast,reduceEqDiff,reduceLT,reduceLeDiff,reduceAdd,reduceMul,reduceSub,Nat.reduceBEq,↓reduceIte,reduceCtorEq]<;>trivial
  rintro ⟨i,es,aft,p⟩ ⟨hi,hok,hrun⟩
  simp only at hi hok hrun ⊢
  have hpp:=hok.p
  have hle:=hok.le
  have hla:=hok.len
  simp only at hpp hle hla
  simp -implicitDefEqProofs (maxSteps:=2000000) only [push_cast,reduceEqDiff,reduceLT,reduceLeDiff,reduceAdd,reduceMul,reduceSub,Nat.reduceBEq,↓reduceIte,reduceCtorEq]
  refine W.join (ι:={_u:Unit // i < most∧(i < start ∨ p < b.length)}) (D:=(fun i=>if i=1000018 then (999999,[]) else (0,[]))) (fun _=>True) (fun _=>⟨107,[(0,.rf 0 0),(2,.rf 1 0),(5,.rf 3 0),(6,.sr 4),(7,.t (eEventS first5)),(8,.t (.i .i64 start)),(9,.t (.i .i64 most)),(10,.t (.i .i64 i))],[rdO b p,.box (.ag [.ns]),rmO es,.box (.ag [.sr 2]),afO aft]⟩) mixed (by kernel_rfl) ?_ (fun ih _=>?_)
  · simp -implicitDefEqProofs (maxSteps:=2000000) only [push_cast,reduceEqDiff,reduceLT,reduceLeDiff,reduceAdd,reduceMul,reduceSub,Nat.reduceBEq,↓reduceIte,reduceCtorEq]
    refine iteI (fun h1=>iteI (fun h2=>⟨⟨(),by omega,.inl (by omega)⟩,Keep.wk (ids:=[some 0,some 1,some 2,some 3,some 4]) ?_⟩) (fun h2=>?_)) (fun h1=>?_)
    · simp only [push_cast,reduceEqDiff,reduceLT,reduceLeDiff,reduceAdd,reduceMul,reduceSub,Nat.reduceBEq,↓reduceIte,reduceCtorEq]<;>trivial
    · refine Callx.hand [0] (rdLeft b p hb hpp) (by decide) (by simp only [push_cast,reduceEqDiff,reduceLT,reduceLeDiff,reduceAdd,reduceMul,reduceSub,Nat.reduceBEq,↓reduceIte,reduceCtorEq]) rfl rfl (by simp only [push_cast,reduceEqDiff,reduceLT,reduceLeDiff,reduceAdd,reduceMul,reduceSub,Nat.reduceBEq,↓reduceIte,reduceCtorEq]<;>rfl) rfl (.inr ⟨rfl,by simp only [push_cast,reduceEqDiff,reduceLT,reduceLeDiff,reduceAdd,reduceMul,reduceSub,Nat.reduceBEq,↓reduceIte,reduceCtorEq]⟩) ?_
      simp -implicitDefEqProofs (maxSteps:=2000000) only [push_cast,reduceEqDiff,reduceLT,reduceLeDiff,reduceAdd,reduceMul,reduceSub,Nat.reduceBEq,↓reduceIte,reduceCtorEq]
      refine iteI (fun h3=>⟨⟨(),by omega,.inr (by omega)⟩,Keep.wk (ids:=[some 0,some 1,some 2,some 3,some 4]) ?_⟩) (fun h3=>?_)
      · simp only [push_cast,reduceEqDiff,reduceLT,reduceLeDiff,reduceAdd,reduceMul,reduceSub,Nat.reduceBEq,↓reduceIte,reduceCtorEq]<;>trivial
      · have hend : R=⟨es,aft,p⟩:=by
          rw [← hrun,show most - i=most - i - 1 + 1 by omega]
          exact if_neg (by simp only; omega)
        rw [hend]
        exact Close.of [some 0,some 2,some 4] rfl rfl rfl (by simp only [push_cast,reduceEqDiff,reduceLT,reduceLeDiff,reduceAdd,reduceMul,reduceSub,Nat.reduceBEq,↓reduceIte,reduceCtorEq]<;>first | rfl | trivial) (by simp only [push_cast,reduceEqDiff,reduceLT,reduceLeDiff,reduceAdd,reduceMul,reduceSub,Nat.reduceBEq,↓reduceIte,reduceCtorEq]<;>first | rfl | trivial)
    · have hend : R=⟨es,aft,p⟩:=by
        rw [← hrun,show most - i=0 by omega]
        rfl
      rw [hend]
      exact Close.of [some 0,some 2,some 4] rfl rfl rfl (by simp only [push_cast,reduceEqDiff,reduceLT,reduceLeDiff,reduceAdd,reduceMul,reduceSub,Nat.reduceBEq,↓reduceIte,reduceCtorEq]<;>first | rfl | trivial) (by simp only [push_cast,reduceEqDiff,reduceLT,reduceLeDiff,reduceAdd,reduceMul,reduceSub,Nat.reduceBEq,↓reduceIte,reduceCtorEq]<;>first | rfl | trivial)
  obtain ⟨_,him,hor⟩:=ih
  simp -implicitDefEqProofs (maxSteps:=2000000) only [push_cast,reduceEqDiff,reduceLT,reduceLeDiff,reduceAdd,reduceMul,reduceSub,Nat.reduceBEq,↓reduceIte,reduceCtorEq]
  refine ⟨⟨by omega,by decide⟩,fun a ha=>?_⟩
  rw [show first5[Int.toNat 0]? = some evC0 from rfl] at ha
  cases ha
  refine ⟨rfl,?_⟩
  have hrun' : runR b start (most - (i + 1)) (i + 1) (stepR b start i ⟨es,aft,p⟩)=R:=by
    rw [← hrun,show most - i=most - (i + 1) + 1 by omega]
    exact (if_pos hor).symm
  have hnp : nextP b start i ⟨es,aft,p⟩≤b.length:=by
    unfold nextP
    split
    · exact hpp
    · exact contE_p (np_le hpp)
  have hok':=hok.next hnp (by omega)
  have hfl : first5.length=5:=rfl
  refine W.join (ι:=Unit) (D:=(fun _=>(0,[]))) (fun _=>True) (fun _=>⟨107,[(0,.rf 0 0),(2,.rf 1 0),(5,.rf 3 0),(6,.sr 4),(7,.t (eEventS first5)),(8,.t (.i .i64 start)),(9,.t (.i .i64 most)),(10,.t (.i .i64 i)),(11,.rf 5 0)],[rdO b (nextP b start i ⟨es,aft,p⟩),.box (.ag [.ns]),rmO es,.box (.ag [.sr 2]),afO aft,.box (.t (eEvent (nextE b start i ⟨es,aft,p⟩)))]⟩) mixed (by kernel_rfl) ?_ (fun _ _=>?_)
  · simp -implicitDefEqProofs (maxSteps:=2000000) only [push_cast,reduceEqDiff,reduceLT,reduceLeDiff,reduceAdd,reduceMul,reduceSub,Nat.reduceBEq,↓reduceIte,reduceCtorEq]
    refine iteI (fun h1=>⟨⟨by omega,by omega⟩,fun a ha=>⟨rfl,(),Keep.wk (ids:=[some 0,some 1,some 2,some 3,some 4,some 5]) ?_⟩⟩) (fun h1=>?_)
    · rw [Int.toNat_natCast] at ha
      have e1 : nextE b start i ⟨es,aft,p⟩=a:=by
        rw [show nextE b start i ⟨es,aft,p⟩=(first5[i]?).getD evC0 from if_pos (by omega),ha]; rfl
      rw [e1,show nextP b start i ⟨es,aft,p⟩=p from if_pos (by omega)]
      simp only [push_cast,reduceEqDiff,reduceLT,reduceLeDiff,reduceAdd,reduceMul,reduceSub,Nat.reduceBEq,↓reduceIte,reduceCtorEq]<;>trivial
    · have hpos : 0 < es.length:=hok.pos (by omega)
      refine Callx.hand [0,2,4] (l2Grow es aft b p hB hb hpp hpos (by omega) hla) (by decide) (by simp only [push_cast,reduceEqDiff,reduceLT,reduceLeDiff,reduceAdd,reduceMul,reduceSub,Nat.reduceBEq,↓reduceIte,reduceCtorEq]) rfl rfl (by simp only [push_cast,reduceEqDiff,reduceLT,reduceLeDiff,reduceAdd,reduceMul,reduceSub,Nat.reduceBEq,↓reduceIte,reduceCtorEq]<;>rfl) rfl (.inr ⟨rfl,by simp only [push_cast,reduceEqDiff,reduceLT,reduceLeDiff,reduceAdd,reduceMul,reduceSub,Nat.reduceBEq,↓reduceIte,reduceCtorEq]⟩) ?_
      simp -implicitDefEqProofs (maxSteps:=2000000) only [push_cast,reduceEqDiff,reduceLT,reduceLeDiff,reduceAdd,reduceMul,reduceSub,Nat.reduceBEq,↓reduceIte,reduceCtorEq]
      refine ⟨rfl,(),Keep.wk (ids:=[some 0,some 1,some 2,some 3,some 4,some 5]) ?_⟩
      rw [show nextE b start i ⟨es,aft,p⟩=growE es aft b p from if_neg (by omega),show nextP b start i ⟨es,aft,p⟩=(bodyG es aft b p).2 from if_neg (by omega)]
      simp only [push_cast,reduceEqDiff,reduceLT,reduceLeDiff,reduceAdd,reduceMul,reduceSub,Nat.reduceBEq,↓reduceIte,reduceCtorEq]<;>trivial
  have hfe:=nextE_fine (b:=b) (start:=start) (i:=i) (r:=⟨es,aft,p⟩)
  have hst : stepR b start i ⟨es,aft,p⟩=if codeE es (nextE b start i ⟨es,aft,p⟩)=0 then ⟨es ++ [nextE b start i ⟨es,aft,p⟩],aft ++ [aftL (es ++ [nextE b start i ⟨es,aft,p⟩]) aft (nextE b start i ⟨es,aft,p⟩)],nextP b start i ⟨es,aft,p⟩⟩ else ⟨es,aft,nextP b start i ⟨es,aft,p⟩⟩:=rfl
  generalize nextE b start i ⟨es,aft,p⟩=e at *
  generalize nextP b start i ⟨es,aft,p⟩=p2 at *
  have cI:=specInsertO es e hB hok.val.fine hfe (by omega)
  simp only [eRoom] at cI
  simp -implicitDefEqProofs (maxSteps:=2000000) only [push_cast,reduceEqDiff,reduceLT,reduceLeDiff,reduceAdd,reduceMul,reduceSub,Nat.reduceBEq,↓reduceIte,reduceCtorEq]
  refine Callx.closed cI rfl rfl (.inr ⟨rfl,rfl⟩) ?_
  simp -implicitDefEqProofs (maxSteps:=2000000) only [push_cast,reduceEqDiff,reduceLT,reduceLeDiff,reduceAdd,reduceMul,reduceSub,Nat.reduceBEq,↓reduceIte,reduceCtorEq]
  refine iteI (fun hcd=>?_) (fun hcd=>?_)
  · rw [if_neg hcd] at hst
    rw [hst] at hok' hrun'
    refine ⟨by unfold inI64; omega,(i + 1,⟨es,aft,p2⟩),⟨by simp only; omega,hok',hrun'⟩,by simp only; omega,Keep.wk (ids:=[some 0,some 1,some 2,some 3,some 4]) ?_⟩
    simp only [push_cast,reduceEqDiff,reduceLT,reduceLeDiff,reduceAdd,reduceMul,reduceSub,Nat.reduceBEq,↓reduceIte,reduceCtorEq]<;>trivial
  · have hcd:=Classical.not_not.1 hcd
    rw [if_pos hcd] at hst
    rw [hst] at hok' hrun'
    rw [show insE es e=es ++ [e] from if_pos hcd]
    intro _
    have hll : ((es ++ [e]).length : Int)=es.length + 1:=by simp
    have hie : ((es ++ [e]).length : Int) - 1=(es.length : Int):=by omega
    have hvs:=hok.val.snoc hcd
    have hat : (es ++ [e])[es.length]? = some e:=by rw [List.getElem?_append_right (Nat.le_refl _)]; simp
    have cA:=l7After (es ++ [e]) hvs aft es.length e hat (hok.has hcd) hB
    have hfl':=(putE_fit hvs (resL_fit hvs (hok.has hcd).fits) hat).len
    simp only [eRoom] at cA
    rw [hie]
    refine ⟨by unfold inI64; omega,?_⟩
    refine Callx.closed cA rfl rfl (.inr ⟨rfl,rfl⟩) ?_
    simp -implicitDefEqProofs (maxSteps:=2000000) only [push_cast,reduceEqDiff,reduceLT,reduceLeDiff,reduceAdd,reduceMul,reduceSub,Nat.reduceBEq,↓reduceIte,reduceCtorEq]
    refine ⟨rfl,by omega,rfl,by omega,by omega,by unfold inI64; omega,(i + 1,⟨es ++ [e],aft ++ [aftL (es ++ [e]) aft e],p2⟩),⟨by simp only; omega,hok',hrun'⟩,by simp only; omega,Wk.trans (Wk.share 6 rfl) (Keep.wk (ids:=[some 0,some 1,some 6,some 3,some 10]) ?_)⟩
    simp only [push_cast,reduceEqDiff,reduceLT,reduceLeDiff,reduceAdd,reduceMul,reduceSub,Nat.reduceBEq,↓reduceIte,reduceCtorEq,List.map_append,List.map_cons,List.map_nil]<;>trivial
theorem anyRoom (c:List UInt8) (hB:Bd.B≤2147483648) : Con P0 31 [.sl (c.map eU8)] (.ag [.sr 0]) [rmO (roomR (c.take 1000) 0).es]:=by
  have hcl : (c.take 1000).length≤1000:=by rw [List.length_take]; omega
  refine Con.intro (fn:=Tryz.f31) [.cell 2 36] (fun _=>(0,[])) mixed (by kernel_rfl) rfl (by decide) rfl (by rfl) (by kernel_rfl) ?_
  simp -implicitDefEqProofs (maxSteps:=2000000) only [push_cast,reduceEqDiff,reduceLT,reduceLeDiff,reduceAdd,reduceMul,reduceSub,Nat.reduceBEq,↓reduceIte,reduceCtorEq]
  refine Callx.closed (l1Open c) rfl rfl (.inl rfl) ?_
  simp -implicitDefEqProofs (maxSteps:=2000000) only [push_cast,reduceEqDiff,reduceLT,reduceLeDiff,reduceAdd,reduceMul,reduceSub,Nat.reduceBEq,↓reduceIte,reduceCtorEq]
  refine Callx.hand [1] (l2DrawRoom (c.take 1000) 0 hB hcl (Nat.zero_le _)) (by decide) (by simp only [push_cast,reduceEqDiff,reduceLT,reduceLeDiff,reduceAdd,reduceMul,reduceSub,Nat.reduceBEq,↓reduceIte,reduceCtorEq]) rfl rfl (by simp only [push_cast,reduceEqDiff,reduceLT,reduceLeDiff,reduceAdd,reduceMul,reduceSub,Nat.reduceBEq,↓reduceIte,reduceCtorEq]<;>rfl) rfl (.inr ⟨rfl,by simp only [push_cast,reduceEqDiff,reduceLT,reduceLeDiff,reduceAdd,reduceMul,reduceSub,Nat.reduceBEq,↓reduceIte,reduceCtorEq]⟩) ?_
  simp -implicitDefEqProofs (maxSteps:=2000000) only [push_cast,reduceEqDiff,reduceLT,reduceLeDiff,reduceAdd,reduceMul,reduceSub,Nat.reduceBEq,↓reduceIte,reduceCtorEq]
  exact Close.of [some 2] rfl rfl rfl (by simp only [push_cast,reduceEqDiff,reduceLT,reduceLeDiff,reduceAdd,reduceMul,reduceSub,Nat.reduceBEq,↓reduceIte,reduceCtorEq]<;>rfl) (by simp only [push_cast,reduceEqDiff,reduceLT,reduceLeDiff,reduceAdd,reduceMul,reduceSub,Nat.reduceBEq,↓reduceIte,reduceCtorEq]<;>rfl)
end Go.Proofs.YtmgdkkhnjkepiaaGreat.BX
namespace Go.Proofs.YtmgdkkhnjkepiaaGreat.BX
open Nat (reduceEqDiff reduceLT reduceLeDiff reduceAdd reduceMul reduceSub)
set_option linter.unusedSectionVars false
set_option linter.unusedSimpArgs false
set_option linter.unusedVariables false
open Go Go.RowKit
set_option maxRecDepth 20000
set_option maxHeartbeats 400000
noncomputable def rowGet (es:List Event) (x:List UInt8) (c:Nat) : Int:=match posOf x es with
  | some p => ((rowL es p)[c]?).getD 0
  | none => 0
noncomputable def outF (es:List Event) (l:List (List UInt8)) (c:Nat) : Int:=l.foldl (fun m x=>if rowGet es x c > m then rowGet es x c else m) 0
theorem outF_snoc {es:List Event} {l:List (List UInt8)} {j c:Nat} {x:List UInt8} (h:l[j]? = some x) : outF es (l.take (j + 1)) c=if rowGet es x c > outF es (l.take j) c then rowGet es x c else outF es (l.take j) c:=by
  unfold outF
  rw [List.take_add_one,h,List.foldl_append]
  rfl
theorem max_from {α:Type} {f:α→Int} : ∀ {l:List α} {m:Int},let r:=l.foldl (fun m x=>if f x > m then f x else m) m
    m≤r∧(∀ x∈l,f x≤r)∧(r=m ∨ ∃ x∈l,f x=r)
  | [], m => by simp
  | x :: l, m => by
    simp only [List.foldl_cons]
    obtain ⟨m',hm',q1,q2,q3⟩ : ∃ m',(if f x > m then f x else m)=m' ∧ m≤m' ∧ f x≤m' ∧ (m'=m ∨ f x=m'):=by
      refine ⟨_,rfl,?_,?_,?_⟩
      · split<;>omega
      · split<;>omega
      · split
        · exact .inr rfl
        · exact .inl rfl
    rw [hm']
    obtain ⟨h1,h2,h3⟩:=max_from (f:=f) (l:=l) (m:=m')
    refine ⟨by omega,fun y hy=>?_,?_⟩
    · rcases List.mem_cons.1 hy with rfl | hy
      · omega
      · exact h2 y hy
    · rcases h3 with h3 | ⟨y,hy,h3⟩
      · rw [h3]
        rcases q3 with q3 | q3
        · exact .inl q3
        · exact .inr ⟨x,by simp,q3⟩
      · exact .inr ⟨y,by simp [hy],h3⟩
theorem outF_nn {es:List Event} {l:List (List UInt8)} {c:Nat} : 0≤outF es l c:=(max_from (f:=fun x=>rowGet es x c) (l:=l) (m:=0)).1
theorem outF_le {es:List Event} {l:List (List UInt8)} {c:Nat} {x:List UInt8} (h:x∈l) : rowGet es x c≤outF es l c:=(max_from (f:=fun x=>rowGet es x c) (l:=l) (m:=0)).2.1 x h
theorem outF_or {es:List Event} {l:List (List UInt8)} {c:Nat} : outF es l c=0 ∨ ∃ x∈l,rowGet es x c=outF es l c:=(max_from (f:=fun x=>rowGet es x c) (l:=l) (m:=0)).2.2
theorem row_at {es:List Event} {p:Nat} {a:Event} (ha:es[p]? = some a) {c:Nat} (hc:c < (cov es (p + 1)).2) : (rowL es p)[c]? = some (grt (nearL es a.id) c):=by
  unfold rowL
  rw [ha]
  dsimp only
  rw [List.getElem?_map,List.getElem?_range hc]
  rfl
theorem row_len {es:List Event} {p:Nat} {a:Event} (ha:es[p]? = some a) : (rowL es p).length=(cov es (p + 1)).2:=by
  unfold rowL
  rw [ha]
  simp
theorem cov_last {es:List Event} {n:Nat} {e:Event} {s:Spot} (he:es[n]? = some e) (hs:(cov es (n + 1)).1[n]? = some s) : ∀ b∈(cov es (n + 1)).1,b.chain=s.chain→b.seq≤s.seq:=by
  have hn:=(List.getElem?_eq_some_iff.1 he).1
  have hcl : (cov es n).1.length=n:=cov_len (by omega)
  obtain ⟨last,h1,h2⟩:=lasts_of (es:=es) (n:=n) (by omega)
  obtain ⟨q1,q2⟩:=h1.next h2 he
  have hse : nextSpot es (cov es n).1 (cov es n).2 e.auth=s:=by
    rw [cov_succ he] at hs
    simp only at hs
    rw [List.getElem?_append_right (by omega),hcl,Nat.sub_self] at hs
    simpa using hs
  rw [hse] at q1 q2
  obtain ⟨b1,b2,_⟩:=q1.lo n s hs
  refine (isLast_at hs).1 ((q1.iff hs).2 ?_)
  have hl : s.chain.toNat < (nextLast last s n).length:=by omega
  unfold nextLast at hl ⊢
  rw [List.length_set] at hl
  exact List.getElem?_set_self hl
theorem row_is {es:List Event} (hv:Valid es) {i:Nat} {e:Event} {s:Spot} (he:es[i]? = some e) (hs:(cov es (i + 1)).1[i]? = some s) {c:Nat} (hc:c < (cov es (i + 1)).2) : grt (nearL es e.id) c=if (c:Int)=s.chain then s.seq else outF es e.auth c:=by
  have hi:=(List.getElem?_eq_some_iff.1 he).1
  have hau:=authOf_at (hv.pos he) he
  have hsp : ∀ {k:Nat},k≤i→(sps es)[k]? = (cov es (i + 1)).1[k]?:=fun hk=>cov_prefix (by omega) (by omega) (Nat.le_refl _)
  have hle : ∀ {k:Nat} {a:Event},es[k]? = some a→(k=i ∨ Anc es e.auth a.id)→k≤i:=fun {k a} hk h=>by
    rcases h with h | h
    · omega
    · exact Nat.le_of_lt (anc_lt hv he h k (hv.pos hk))
  split
  · rename_i hcs
    have h1:=(cov_seq (n:=i + 1) (by omega) s (List.mem_of_getElem? hs)).2
    refine grt_is h1 (fun b hb hbc=>?_) (.inr ⟨s,(near_mem hv he).2 ⟨i,e,he,.inl rfl,by rw [hsp (Nat.le_refl _)]; exact hs⟩,hcs.symm,rfl⟩)
    obtain ⟨k,a,hk,hor,hkb⟩:=(near_mem hv he).1 hb
    rw [hsp (hle hk hor)] at hkb
    exact cov_last he hs b (List.mem_of_getElem? hkb) (by omega)
  · rename_i hcs
    refine grt_is outF_nn (fun b hb hbc=>?_) ?_
    · obtain ⟨k,a,hk,hor,hkb⟩:=(near_mem hv he).1 hb
      rcases hor with rfl | hor
      · rw [hsp (Nat.le_refl _),hs] at hkb
        cases hkb
        omega
      · obtain ⟨y,hy,hya⟩:=anc_split hv |>.1 hor
        obtain ⟨p,f,hpi,hpf,hfy,hpp⟩:=pos_ref ((hv.good he).auth y hy)
        have hyau:=authOf_at hpp hpf
        have hkp : k=p ∨ Anc es f.auth a.id:=by
          rcases hya with h | h
          · left
            have:=hv.pos hk
            rw [h,hpp] at this
            cases this; rfl
          · exact .inr (hyau ▸ h)
        have hkle : k≤p:=by
          rcases hkp with h | h
          · omega
          · exact Nat.le_of_lt (anc_lt hv hpf h k (hv.pos hk))
        have hbn : b∈nearL es f.id:=(near_mem hv hpf).2 ⟨k,a,hk,hkp,hkb⟩
        have hkb2 : (cov es (p + 1)).1[k]? = some b:=by
          rw [← hkb]
          exact (cov_prefix (by omega) (by omega) (Nat.le_refl _)).symm
        obtain ⟨last,hl,hll⟩:=lasts_of (es:=es) (n:=p + 1) (by omega)
        obtain ⟨w1,w2,_⟩:=hl.lo k b hkb2
        have hrg : rowGet es y c=grt (nearL es f.id) c:=by
          unfold rowGet
          rw [hpp]
          dsimp only
          rw [row_at hpf (by omega)]
          rfl
        have:=outF_le (es:=es) (c:=c) hy
        rw [hrg] at this
        exact Int.le_trans (grt_le hbn hbc) this
    · rcases outF_or (es:=es) (l:=e.auth) (c:=c) with h | ⟨y,hy,h⟩
      · exact .inl h
      · obtain ⟨p,f,hpi,hpf,hfy,hpp⟩:=pos_ref ((hv.good he).auth y hy)
        have hyau:=authOf_at hpp hpf
        rw [← h]
        by_cases hcp : c < (cov es (p + 1)).2
        · have hrg : rowGet es y c=grt (nearL es f.id) c:=by
            unfold rowGet
            rw [hpp]
            dsimp only
            rw [row_at hpf hcp]
            rfl
          rw [hrg]
          rcases grt_or (l:=nearL es f.id) (c:=(c:Int)) with h0 | ⟨b,hb,q⟩
          · exact .inl h0
          · refine .inr ⟨b,?_,q⟩
            obtain ⟨k,a,hk,hor,hkb⟩:=(near_mem hv hpf).1 hb
            refine (near_mem hv he).2 ⟨k,a,hk,.inr ((anc_split hv).2 ⟨y,hy,?_⟩),hkb⟩
            rcases hor with rfl | hor
            · rw [hpf] at hk; cases hk; exact .inl hfy
            · exact .inr (hyau ▸ hor)
        · left
          unfold rowGet
          rw [hpp]
          dsimp only
          rw [List.getElem?_eq_none (by rw [row_len hpf]; omega)]
          rfl
end Go.Proofs.YtmgdkkhnjkepiaaGreat.BX
namespace Go.Proofs.YtmgdkkhnjkepiaaGreat.BX
open Nat (reduceEqDiff reduceLT reduceLeDiff reduceAdd reduceMul reduceSub)
set_option linter.unusedSectionVars false
set_option linter.unusedSimpArgs false
set_option linter.unusedVariables false
open Go Go.RowKit
set_option maxRecDepth 20000
set_option maxHeartbeats 400000
theorem snocI {l:List Nat} {i:Nat} : List.map (fun n:Nat=>T.i .i64 (n:Int)) l ++ [T.i .i64 (i:Int)]=List.map (fun n:Nat=>T.i .i64 (n:Int)) (l ++ [i]):=by simp
theorem setI {l:List Nat} {i k:Nat} : (List.map (fun n:Nat=>T.i .i64 (n:Int)) l).set k (T.i .i64 (i:Int))=List.map (fun n:Nat=>T.i .i64 (n:Int)) (l.set k i):=by rw [List.map_set]
noncomputable def outs (es:List Event) (l:List (List UInt8)) (x:List UInt8) (n m:Nat) : List Int:=(List.range n).map fun c : Nat=>if c < m then (if rowGet es x c > outF es l c then rowGet es x c else outF es l c) else outF es l c
noncomputable def outL (es:List Event) (l:List (List UInt8)) (n:Nat) : List Int:=(List.range n).map fun c : Nat=>outF es l c
theorem outL_nil {es:List Event} {n:Nat} : (outL es [] n).map (T.i .i64)=List.replicate n (T.i .i64 0):=by
  unfold outL outF
  rw [List.map_map,show ((T.i .i64) ∘ fun c : Nat=>List.foldl (fun m x=>if rowGet es x c > m then rowGet es x c else m) 0 [])=fun _=>T.i .i64 0 from rfl,List.map_const',List.length_range]
theorem outs_zero {es:List Event} {l:List (List UInt8)} {x:List UInt8} {n:Nat} : outs es l x n 0=outL es l n:=by
  unfold outs outL
  exact List.map_congr_left fun c _=>if_neg (by omega)
theorem outs_get {es:List Event} {l:List (List UInt8)} {x:List UInt8} {n m:Nat} (h:m < n) : (outs es l x n m)[m]? = some (outF es l m):=by
  unfold outs
  rw [List.getElem?_map,List.getElem?_range h]
  simp
theorem outs_len {es:List Event} {l:List (List UInt8)} {x:List UInt8} {n m:Nat} : (outs es l x n m).length=n:=by simp [outs]
theorem outL_len {es:List Event} {l:List (List UInt8)} {n:Nat} : (outL es l n).length=n:=by simp [outL]
theorem outs_set {es:List Event} {l:List (List UInt8)} {x:List UInt8} {n m:Nat} (h:m < n) : (outs es l x n m).set m (if rowGet es x m > outF es l m then rowGet es x m else outF es l m)=outs es l x n (m + 1):=by
  refine List.ext_getElem? fun c=>?_
  rw [List.getElem?_set]
  split
  · rename_i hc
    subst hc
    rw [if_pos (by rw [outs_len]; exact h)]
    unfold outs
    rw [List.getElem?_map,List.getElem?_range h]
    simp
  · rename_i hc
    unfold outs
    rw [List.getElem?_map,List.getElem?_map]
    by_cases hcn : c < n
    · rw [List.getElem?_range hcn]
      simp only [Option.map_some]
      by_cases h1 : c < m
      · rw [if_pos h1,if_pos (show c < m + 1 by omega)]
      · rw [if_neg h1,if_neg (show ¬ c < m + 1 by omega)]
    · rw [List.getElem?_eq_none (by simp; omega)]
      rfl
theorem outs_end {es:List Event} {l:List (List UInt8)} {x:List UInt8} {n m j:Nat} (hx:l[j]? = some x) (h:∀ c,m≤c→rowGet es x c=0) : outs es (l.take j) x n m=outL es (l.take (j + 1)) n:=by
  unfold outs outL
  refine List.map_congr_left fun c _=>?_
  rw [outF_snoc hx]
  split
  · rfl
  · rename_i hc
    rw [h c (by omega),if_neg (by have:=outF_nn (es:=es) (l:=l.take j) (c:=c); omega)]
theorem out_row {es:List Event} (hv:Valid es) {i:Nat} {e:Event} {s:Spot} (he:es[i]? = some e) (hs:(cov es (i + 1)).1[i]? = some s) (h0:0≤s.chain) (h1:s.chain < (cov es (i + 1)).2) : (outL es e.auth (cov es (i + 1)).2).set s.chain.toNat s.seq=rowL es i:=by
  have hr : rowL es i=(List.range (cov es (i + 1)).2).map fun c : Nat=>grt (nearL es e.id) (c:Int):=by unfold rowL; rw [he]
  rw [hr]
  refine List.ext_getElem? fun c=>?_
  rw [List.getElem?_set,List.getElem?_map]
  by_cases hc : c < (cov es (i + 1)).2
  · rw [List.getElem?_range hc,Option.map_some,row_is hv he hs hc]
    split
    · rename_i h2
      rw [if_pos (by rw [outL_len]; omega),if_pos (by omega)]
    · rename_i h2
      rw [if_neg (by omega)]
      unfold outL
      rw [List.getElem?_map,List.getElem?_range hc]
      rfl
  · rw [if_neg (by omega),List.getElem?_eq_none (by rw [outL_len]; omega),List.getElem?_eq_none (by simp; omega)]
    rfl
theorem setT {l:List Int} {k:Nat} {v:Int} : (l.map (T.i .i64)).set k (T.i .i64 v)=(l.set k v).map (T.i .i64):=by rw [List.map_set]
variable [Bd]
theorem coverOf (es:List Event) (hv:Valid es) (hB:Bd.B≤2147483648) : Con P0 85 [gT es] (.ag [.sr 0,.sr 1]) [.arr 65 2 (.own (.ag [.leaf,.leaf])) ((coverL es).spots.map eSpot),.arr 66 1 (.own (.sl 3 1 .leaf)) ((coverL es).reach.map eIntS)]:=by
  refine Con.intro (fn:=Tryz.f85) [.cell 2 60] (fun i=>if i=1000016 then (999999,[]) else if i=1000014 then (999999,[]) else if i=21 then (12,[]) else if i=11 then (12,[]) else if i=10 then (11,[(false,0),(false,1),(false,2),(false,3),(false,4),(false,5),(false,6),(false,7),(false,8),(false,9),(true,10)]) else (0,[])) mixed (by kernel_rfl) rfl (by decide) rfl (by rfl) (by kernel_rfl) ?_
  simp -implicitDefEqProofs (maxSteps:=2000000) only [push_cast,reduceEqDiff,reduceLT,reduceLeDiff,reduceAdd,reduceMul,reduceSub,Nat.reduceBEq,↓reduceIte,reduceCtorEq,gT]
  have:=Bd.lo
  have hel:=hv.len
  refine ⟨rfl,by omega,fun hlen=>?_⟩
  refine WL.loop (ι:=Nat × List Nat) (D:=(fun i=>if i=1000016 then (999999,[]) else if i=1000014 then (999999,[]) else if i=21 then (12,[]) else if i=11 then (12,[]) else if i=10 then (11,[(false,0),(false,1),(false,2),(false,3),(false,4),(false,5),(false,6),(false,7),(false,8),(false,9),(true,10)]) else (0,[]))) (fun i=>i.1≤es.length∧Lasts (cov es i.1).1 i.2∧i.2.length=(cov es i.1).2) (fun i=>⟨138,[(0,.t (gT es)),(2,.rf 0 0),(3,.rf 4 0),(4,.sr 1),(21,.t (eEventS es)),(22,.t (.i .i64 es.length)),(23,.t (.i .i64 i.1))],[.box (.ag [.ns,.ns]),.arr 3 1 (.own .leaf) (i.2.map fun n : Nat=>T.i .i64 (n:Int)),.arr 65 2 (.own (.ag [.leaf,.leaf])) ((cov es i.1).1.map eSpot),.arr 66 1 (.own (.sl 3 1 .leaf)) (((List.range i.1).map (rowL es)).map eIntS),.box (.ag [.sr 2,.sr 3])]⟩) (fun i=>es.length - i.1) mixed (by kernel_rfl) (0,[]) ⟨by simp,Lasts.nil,rfl⟩ (Keep.wk (ids:=[some 0,some 2,none,none,some 1]) ?_) ?_
  · simp only [push_cast,reduceEqDiff,reduceLT,reduceLeDiff,reduceAdd,reduceMul,reduceSub,Nat.reduceBEq,↓reduceIte,reduceCtorEq,gT,cov,List.range_zero,List.map_nil]<;>first | rfl | exact ⟨rfl,rfl⟩
  rintro ⟨i,last⟩ ⟨hi,hl,hll⟩
  simp only at hi hl hll
  simp -implicitDefEqProofs (maxSteps:=2000000) only [push_cast,reduceEqDiff,reduceLT,reduceLeDiff,reduceAdd,reduceMul,reduceSub,Nat.reduceBEq,↓reduceIte,reduceCtorEq,gT,eEvent]
  have hhi:=Bd.hi
  refine iteI (fun h=>?_) (fun h=>?_)
  rotate_left
  · rw [show i=es.length by omega]
    exact Close.of [some 2,some 3] rfl rfl rfl (by simp only [push_cast,reduceEqDiff,reduceLT,reduceLeDiff,reduceAdd,reduceMul,reduceSub,Nat.reduceBEq,↓reduceIte,reduceCtorEq]<;>first | rfl | exact ⟨rfl,rfl⟩) (by simp only [push_cast,reduceEqDiff,reduceLT,reduceLeDiff,reduceAdd,reduceMul,reduceSub,Nat.reduceBEq,↓reduceIte,reduceCtorEq,coverL,sps]<;>first | rfl | exact ⟨rfl,rfl⟩)
  refine ⟨by omega,fun e he=>?_⟩
  rw [Int.toNat_natCast] at he
  have hcl : (cov es i).1.length=i:=cov_len (by omega)
  have hchb:=cov_ch (es:=es) (n:=i) (by omega)
  obtain ⟨sp,hsp⟩ : ∃ s,nextSpot es (cov es i).1 (cov es i).2 e.auth=s:=⟨_,rfl⟩
  obtain ⟨hln,hlc⟩:=hl.next hll he
  rw [hsp] at hln hlc
  have hc1 : (cov es (i + 1)).1[i]? = some sp:=by
    rw [cov_succ he,hsp]
    simp only
    rw [List.getElem?_append_right (by omega),hcl,Nat.sub_self]
    rfl
  obtain ⟨bs,bt,bq⟩:=hln.lo i sp hc1
  intro hll2
  refine W.join (ι:=Unit) (D:=(fun i=>if i=1000016 then (999999,[]) else if i=21 then (12,[]) else if i=11 then (12,[]) else if i=10 then (11,[(false,0),(false,1),(false,2),(false,3),(false,4),(false,5),(false,6),(false,7),(false,8),(false,9),(true,10)]) else (0,[]))) (fun _=>True) (fun _=>⟨138,[(0,.t (gT es)),(2,.rf 0 0),(3,.rf 4 0),(4,.sr 1),(5,.t (.i .i64 i)),(6,.rf 5 0),(7,.rf 6 0),(21,.t (eEventS es)),(22,.t (.i .i64 es.length)),(23,.t (.i .i64 i))],[.box (.ag [.ns,.ns]),.arr 3 1 (.own .leaf) (last.map fun n : Nat=>T.i .i64 (n:Int)),.arr 65 2 (.own (.ag [.leaf,.leaf])) ((cov es i).1.map eSpot),.arr 66 1 (.own (.sl 3 1 .leaf)) (((List.range i).map (rowL es)).map eIntS),.box (.ag [.sr 2,.sr 3]),.box (.t (eEvent e)),.box (.ag [.t (.i .i64 sp.chain),.t (.i .i64 sp.seq)])]⟩) mixed (by kernel_rfl) ?_ (fun _ _=>?_)
  · simp -implicitDefEqProofs (maxSteps:=2000000) only [push_cast,reduceEqDiff,reduceLT,reduceLeDiff,reduceAdd,reduceMul,reduceSub,Nat.reduceBEq,↓reduceIte,reduceCtorEq,gT,eEvent]
    intro hal
    refine WL.loop (ι:=Nat) (D:=(fun i=>if i=1000016 then (999999,[]) else if i=21 then (12,[]) else if i=11 then (12,[]) else if i=10 then (11,[(false,0),(false,1),(false,2),(false,3),(false,4),(false,5),(false,6),(false,7),(false,8),(false,9),(true,10)]) else (0,[]))) (fun j=>j≤e.auth.length∧nextSpot es (cov es i).1 (cov es i).2 (e.auth.drop j)=sp) (fun j=>⟨138,[(0,.t (gT es)),(2,.rf 0 0),(3,.rf 4 0),(4,.sr 1),(5,.t (.i .i64 i)),(6,.rf 5 0),(7,.rf 6 0),(21,.t (eEventS es)),(22,.t (.i .i64 es.length)),(23,.t (.i .i64 i)),(32,.t (eStringS e.auth)),(33,.t (.i .i64 e.auth.length)),(34,.t (.i .i64 j))],[.box (.ag [.ns,.ns]),.arr 3 1 (.own .leaf) (last.map fun n : Nat=>T.i .i64 (n:Int)),.arr 65 2 (.own (.ag [.leaf,.leaf])) ((cov es i).1.map eSpot),.arr 66 1 (.own (.sl 3 1 .leaf)) (((List.range i).map (rowL es)).map eIntS),.box (.ag [.sr 2,.sr 3]),.box (.t (eEvent e)),.box (.ag [.t (.i .i64 last.length),.t (.i .i64 1)])]⟩) (fun j=>e.auth.length - j) mixed (by kernel_rfl) 0 ⟨by omega,by simpa using hsp⟩ (Keep.wk (ids:=[some 0,some 1,some 2,some 3,some 4,some 5,some 6]) ?_) ?_
    · simp only [push_cast,reduceEqDiff,reduceLT,reduceLeDiff,reduceAdd,reduceMul,reduceSub,Nat.reduceBEq,↓reduceIte,reduceCtorEq,gT,eEvent]<;>first | rfl | exact ⟨rfl,rfl⟩
    rintro j ⟨hj,hf⟩
    simp -implicitDefEqProofs (maxSteps:=2000000) only [push_cast,reduceEqDiff,reduceLT,reduceLeDiff,reduceAdd,reduceMul,reduceSub,Nat.reduceBEq,↓reduceIte,reduceCtorEq,gT]
    refine iteI (fun h2=>⟨by omega,fun x hx=>?_⟩) (fun h2=>?_)
    · rw [Int.toNat_natCast] at hx
      obtain ⟨k,a,hki,hka,hid,hp⟩:=pos_ref ((hv.good he).auth x (List.mem_of_getElem? hx))
      obtain ⟨s,hs⟩ : ∃ s,(cov es i).1[k]? = some s:=⟨_,List.getElem?_eq_getElem (by omega)⟩
      have hd:=nextSpot_drop (ch:=(cov es i).2) hx hp hs
      rw [hf] at hd
      refine gLook rfl (fun k' hk'=>?_) (fun hk'=>by rw [hp] at hk'; cases hk')
      rw [hp] at hk'; cases hk'
      simp -implicitDefEqProofs (maxSteps:=2000000) only [push_cast,reduceEqDiff,reduceLT,reduceLeDiff,reduceAdd,reduceMul,reduceSub,Nat.reduceBEq,↓reduceIte,reduceCtorEq,gT,eSpot]
      obtain ⟨b1,b2,b3⟩:=hl.lo k s hs
      have hsq:=cov_seq (n:=i) (by omega) s (List.mem_of_getElem? hs)
      have e1 : (Int.toNat (k:Int))=k:=Int.toNat_natCast _
      simp only [e1]
      refine ⟨by omega,by omega,fun s' hs'=>?_⟩
      rw [hs] at hs'; cases hs'
      refine ⟨by omega,by omega,fun l hlk=>?_⟩
      have hif:=hl.iff hs
      rw [hlk] at hif
      refine gLook rfl (fun k' hk'=>?_) (fun hk'=>by rw [hp] at hk'; cases hk')
      rw [hp] at hk'; cases hk'
      simp -implicitDefEqProofs (maxSteps:=2000000) only [push_cast,reduceEqDiff,reduceLT,reduceLeDiff,reduceAdd,reduceMul,reduceSub,Nat.reduceBEq,↓reduceIte,reduceCtorEq,gT,eSpot]
      refine iteI (fun h3=>?_) (fun h3=>?_)
      · rw [if_pos (hif.2 (by congr 1; omega))] at hd
        refine ⟨by unfold inI64; omega,(),Keep.wk (ids:=[some 0,some 1,some 2,some 3,some 4,some 5,some 6]) ?_⟩
        rw [hd]
        simp only [push_cast,reduceEqDiff,reduceLT,reduceLeDiff,reduceAdd,reduceMul,reduceSub,Nat.reduceBEq,↓reduceIte,reduceCtorEq,gT,eEvent]<;>first | rfl | exact ⟨rfl,rfl⟩
      · rw [if_neg (fun h=>h3 (by have:=hif.1 h; cases this; rfl))] at hd
        refine ⟨by unfold inI64; omega,j + 1,⟨by omega,hd.symm⟩,by omega,Keep.wk (ids:=[some 0,some 1,some 2,some 3,some 4,some 5,some 6]) ?_⟩
        simp only [push_cast,reduceEqDiff,reduceLT,reduceLeDiff,reduceAdd,reduceMul,reduceSub,Nat.reduceBEq,↓reduceIte,reduceCtorEq,gT,eSpot]<;>first | rfl | exact ⟨rfl,rfl⟩
    · rw [List.drop_of_length_le (by omega)] at hf
      refine ⟨(),Keep.wk (ids:=[some 0,some 1,some 2,some 3,some 4,some 5,some 6]) ?_⟩
      simp only [push_cast,reduceEqDiff,reduceLT,reduceLeDiff,reduceAdd,reduceMul,reduceSub,Nat.reduceBEq,↓reduceIte,reduceCtorEq,gT,← hf,nextSpot,hll]<;>first | rfl | exact ⟨rfl,rfl⟩
  simp -implicitDefEqProofs (maxSteps:=2000000) only [push_cast,reduceEqDiff,reduceLT,reduceLeDiff,reduceAdd,reduceMul,reduceSub,Nat.reduceBEq,↓reduceIte,reduceCtorEq,gT,eEvent]
  have hnl : nextLast last sp i=(if sp.chain=last.length then last ++ [i] else last).set sp.chain.toNat i:=rfl
  have hl2 : (if sp.chain=last.length then last ++ [i] else last).length < 1000:=by split<;>(try simp)<;>omega
  generalize hg : (if sp.chain=last.length then last ++ [i] else last)=last2 at *
  refine W.join (ι:=Unit) (D:=(fun i=>if i=21 then (12,[]) else if i=11 then (12,[]) else if i=10 then (11,[(false,0),(false,1),(false,2),(false,3),(false,4),(false,5),(false,6),(false,7),(false,8),(false,9),(true,10)]) else (0,[]))) (fun _=>True) (fun _=>⟨138,[(0,.t (gT es)),(2,.rf 0 0),(3,.rf 4 0),(4,.sr 1),(5,.t (.i .i64 i)),(6,.rf 5 0),(7,.rf 6 0),(21,.t (eEventS es)),(22,.t (.i .i64 es.length)),(23,.t (.i .i64 i))],[.box (.ag [.ns,.ns]),.arr 3 1 (.own .leaf) (last2.map fun n : Nat=>T.i .i64 (n:Int)),.arr 65 2 (.own (.ag [.leaf,.leaf])) ((cov es i).1.map eSpot),.arr 66 1 (.own (.sl 3 1 .leaf)) (((List.range i).map (rowL es)).map eIntS),.box (.ag [.sr 2,.sr 3]),.box (.t (eEvent e)),.box (.ag [.t (.i .i64 sp.chain),.t (.i .i64 sp.seq)])]⟩) mixed (by kernel_rfl) ?_ (fun _ _=>?_)
  · simp -implicitDefEqProofs (maxSteps:=2000000) only [push_cast,reduceEqDiff,reduceLT,reduceLeDiff,reduceAdd,reduceMul,reduceSub,Nat.reduceBEq,↓reduceIte,reduceCtorEq,gT,eEvent,snocI]
    intro _
    refine iteI (fun h4=>?_) (fun h4=>?_)
    · rw [if_pos h4] at hg
      refine ⟨rfl,by omega,rfl,by omega,by omega,(),Keep.wk (ids:=[some 0,some 8,some 2,some 3,some 4,some 5,some 6]) ?_⟩
      rw [← hg]
      simp only [push_cast,reduceEqDiff,reduceLT,reduceLeDiff,reduceAdd,reduceMul,reduceSub,Nat.reduceBEq,↓reduceIte,reduceCtorEq,gT,eEvent]<;>first | rfl | exact ⟨rfl,rfl⟩
    · rw [if_neg h4] at hg
      refine ⟨(),Keep.wk (ids:=[some 0,some 1,some 2,some 3,some 4,some 5,some 6]) ?_⟩
      rw [← hg]
      simp only [push_cast,reduceEqDiff,reduceLT,reduceLeDiff,reduceAdd,reduceMul,reduceSub,Nat.reduceBEq,↓reduceIte,reduceCtorEq,gT,eEvent]<;>first | rfl | exact ⟨rfl,rfl⟩
  simp -implicitDefEqProofs (maxSteps:=2000000) only [push_cast,reduceEqDiff,reduceLT,reduceLeDiff,reduceAdd,reduceMul,reduceSub,Nat.reduceBEq,↓reduceIte,reduceCtorEq,gT,eEvent,setI]
  have hnll : last2.length=(cov es (i + 1)).2:=by rw [← hlc,hnl,List.length_set]
  rw [hnl,List.length_set] at bt
  refine ⟨by omega,by omega,fun _ _ _=>⟨by omega,by omega,by omega,fun hal=>?_⟩⟩
  rw [Int.toNat_natCast,hnll,← outL_nil (es:=es)]
  refine WL.loop (ι:=Nat) (D:=(fun i=>if i=21 then (12,[]) else if i=11 then (12,[]) else if i=10 then (11,[(false,0),(false,1),(false,2),(false,3),(false,4),(false,5),(false,6),(false,7),(false,8),(false,9),(true,10)]) else (0,[]))) (fun j=>j≤e.auth.length) (fun j=>⟨138,[(0,.t (gT es)),(2,.rf 0 0),(3,.rf 4 0),(4,.sr 1),(5,.t (.i .i64 i)),(6,.rf 5 0),(7,.rf 6 0),(11,.sr 7),(21,.t (eEventS es)),(22,.t (.i .i64 es.length)),(23,.t (.i .i64 i)),(85,.t (eStringS e.auth)),(86,.t (.i .i64 e.auth.length)),(87,.t (.i .i64 j))],[.box (.ag [.ns,.ns]),.arr 3 1 (.own .leaf) ((last2.set sp.chain.toNat i).map fun n : Nat=>T.i .i64 (n:Int)),.arr 65 2 (.own (.ag [.leaf,.leaf])) ((cov es i).1.map eSpot),.arr 66 1 (.own (.sl 3 1 .leaf)) (((List.range i).map (rowL es)).map eIntS),.box (.ag [.sr 2,.sr 3]),.box (.t (eEvent e)),.box (.ag [.t (.i .i64 sp.chain),.t (.i .i64 sp.seq)]),.arr 3 1 (.own .leaf) ((outL es (e.auth.take j) (cov es (i + 1)).2).map (T.i .i64))]⟩) (fun j=>e.auth.length - j) mixed (by kernel_rfl) 0 (by omega) (Keep.wk (ids:=[some 0,some 1,some 2,some 3,some 4,some 5,some 6,some 7]) ?_) ?_
  · simp only [push_cast,reduceEqDiff,reduceLT,reduceLeDiff,reduceAdd,reduceMul,reduceSub,Nat.reduceBEq,↓reduceIte,reduceCtorEq,gT,eEvent,List.take_zero]<;>first | rfl | exact ⟨rfl,rfl⟩
  intro j hj
  simp -implicitDefEqProofs (maxSteps:=2000000) only [push_cast,reduceEqDiff,reduceLT,reduceLeDiff,reduceAdd,reduceMul,reduceSub,Nat.reduceBEq,↓reduceIte,reduceCtorEq,gT,eEvent]
  refine iteI (fun h2=>⟨by omega,fun x hx=>?_⟩) (fun h2=>?_)
  · rw [Int.toNat_natCast] at hx
    obtain ⟨k,a,hki,hka,hid,hp⟩:=pos_ref ((hv.good he).auth x (List.mem_of_getElem? hx))
    refine gLook rfl (fun k' hk'=>?_) (fun hk'=>by rw [hp] at hk'; cases hk')
    rw [hp] at hk'; cases hk'
    simp -implicitDefEqProofs (maxSteps:=2000000) only [push_cast,reduceEqDiff,reduceLT,reduceLeDiff,reduceAdd,reduceMul,reduceSub,Nat.reduceBEq,↓reduceIte,reduceCtorEq,gT,eEvent]
    have e1 : (Int.toNat (k:Int))=k:=Int.toNat_natCast _
    have hrl : (List.range i).length=i:=List.length_range
    simp only [e1,hrl]
    refine ⟨by omega,by omega,fun row hrow hrB=>?_⟩
    rw [List.getElem?_map,List.getElem?_range hki] at hrow
    have hrow : rowL es k=row:=by simpa using hrow
    have hrn : row.length=(cov es (k + 1)).2:=by rw [← hrow]; exact row_len hka
    have hmono:=cov_mono (es:=es) (m:=i + 1) (n:=k + 1) (by omega) (by omega)
    have hget : ∀ c v,row[c]? = some v→rowGet es x c=v:=fun c v hv=>by
      unfold rowGet
      rw [hp]
      dsimp only
      rw [hrow,hv]
      rfl
    have hnone : ∀ c,row.length≤c→rowGet es x c=0:=fun c hc=>by
      unfold rowGet
      rw [hp]
      dsimp only
      rw [hrow,List.getElem?_eq_none hc]
      rfl
    refine WL.loop (ι:=Nat) (D:=(fun i=>if i=21 then (12,[]) else if i=11 then (12,[]) else if i=10 then (11,[(false,0),(false,1),(false,2),(false,3),(false,4),(false,5),(false,6),(false,7),(false,8),(false,9),(true,10)]) else (0,[]))) (fun m=>m≤row.length) (fun m=>⟨138,[(0,.t (gT es)),(2,.rf 0 0),(3,.rf 4 0),(4,.sr 1),(5,.t (.i .i64 i)),(6,.rf 5 0),(7,.rf 6 0),(11,.sr 7),(21,.t (eEventS es)),(22,.t (.i .i64 es.length)),(23,.t (.i .i64 i)),(85,.t (eStringS e.auth)),(86,.t (.i .i64 e.auth.length)),(87,.t (.i .i64 j)),(100,.bw (eIntS row)),(101,.t (.i .i64 row.length)),(102,.t (.i .i64 m))],[.box (.ag [.ns,.ns]),.arr 3 1 (.own .leaf) ((last2.set sp.chain.toNat i).map fun n : Nat=>T.i .i64 (n:Int)),.arr 65 2 (.own (.ag [.leaf,.leaf])) ((cov es i).1.map eSpot),.arr 66 1 (.own (.sl 3 1 .leaf)) (((List.range i).map (rowL es)).map eIntS),.box (.ag [.sr 2,.sr 3]),.box (.t (eEvent e)),.box (.ag [.t (.i .i64 sp.chain),.t (.i .i64 sp.seq)]),.arr 3 1 (.own .leaf) ((outs es (e.auth.take j) x (cov es (i + 1)).2 m).map (T.i .i64))]⟩) (fun m=>row.length - m) mixed (by kernel_rfl) 0 (by omega) (Keep.wk (ids:=[some 0,some 1,some 2,some 3,some 4,some 5,some 6,some 7]) ?_) ?_
    · simp only [push_cast,reduceEqDiff,reduceLT,reduceLeDiff,reduceAdd,reduceMul,reduceSub,Nat.reduceBEq,↓reduceIte,reduceCtorEq,gT,eEvent,outs_zero]<;>first | rfl | exact ⟨rfl,rfl⟩
    intro m hm
    simp -implicitDefEqProofs (maxSteps:=2000000) only [push_cast,reduceEqDiff,reduceLT,reduceLeDiff,reduceAdd,reduceMul,reduceSub,Nat.reduceBEq,↓reduceIte,reduceCtorEq,gT,eEvent]
    refine iteI (fun h3=>⟨by omega,fun v hv=>?_⟩) (fun h3=>?_)
    · have e2 : (Int.toNat (m:Int))=m:=Int.toNat_natCast _
      rw [e2] at hv
      have ho:=outs_get (es:=es) (l:=e.auth.take j) (x:=x) (n:=(cov es (i + 1)).2) (m:=m) (by omega)
      have hset:=outs_set (es:=es) (l:=e.auth.take j) (x:=x) (n:=(cov es (i + 1)).2) (m:=m) (by omega)
      rw [hget m v hv] at hset
      have hol:=outs_len (es:=es) (l:=e.auth.take j) (x:=x) (n:=(cov es (i + 1)).2) (m:=m)
      simp only [e2,hol,setT]
      refine ⟨by omega,by omega,fun o ho'=>?_⟩
      rw [ho] at ho'
      cases ho'
      refine ⟨by omega,by omega,fun _ _=>⟨by unfold inI64; omega,m + 1,by omega,by omega,Keep.wk (ids:=[some 0,some 1,some 2,some 3,some 4,some 5,some 6,some 7]) ?_⟩⟩
      rw [hset]
      simp only [push_cast,reduceEqDiff,reduceLT,reduceLeDiff,reduceAdd,reduceMul,reduceSub,Nat.reduceBEq,↓reduceIte,reduceCtorEq,gT,eEvent]<;>first | rfl | exact ⟨rfl,rfl⟩
    · rw [outs_end hx (fun c hc=>hnone c (by omega))]
      refine ⟨by unfold inI64; omega,j + 1,by omega,by omega,Keep.wk (ids:=[some 0,some 1,some 2,some 3,some 4,some 5,some 6,some 7]) ?_⟩
      simp only [push_cast,reduceEqDiff,reduceLT,reduceLeDiff,reduceAdd,reduceMul,reduceSub,Nat.reduceBEq,↓reduceIte,reduceCtorEq,gT,eEvent]<;>first | rfl | exact ⟨rfl,rfl⟩
  · rw [List.take_of_length_le (by omega)]
    simp -implicitDefEqProofs (maxSteps:=2000000) only [push_cast,reduceEqDiff,reduceLT,reduceLeDiff,reduceAdd,reduceMul,reduceSub,Nat.reduceBEq,↓reduceIte,reduceCtorEq,gT,eEvent,setT,eSpot]
    have hrl : (List.range i).length=i:=List.length_range
    simp only [outL_len,hrl]
    have hsr : (List.range (i + 1)).map (rowL es)=(List.range i).map (rowL es) ++ [rowL es i]:=by rw [List.range_succ,List.map_append]; rfl
    have hcs : (cov es (i + 1)).1=(cov es i).1 ++ [sp]:=by rw [cov_succ he,hsp]
    have hch1:=cov_ch (es:=es) (n:=i + 1) (by omega)
    refine ⟨by omega,by omega,fun _ _=>⟨rfl,by omega,rfl,by omega,by omega,rfl,by omega,rfl,by omega,by omega,by unfold inI64; omega,(i + 1,last2.set sp.chain.toNat i),⟨by simp only; omega,by rw [← hnl]; exact hln,by rw [← hnl]; exact hlc⟩,by simp only; omega,Keep.wk (ids:=[some 0,some 1,some 9,some 11,some 4]) ?_⟩⟩
    rw [hsr,hcs,← out_row hv he hc1 bs (by omega)]
    simp only [push_cast,reduceEqDiff,reduceLT,reduceLeDiff,reduceAdd,reduceMul,reduceSub,Nat.reduceBEq,↓reduceIte,reduceCtorEq,gT,eEvent,List.map_append,eSpot]<;>first | rfl | exact ⟨rfl,rfl⟩
end Go.Proofs.YtmgdkkhnjkepiaaGreat.BX
namespace Go.Proofs.YtmgdkkhnjkepiaaGreat.BX
open Nat (reduceEqDiff reduceLT reduceLeDiff reduceAdd reduceMul reduceSub)
set_option linter.unusedSectionVars false
set_option linter.unusedSimpArgs false
set_option linter.unusedVariables false
open Go Go.RowKit
set_option maxRecDepth 20000
set_option maxHeartbeats 400000
variable [Bd]
theorem implMakeCover (es:List Event) (hB:Bd.B≤2147483648) : Con P0 32 [eRoom ⟨es⟩] (.tp [.ag [.sr 0,.sr 1],.t (.b (roomB es))]) [.arr 65 2 (.own (.ag [.leaf,.leaf])) ((covC es).spots.map eSpot),.arr 66 1 (.own (.sl 3 1 .leaf)) ((covC es).reach.map eIntS)]:=by
  refine Con.intro (fn:=Tryz.f32) [.cell 2 60,.tmp 3] (fun _=>(0,[])) mixed (by kernel_rfl) rfl (by decide) rfl (by rfl) (by kernel_rfl) ?_
  simp -implicitDefEqProofs (maxSteps:=2000000) only [push_cast,reduceEqDiff,reduceLT,reduceLeDiff,reduceAdd,reduceMul,reduceSub,Nat.reduceBEq,↓reduceIte,reduceCtorEq,eRoom]
  refine Callx.closed (graphOf es hB) rfl rfl (.inl rfl) ?_
  cases hr : roomB es with
  | false =>
    have hc : covC es=⟨[],[]⟩:=if_neg (by rw [hr]; simp)
    rw [hc]
    simp -implicitDefEqProofs (maxSteps:=2000000) only [push_cast,reduceEqDiff,reduceLT,reduceLeDiff,reduceAdd,reduceMul,reduceSub,Nat.reduceBEq,↓reduceIte,reduceCtorEq,gT]
    exact Close.of [none,none] rfl rfl rfl (by simp only [push_cast,reduceEqDiff,reduceLT,reduceLeDiff,reduceAdd,reduceMul,reduceSub,Nat.reduceBEq,↓reduceIte,reduceCtorEq]<;>first | rfl | exact ⟨rfl,rfl⟩) (by simp only [push_cast,reduceEqDiff,reduceLT,reduceLeDiff,reduceAdd,reduceMul,reduceSub,Nat.reduceBEq,↓reduceIte,reduceCtorEq]<;>first | rfl | exact ⟨rfl,rfl⟩)
  | true =>
    have hc : covC es=coverL es:=if_pos hr
    have hv:=room_valid hr
    rw [hc]
    simp -implicitDefEqProofs (maxSteps:=2000000) only [push_cast,reduceEqDiff,reduceLT,reduceLeDiff,reduceAdd,reduceMul,reduceSub,Nat.reduceBEq,↓reduceIte,reduceCtorEq,gT]
    refine Callx.closed (coverOf es hv hB) rfl rfl (.inl rfl) ?_
    simp -implicitDefEqProofs (maxSteps:=2000000) only [push_cast,reduceEqDiff,reduceLT,reduceLeDiff,reduceAdd,reduceMul,reduceSub,Nat.reduceBEq,↓reduceIte,reduceCtorEq]
    exact Close.of [some 2,some 3] rfl rfl rfl (by simp only [push_cast,reduceEqDiff,reduceLT,reduceLeDiff,reduceAdd,reduceMul,reduceSub,Nat.reduceBEq,↓reduceIte,reduceCtorEq]<;>first | rfl | exact ⟨rfl,rfl⟩) (by simp only [push_cast,reduceEqDiff,reduceLT,reduceLeDiff,reduceAdd,reduceMul,reduceSub,Nat.reduceBEq,↓reduceIte,reduceCtorEq]<;>first | rfl | exact ⟨rfl,rfl⟩)
end Go.Proofs.YtmgdkkhnjkepiaaGreat.BX
namespace Go.Proofs.YtmgdkkhnjkepiaaGreat.BX
open Nat (reduceEqDiff reduceLT reduceLeDiff reduceAdd reduceMul reduceSub)
set_option linter.unusedSectionVars false
set_option linter.unusedSimpArgs false
set_option linter.unusedVariables false
open Go Go.RowKit
set_option maxRecDepth 20000
set_option maxHeartbeats 400000
theorem nextSpot_same {es es':List Event} {sp:List Spot} {ch:Nat} : ∀ {l:List (List UInt8)},(∀ x∈l,posOf x es'=posOf x es)→nextSpot es' sp ch l=nextSpot es sp ch l
  | [], _ => rfl
  | x :: r, h => by
    have hr:=nextSpot_same (sp:=sp) (ch:=ch) (l:=r) fun y hy=>h y (List.mem_cons_of_mem _ hy)
    unfold nextSpot
    rw [h x (List.mem_cons_self ..)]
    split
    · split
      · split
        · rfl
        · exact hr
      · exact hr
    · exact hr
theorem ref_same {es:List Event} (hv:Valid es) {n i:Nat} {e:Event} (hi:i < n) (hn:n≤es.length) (he:es[i]? = some e) : ∀ x∈e.auth,posOf x (es.take n)=posOf x es:=fun x hx=>by
  have hs:=(hv.good he).auth x hx
  obtain ⟨k,hk⟩:=Option.isSome_iff_exists.1 hs
  have h1:=posOf_take hk
  have hk' : posOf x ((es.take n).take i)=some k:=by rw [List.take_take,Nat.min_eq_left (by omega)]; exact hk
  rw [h1,posOf_take hk']
theorem cov_take {es:List Event} (hv:Valid es) {n:Nat} (hn:n≤es.length) : ∀ {m:Nat},m≤n→cov (es.take n) m=cov es m
  | 0, _ => rfl
  | m + 1, h => by
    have ih:=cov_take hv hn (m:=m) (by omega)
    obtain ⟨e,he⟩ : ∃ e,es[m]? = some e:=⟨_,List.getElem?_eq_getElem (by omega)⟩
    have he' : (es.take n)[m]? = some e:=by rw [List.getElem?_take_of_lt (by omega)]; exact he
    rw [cov_succ he,cov_succ he',ih,nextSpot_same (ref_same hv (by omega) hn he)]
theorem foldl_same {f g:List UInt8→Int} : ∀ {l:List (List UInt8)} {m:Int},(∀ x∈l,f x=g x)→l.foldl (fun m x=>if f x > m then f x else m) m=l.foldl (fun m x=>if g x > m then g x else m) m
  | [], _, _ => rfl
  | x :: l, m, h => by
    simp only [List.foldl_cons]
    rw [h x (List.mem_cons_self ..)]
    exact foldl_same fun y hy=>h y (List.mem_cons_of_mem _ hy)
theorem row_take {es:List Event} (hv:Valid es) {n:Nat} (hn:n≤es.length) : ∀ {i:Nat},i < n→rowL (es.take n) i=rowL es i:=by
  intro i
  induction i using Nat.strongRecOn with
  | ind i ih =>
  intro hi
  have hv' : Valid (es.take n):=hv.take
  obtain ⟨e,he⟩ : ∃ e,es[i]? = some e:=⟨_,List.getElem?_eq_getElem (by omega)⟩
  have he' : (es.take n)[i]? = some e:=by rw [List.getElem?_take_of_lt (by omega)]; exact he
  have hcv:=cov_take hv hn (m:=i + 1) (by omega)
  obtain ⟨s,hs⟩ : ∃ s,(cov es (i + 1)).1[i]? = some s:=⟨_,List.getElem?_eq_getElem (by rw [cov_len (by omega)]; omega)⟩
  unfold rowL
  rw [he,he',hcv]
  refine List.map_congr_left fun c hc=>?_
  have hc:=List.mem_range.1 hc
  rw [row_is hv he hs hc,row_is hv' he' (by rw [hcv]; exact hs) (by rw [hcv]; exact hc)]
  split
  · rfl
  · unfold outF
    refine foldl_same fun x hx=>?_
    unfold rowGet
    rw [ref_same hv hi hn he x hx]
    split
    · rename_i p hp
      have hlt : p < i:=by
        obtain ⟨k,a,hk,_,_,hkp⟩:=pos_ref ((hv.good he).auth x hx)
        rw [hp] at hkp; cases hkp; exact hk
      rw [ih p hlt (by omega)]
    · rfl
theorem sps_take {es:List Event} (hv:Valid es) {n i:Nat} (hn:n≤es.length) (hi:i < n) : (sps (es.take n))[i]? = (sps es)[i]?:=by
  unfold sps
  rw [List.length_take,Nat.min_eq_left hn,cov_take hv hn (Nat.le_refl _)]
  exact (cov_prefix (by omega) hn (Nat.le_refl _)).symm
theorem runR_ok {b:List UInt8} {start:Nat} (h0:0 < start) : ∀ {f i:Nat} {r:RS},RSok b i r → ∃ j,RSok b j (runR b start f i r)∧i≤j∧j≤i + f∧(0 < f→i < start→i < j)
  | 0, i, r, h => ⟨i,h,Nat.le_refl _,Nat.le_refl _,fun h=>absurd h (by omega)⟩
  | f + 1, i, r, h => by
    have hp : nextP b start i r≤b.length:=by
      unfold nextP
      split
      · exact h.p
      · exact contE_p (np_le h.p)
    by_cases hc : i < start ∨ r.p < b.length
    · obtain ⟨j,h1,h2,h3,_⟩:=runR_ok h0 (f:=f) (h.next hp h0)
      refine ⟨j,?_,by omega,by omega,fun _ _=>by omega⟩
      rw [show runR b start (f + 1) i r=runR b start f (i + 1) (stepR b start i r) from if_pos hc]
      exact h1
    · refine ⟨i,?_,Nat.le_refl _,by omega,fun _ h=>absurd (.inl h) hc⟩
      rw [show runR b start (f + 1) i r=r from if_neg hc]
      exact h
theorem roomR_ok {b:List UInt8} {p:Nat} (hp:p≤b.length) : ∃ j,RSok b j (roomR b p)∧0 < j∧j≤15:=by
  have h1:=startR_le (k:=nx b p)
  have h2:=mostR_le (k:=nx b p) (l:=b.length - np b p)
  obtain ⟨j,k1,k2,k3,k4⟩:=runR_ok (start:=startR (nx b p)) (by omega) (f:=mostR (nx b p) (b.length - np b p)) (rs0_ok (np_le hp))
  exact ⟨j,k1,k4 (by omega) (by omega),by omega⟩
theorem room_is {es:List Event} (h:Valid es) : roomB es=true:=@decide_eq_true _ (Classical.propDecidable _) h
variable [Bd]
noncomputable abbrev anyE (c:List UInt8) : List Event:=(roomR (c.take 1000) 0).es
theorem anyE_ok {c:List UInt8} : Valid (anyE c)∧0 < (anyE c).length∧(anyE c).length≤15:=by
  obtain ⟨j,h1,h2,h3⟩:=roomR_ok (b:=c.take 1000) (p:=0) (Nat.zero_le _)
  have:=h1.le
  exact ⟨h1.val,h1.pos h2,by show (roomR (c.take 1000) 0).es.length≤15; omega⟩
theorem anyRoomT (c:List UInt8) (hB:Bd.B≤2147483648) : Con P0 31 [.sl (c.map eU8)] (.t (eRoom ⟨anyE c⟩)) []:=Con.seal (ids:=[0]) (anyRoom c hB) (by simp only [push_cast,reduceEqDiff,reduceLT,reduceLeDiff,reduceAdd,reduceMul,reduceSub,Nat.reduceBEq,↓reduceIte,reduceCtorEq]<;>rfl) rfl
theorem makeCoverT (es:List Event) (hv:Valid es) (hB:Bd.B≤2147483648) : Con P0 32 [eRoom ⟨es⟩] (.t (.tp [eCover (coverL es),.b true])) []:=by
  have h:=implMakeCover es hB
  rw [room_is hv,show covC es=coverL es from if_pos (room_is hv)] at h
  exact Con.seal (ids:=[0,1]) h (by simp only [push_cast,reduceEqDiff,reduceLT,reduceLeDiff,reduceAdd,reduceMul,reduceSub,Nat.reduceBEq,↓reduceIte,reduceCtorEq]<;>rfl) rfl
theorem lwRoom (es:List Event) : Con P0 33 [eEventS es] (.t (eRoom ⟨es⟩)) []:=by
  refine Con.intro (fn:=Tryz.f33) [.cell 2 36] (fun _=>(0,[])) mixed (by kernel_rfl) rfl (by decide) rfl (by rfl) (by kernel_rfl) ?_
  simp -implicitDefEqProofs (maxSteps:=2000000) only [push_cast,reduceEqDiff,reduceLT,reduceLeDiff,reduceAdd,reduceMul,reduceSub,Nat.reduceBEq,↓reduceIte,reduceCtorEq,eRoom]
theorem lawFnPrefix (c:List UInt8) (hB:mxs [.sl (c.map eU8)]≤1048576→Bd.B≤2147483648) : Con P0 5 [.sl (c.map eU8)] (.t (.b true)) []:=by
  refine Con.intro (fn:=Tryz.f5) [.tmp 2] (fun i=>if i=21 then (17,[]) else if i=16 then (26,[]) else (0,[])) mixed (by kernel_rfl) rfl (by decide) rfl (by rfl) (by kernel_rfl) ?_
  simp -implicitDefEqProofs (maxSteps:=2000000) only [push_cast,reduceEqDiff,reduceLT,reduceLeDiff,reduceAdd,reduceMul,reduceSub,Nat.reduceBEq,↓reduceIte,reduceCtorEq]
  intro hlen
  refine iteI (fun h=>trivial) (fun h=>?_)
  have hB:=hB (mxs_cons (by rw [mxCode]; omega) mxs_nil)
  have cA:=anyRoomT c hB
  obtain ⟨hv,h0,h15⟩:=anyE_ok (c:=c)
  generalize anyE c=es at *
  have cM:=makeCoverT es hv hB
  simp only [eRoom] at cA cM
  refine Callx.closed cA rfl rfl (.inl rfl) ?_
  simp -implicitDefEqProofs (maxSteps:=2000000) only [push_cast,reduceEqDiff,reduceLT,reduceLeDiff,reduceAdd,reduceMul,reduceSub,Nat.reduceBEq,↓reduceIte,reduceCtorEq]
  refine Callx.closed cA rfl rfl (.inl rfl) ?_
  simp -implicitDefEqProofs (maxSteps:=2000000) only [push_cast,reduceEqDiff,reduceLT,reduceLeDiff,reduceAdd,reduceMul,reduceSub,Nat.reduceBEq,↓reduceIte,reduceCtorEq]
  refine Callx.closed cM rfl rfl (.inl rfl) ?_
  simp -implicitDefEqProofs (maxSteps:=2000000) only [push_cast,reduceEqDiff,reduceLT,reduceLeDiff,reduceAdd,reduceMul,reduceSub,Nat.reduceBEq,↓reduceIte,reduceCtorEq,eCover]
  have hsl : (coverL es).spots.length=es.length:=cov_len (Nat.le_refl _)
  have hrl : (coverL es).reach.length=es.length:=by simp [coverL]
  intro _ _
  refine iteI (fun h1=>absurd (by rw [hsl]) h1) (fun _=>?_)
  intro _ _
  refine iteI (fun h1=>absurd (by rw [hrl]) h1) (fun _=>?_)
  have hlo:=Bd.lo
  have hsp : ∀ {n i:Nat},n≤es.length→i < n→(coverL (es.take n)).spots[i]? = (coverL es).spots[i]?:=fun h1 h2=>sps_take hv h1 h2
  have hrw : ∀ {n i:Nat},n≤es.length→i < n→(coverL (es.take n)).reach[i]? = (coverL es).reach[i]?:=fun {n i} h1 h2=>by
    simp only [coverL,List.length_take,List.getElem?_map]
    rw [List.getElem?_range (by omega),List.getElem?_range (by omega)]
    simp only [Option.map_some,row_take hv h1 h2]
  have hsz : ∀ {n:Nat},n≤es.length→(coverL (es.take n)).spots.length=n∧(coverL (es.take n)).reach.length=n:=fun {n} h1=>by
    refine ⟨?_,by simp [coverL]; omega⟩
    show (sps (es.take n)).length=n
    unfold sps
    rw [cov_len (Nat.le_refl _),List.length_take]; omega
  have cMn:=fun n : Nat=>makeCoverT (es.take n) hv.take hB
  generalize coverL es=cv at *
  refine WL.loop (ι:=Nat) (D:=(fun i=>if i=21 then (17,[]) else if i=16 then (26,[]) else (0,[]))) (fun n=>n≤es.length) (fun n=>⟨133,[(0,.t (.sl (c.map eU8))),(2,.t (.b false)),(3,.rf 0 0),(4,.rf 1 0),(6,.t (.i .i64 n))],[.box (.t (eRoom ⟨es⟩)),.box (.t (eCover cv))]⟩) (fun n=>es.length - n) mixed (by kernel_rfl) 0 (by omega) (Keep.wk (ids:=[some 0,some 1]) ?_) ?_
  · simp only [push_cast,reduceEqDiff,reduceLT,reduceLeDiff,reduceAdd,reduceMul,reduceSub,Nat.reduceBEq,↓reduceIte,reduceCtorEq,eRoom,eCover]<;>trivial
  intro n hn
  simp -implicitDefEqProofs (maxSteps:=2000000) only [push_cast,reduceEqDiff,reduceLT,reduceLeDiff,reduceAdd,reduceMul,reduceSub,Nat.reduceBEq,↓reduceIte,reduceCtorEq,eRoom,eCover]
  intro _
  refine iteI (fun h1=>?_) (fun h1=>?_)
  rotate_left
  · trivial
  have hof : oneFld P0 36 0=some 0:=by kernel_rfl
  have hnl : n < es.length:=by omega
  refine Callx.closed cA rfl rfl (.inl rfl) ?_
  simp -implicitDefEqProofs (maxSteps:=2000000) only [push_cast,reduceEqDiff,reduceLT,reduceLeDiff,reduceAdd,reduceMul,reduceSub,Nat.reduceBEq,↓reduceIte,reduceCtorEq,hof]
  obtain ⟨hs1,hs2⟩:=hsz (n:=n) hn
  have hspn : ∀ {i:Nat},i < n→(coverL (es.take n)).spots[i]? = cv.spots[i]?:=fun h=>hsp hn h
  have hrwn : ∀ {i:Nat},i < n→(coverL (es.take n)).reach[i]? = cv.reach[i]?:=fun h=>hrw hn h
  have cMx:=cMn n
  simp only [eRoom] at cMx
  rw [show List.drop (Int.toNat 0) (List.take ((n:Int)).toNat (List.map eEvent es))=(es.take n).map eEvent by rw [Int.toNat_natCast,List.map_take]; rfl]
  refine ⟨⟨by omega,by omega,by omega⟩,?_⟩
  refine Callx.closed (lwRoom (es.take n)) rfl rfl (.inl rfl) ?_
  simp -implicitDefEqProofs (maxSteps:=2000000) only [push_cast,reduceEqDiff,reduceLT,reduceLeDiff,reduceAdd,reduceMul,reduceSub,Nat.reduceBEq,↓reduceIte,reduceCtorEq,eRoom]
  refine Callx.closed cMx rfl rfl (.inl rfl) ?_
  generalize coverL (es.take n)=cn at *
  simp -implicitDefEqProofs (maxSteps:=2000000) only [push_cast,reduceEqDiff,reduceLT,reduceLeDiff,reduceAdd,reduceMul,reduceSub,Nat.reduceBEq,↓reduceIte,reduceCtorEq,eCover]
  intro _
  refine iteI (fun h2=>absurd (by rw [hs1]) h2) (fun _=>?_)
  intro _
  refine iteI (fun h2=>absurd (by rw [hs2]) h2) (fun _=>?_)
  refine WL.loop (ι:=Nat) (D:=(fun i=>if i=21 then (17,[]) else if i=16 then (26,[]) else (0,[]))) (fun i=>i≤n) (fun i=>⟨133,[(0,.t (.sl (c.map eU8))),(2,.t (.b false)),(3,.rf 0 0),(4,.rf 1 0),(6,.t (.i .i64 n)),(7,.rf 2 0),(9,.t (.i .i64 i))],[.box (.t (eRoom ⟨es⟩)),.box (.t (eCover cv)),.box (.t (eCover cn))]⟩) (fun i=>n - i) mixed (by kernel_rfl) 0 (by omega) (Keep.wk (ids:=[some 0,some 1,some 2]) ?_) ?_
  · simp only [push_cast,reduceEqDiff,reduceLT,reduceLeDiff,reduceAdd,reduceMul,reduceSub,Nat.reduceBEq,↓reduceIte,reduceCtorEq,eRoom,eCover]<;>trivial
  intro i hi
  simp -implicitDefEqProofs (maxSteps:=2000000) only [push_cast,reduceEqDiff,reduceLT,reduceLeDiff,reduceAdd,reduceMul,reduceSub,Nat.reduceBEq,↓reduceIte,reduceCtorEq,eRoom,eCover]
  refine iteI (fun h2=>?_) (fun h2=>?_)
  rotate_left
  · refine ⟨by unfold inI64; omega,n + 1,by omega,by omega,Keep.wk (ids:=[some 0,some 1]) ?_⟩
    simp only [push_cast,reduceEqDiff,reduceLT,reduceLeDiff,reduceAdd,reduceMul,reduceSub,Nat.reduceBEq,↓reduceIte,reduceCtorEq,eRoom,eCover]<;>trivial
  have hin : i < n:=by omega
  obtain ⟨sp,hsp⟩ : ∃ x,cn.spots[i]? = some x:=⟨_,List.getElem?_eq_getElem (by omega)⟩
  obtain ⟨rw',hrw'⟩ : ∃ x,cn.reach[i]? = some x:=⟨_,List.getElem?_eq_getElem (by omega)⟩
  have hsp2:=(hspn hin).symm.trans hsp
  have hrw2:=(hrwn hin).symm.trans hrw'
  refine ⟨⟨by omega,by omega⟩,fun a ha=>⟨⟨by omega,by omega⟩,fun a' ha'=>?_⟩⟩
  rw [Int.toNat_natCast] at ha ha'
  have ha:=ha.symm.trans hsp
  have ha':=ha'.symm.trans hsp2
  cases ha
  cases ha'
  simp -implicitDefEqProofs (maxSteps:=2000000) only [push_cast,reduceEqDiff,reduceLT,reduceLeDiff,reduceAdd,reduceMul,reduceSub,Nat.reduceBEq,↓reduceIte,reduceCtorEq,eSpot]
  refine ⟨⟨by omega,by omega⟩,fun a ha=>?_⟩
  rw [Int.toNat_natCast] at ha
  have ha:=ha.symm.trans hrw'
  cases ha
  intro hal
  refine ⟨⟨by omega,by omega⟩,fun a ha=>?_⟩
  rw [Int.toNat_natCast] at ha
  have ha:=ha.symm.trans hrw2
  cases ha
  intro _
  refine iteI (fun h3=>absurd rfl h3) (fun _=>?_)
  refine WL.loop (ι:=Nat) (D:=(fun i=>if i=21 then (17,[]) else if i=16 then (26,[]) else (0,[]))) (fun k=>k≤rw'.length) (fun k=>⟨133,[(0,.t (.sl (c.map eU8))),(2,.t (.b false)),(3,.rf 0 0),(4,.rf 1 0),(6,.t (.i .i64 n)),(7,.rf 2 0),(9,.t (.i .i64 i)),(10,.t (.i .i64 k))],[.box (.t (eRoom ⟨es⟩)),.box (.t (eCover cv)),.box (.t (eCover cn))]⟩) (fun k=>rw'.length - k) mixed (by kernel_rfl) 0 (by omega) (Keep.wk (ids:=[some 0,some 1,some 2]) ?_) ?_
  · simp only [push_cast,reduceEqDiff,reduceLT,reduceLeDiff,reduceAdd,reduceMul,reduceSub,Nat.reduceBEq,↓reduceIte,reduceCtorEq,eRoom,eCover]<;>trivial
  intro k hk
  simp -implicitDefEqProofs (maxSteps:=2000000) only [push_cast,reduceEqDiff,reduceLT,reduceLeDiff,reduceAdd,reduceMul,reduceSub,Nat.reduceBEq,↓reduceIte,reduceCtorEq,eRoom,eCover]
  refine ⟨⟨by omega,by omega⟩,fun a ha=>?_⟩
  rw [Int.toNat_natCast] at ha
  have ha:=ha.symm.trans hrw'
  cases ha
  intro _
  refine iteI (fun h3=>?_) (fun h3=>?_)
  rotate_left
  · refine ⟨by unfold inI64; omega,i + 1,by omega,by omega,Keep.wk (ids:=[some 0,some 1,some 2]) ?_⟩
    simp only [push_cast,reduceEqDiff,reduceLT,reduceLeDiff,reduceAdd,reduceMul,reduceSub,Nat.reduceBEq,↓reduceIte,reduceCtorEq,eRoom,eCover]<;>trivial
  obtain ⟨v,hv1⟩ : ∃ x,rw'[k]? = some x:=⟨_,List.getElem?_eq_getElem (by omega)⟩
  refine ⟨⟨by omega,by omega⟩,fun a ha=>?_⟩
  rw [Int.toNat_natCast] at ha
  have ha:=ha.symm.trans hrw'
  cases ha
  refine ⟨⟨by omega,by omega⟩,fun a ha=>?_⟩
  rw [Int.toNat_natCast] at ha
  have ha:=ha.symm.trans hv1
  cases ha
  refine ⟨⟨by omega,by omega⟩,fun a ha=>?_⟩
  rw [Int.toNat_natCast] at ha
  have ha:=ha.symm.trans hrw2
  cases ha
  refine ⟨⟨by omega,by omega⟩,fun a ha=>?_⟩
  rw [Int.toNat_natCast] at ha
  have ha:=ha.symm.trans hv1
  cases ha
  refine iteI (fun h4=>absurd rfl h4) (fun _=>?_)
  refine ⟨by unfold inI64; omega,k + 1,by omega,by omega,Keep.wk (ids:=[some 0,some 1,some 2]) ?_⟩
  simp only [push_cast,reduceEqDiff,reduceLT,reduceLeDiff,reduceAdd,reduceMul,reduceSub,Nat.reduceBEq,↓reduceIte,reduceCtorEq,eRoom,eCover]<;>trivial
end Go.Proofs.YtmgdkkhnjkepiaaGreat.BX
