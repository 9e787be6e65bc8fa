/-
  Part 8 of what LFnExactPowerOrder leans on: its texts, merged by a program (prune.py), with what it needs alone.
-/
import Derived.Test.YtmgdkkhnjkepiaaGreatQ7
namespace Go.Proofs.YtmgdkkhnjkepiaaGreat.BX
open Nat renaming reduceEqDiff → zA, reduceLT → zB, reduceLeDiff → zC, reduceAdd → zD, reduceMul → zE, reduceSub → zF, reduceBEq → zG
set_option linter.unusedSectionVars false
set_option linter.unusedSimpArgs false
set_option linter.unusedVariables false
open Go Go.RowKit HH
set_option maxRecDepth 20000
set_option maxHeartbeats 400000
variable [Bd]
abbrev txP (l:List (List UInt8)) : Ob:=.arr 9 1 (.own .leaf) (l.map T.s)
abbrev gP (es:List Event) : AV:=.t (.po (gT es) 0)
abbrev ciM (l:List Nat) (c:Nat→Nat) : Ob:=.map 3 3 (.own .leaf) (l.map nT) (l.map fun x=>nT (c x)) none
abbrev clM (R:List Nat) (f:Nat→List Nat) : Ob:=.map 3 66 (.own (.sl 3 1 .leaf)) (R.map nT) (R.map fun x=>T.sl ((f x).map nT)) none
abbrev plB (es:List Event) (k:Nat) : Ob:=.box (.ag [.sr k,.t (.fn 166 [.po (gT es) 0])])
theorem graphPowerOrder (es:List Event) (hv:Valid es) (ids:List (List UInt8)) (hids:∀ x∈ids,There es x) (hil:ids.length≤300) (hD:¬ Bd.D) (hB:Bd.B≤2147483648) :
 Con P0 97 [gT es,eStringS ids] (.sr 0) [txP (powL es ids)]:=by
 have hlt : ∀ a b,a < es.length→b < es.length→Con P0 166 (.i .i64 a :: .i .i64 b :: [.po (gT es) 0]) (.t (.b (ltP es a b))) []:=fun a b ha hb=>soon1 es hv hB a b es[a] es[b] (List.getElem?_eq_getElem ha) (List.getElem?_eq_getElem hb)
 refine Con.intro (fn:=Tryz.f97) [.tmp 4] (fun i=>if i=30 then (999999,[]) else if i=6 then (13,[]) else (0,[])) mixed (by kernel_rfl) rfl (by decide) rfl (by rfl) (by kernel_rfl) ?_
 simp -implicitDefEqProofs (maxSteps:=2000000) only [push_cast,zA,zB,zC,zD,zE,zF,zG,↓reduceIte,reduceCtorEq,gT]
 have:=Bd.lo
 have hhi:=Bd.hi
 refine ⟨rfl,by omega,fun _=>?_⟩
 refine WL.wk (Wk.seal 2 (y:=.po (gT es) 0) (ids:=[0]) (by simp only [push_cast,zA,zB,zC,zD,zE,zF,zG,↓reduceIte,reduceCtorEq,gT]<;>rfl) rfl) ?_
 refine WL.loop (ι:=Nat) (D:=(fun i=>if i=30 then (999999,[]) else if i=6 then (13,[]) else (0,[]))) (fun i=>i≤ids.length) (fun i=>⟨179,[(1,.t (eStringS ids)),(2,gP es),(4,.ns),(5,.sr 0),(6,.mr 1),(29,.t (eStringS ids)),(30,.t (.i .i64 ids.length)),(31,.t (.i .i64 i))],[txP ((ids.take i).filter (wtyI es)),ciM [] (fun _=>0)]⟩) (fun i=>ids.length - i) mixed (by kernel_rfl) 0 (by omega) (Keep.wk (ids:=[some 1,some 2]) ?_) ?_
 ·simp only [push_cast,zA,zB,zC,zD,zE,zF,zG,↓reduceIte,reduceCtorEq,gT,killAll,List.take_zero,List.filter_nil,List.map_nil]<;>rfl
 ·intro i hi
  simp -implicitDefEqProofs (maxSteps:=2000000) only [push_cast,zA,zB,zC,zD,zE,zF,zG,↓reduceIte,reduceCtorEq,gT]
  refine iteI (fun h=>⟨by omega,fun x hx=>?_⟩) (fun h=>?_)
  ·rw [Int.toNat_natCast] at hx
   obtain ⟨k,e,he,hid,hp⟩:=there_at (hids x (List.mem_of_getElem? hx))
   have hkl:=(List.getElem?_eq_some_iff.1 he).1
   refine gLook rfl (fun k' hk'=>?_) (fun hk'=>by rw [hp] at hk'; cases hk')
   rw [hp] at hk'; cases hk'
   simp -implicitDefEqProofs (maxSteps:=2000000) only [push_cast,zA,zB,zC,zD,zE,zF,zG,↓reduceIte,reduceCtorEq,gT]
   have hts : (ids.take (i + 1)).filter (wtyI es)=(ids.take i).filter (wtyI es) ++ (if wty e=true then [x] else []):=by
    rw [List.take_add_one,hx,List.filter_append]
    by_cases hm : wty e=true<;>simp [wtyI_at hp he,hm]
   have hfl : ((ids.take i).filter (wtyI es)).length≤i:=Nat.le_trans (List.length_filter_le _ _) (by rw [List.length_take]; omega)
   refine ⟨by omega,fun a ha=>?_⟩
   rw [Int.toNat_natCast,he] at ha
   cases ha
   refine CallV.t (implWeighty e) (.inl rfl) ?_
   simp -implicitDefEqProofs (maxSteps:=2000000) only [push_cast,zA,zB,zC,zD,zE,zF,zG,↓reduceIte,reduceCtorEq,gT]
   cases hw : wty e with
   | true =>
     rw [hw,if_pos rfl] at hts
     simp -implicitDefEqProofs (maxSteps:=2000000) only [push_cast,zA,zB,zC,zD,zE,zF,zG,↓reduceIte,reduceCtorEq,gT]
     refine ⟨rfl,by omega,rfl,by omega,by omega,by unfold inI64; omega,i + 1,by omega,by omega,Keep.wk (ids:=[some 3,some 1]) ?_⟩
     rw [hts]
     simp only [push_cast,zA,zB,zC,zD,zE,zF,zG,↓reduceIte,reduceCtorEq,gT,List.map_append,List.map_cons,List.map_nil]<;>rfl
   | false =>
     rw [hw,if_neg (by decide),List.append_nil] at hts
     simp -implicitDefEqProofs (maxSteps:=2000000) only [push_cast,zA,zB,zC,zD,zE,zF,zG,↓reduceIte,reduceCtorEq,gT]
     refine ⟨by unfold inI64; omega,i + 1,by omega,by omega,Keep.wk (ids:=[some 0,some 1]) ?_⟩
     rw [hts]
     simp only [push_cast,zA,zB,zC,zD,zE,zF,zG,↓reduceIte,reduceCtorEq,gT]<;>rfl
  ·have hi : i=ids.length:=by omega
   subst hi
   rw [List.take_length]
   have hwl : (ids.filter (wtyI es)).length≤ids.length:=List.length_filter_le _ _
   have hwt : ∀ x∈ids.filter (wtyI es),There es x:=fun x hx=>hids x (List.mem_filter.1 hx).1
   have hgu:=graphUnder es (ids.filter (wtyI es)) true hv hwt hB
   rw [if_pos rfl] at hgu
   refine Callx.closed hgu rfl rfl (.inr ⟨rfl,rfl⟩) ?_
   clear hgu
   simp -implicitDefEqProofs (maxSteps:=2000000) only [push_cast,zA,zB,zC,zD,zE,zF,zG,↓reduceIte,reduceCtorEq,gT]
   intro _
   refine WL.loop (ι:=Nat) (D:=(fun i=>if i=30 then (999999,[]) else if i=6 then (13,[]) else (0,[]))) (fun i=>i≤ids.length) (fun i=>⟨179,[(2,gP es),(4,.ns),(6,.mr 0),(9,.sr 1),(56,.t (eStringS ids)),(57,.t (.i .i64 ids.length)),(58,.t (.i .i64 i))],[ciM (pwK es ids i) (fun _=>0),hadO (hadA es (ids.filter (wtyI es)))]⟩) (fun i=>ids.length - i) mixed (by kernel_rfl) 0 (by omega) (Keep.wk (ids:=[some 1,some 2]) ?_) ?_
   ·simp only [push_cast,zA,zB,zC,zD,zE,zF,zG,↓reduceIte,reduceCtorEq,gT,pwK,ddF,List.take_zero,List.foldl_nil,List.map_nil]<;>rfl
   ·intro i hi
    simp -implicitDefEqProofs (maxSteps:=2000000) only [push_cast,zA,zB,zC,zD,zE,zF,zG,↓reduceIte,reduceCtorEq,gT]
    refine iteI (fun h=>⟨by omega,fun x hx=>?_⟩) (fun h=>?_)
    ·rw [Int.toNat_natCast] at hx
     obtain ⟨k,e,he,hid,hp⟩:=there_at (hids x (List.mem_of_getElem? hx))
     have hkl:=(List.getElem?_eq_some_iff.1 he).1
     refine gLook rfl (fun k' hk'=>?_) (fun hk'=>by rw [hp] at hk'; cases hk')
     rw [hp] at hk'; cases hk'
     simp -implicitDefEqProofs (maxSteps:=2000000) only [push_cast,zA,zB,zC,zD,zE,zF,zG,↓reduceIte,reduceCtorEq,gT]
     have hb0:=hadA_get (rs:=ids.filter (wtyI es)) hkl
     rw [pwP_anc hv hids he hid] at hb0
     have hKl:=pwK_len (es:=es) (ids:=ids) (i:=i)
     refine ⟨⟨by omega,by rw [hadA_len]; omega⟩,by rw [hadA_len]; omega,fun a ha=>?_⟩
     rw [Int.toNat_natCast,hb0] at ha
     cases ha
     cases hpw : pwP es ids x with
     | true =>
       rw [if_pos rfl]
       have hu1:=(updFN (ev:=nT) (c:=fun _=>0) (v:=0) (k:=k) (pwK_nodup hv hids (i:=i))).1
       have hu2 : updV (List.map nT (pwK es ids i)) (List.map (fun _=>nT 0) (pwK es ids i)) (T.i .i64 k) (T.i .i64 0)=(if k∈pwK es ids i then pwK es ids i else pwK es ids i ++ [k]).map fun _=>nT 0:=by
        have:=(updFN (ev:=nT) (c:=fun _=>0) (v:=0) (k:=k) (pwK_nodup hv hids (i:=i))).2
        simp only [ite_self] at this
        exact this
       rw [← pwK_yes hv hids hx hp hpw] at hu1 hu2
       refine ⟨fun _=>by omega,by unfold inI64; omega,i + 1,by omega,by omega,Keep.wk (ids:=[some 0,some 1]) ?_⟩
       simp only [push_cast,zA,zB,zC,zD,zE,zF,zG,↓reduceIte,reduceCtorEq,gT,hu1,hu2]<;>rfl
     | false =>
       rw [if_neg (by decide)]
       refine ⟨by unfold inI64; omega,i + 1,by omega,by omega,Keep.wk (ids:=[some 0,some 1]) ?_⟩
       rw [pwK_no hx hpw]
       simp only [push_cast,zA,zB,zC,zD,zE,zF,zG,↓reduceIte,reduceCtorEq,gT]<;>rfl
    ·have hi : i=ids.length:=by omega
     subst hi
     rw [pwK_end]
     have hKn : ((powIn es ids).map (posN es)).Nodup:=by have:=pwK_nodup hv hids (i:=ids.length); rwa [pwK_end] at this
     have hKl : ((powIn es ids).map (posN es)).length≤ids.length:=by have:=pwK_len (es:=es) (ids:=ids) (i:=ids.length); rwa [pwK_end] at this
     have hKm : ∀ p∈(powIn es ids).map (posN es),p < es.length:=fun p hp=>by rw [← pwK_end] at hp; exact pwK_lt hids hp
     have hKp : List.Perm (srtN ((powIn es ids).map (posN es))) ((powIn es ids).map (posN es)):=srtN_perm
     have hSn : (srtN ((powIn es ids).map (posN es))).Nodup:=hKp.nodup_iff.2 hKn
     have hSm : ∀ p∈srtN ((powIn es ids).map (posN es)),p < es.length:=fun p hp=>hKm p (hKp.mem_iff.1 hp)
     have hSl : (srtN ((powIn es ids).map (posN es))).length≤300:=by rw [hKp.length_eq]; omega
     have hel:=hv.len
     have hsk:=sortedKeysI ((powIn es ids).map (posN es)) (((powIn es ids).map (posN es)).map fun _=>nT 0) hD hB fun x hx=>by have:=hKm x hx; omega
     have hmk:=mapsKeysI ((powIn es ids).map (posN es)) (((powIn es ids).map (posN es)).map fun _=>nT 0)
     refine Callx.hand [0] hmk (by decide) (by simp only [push_cast,zA,zB,zC,zD,zE,zF,zG,↓reduceIte,reduceCtorEq]) rfl rfl (by simp only [push_cast,zA,zB,zC,zD,zE,zF,zG,↓reduceIte,reduceCtorEq]<;>rfl) rfl (.inr ⟨rfl,by simp only [push_cast,zA,zB,zC,zD,zE,zF,zG,↓reduceIte,reduceCtorEq]⟩) ?_
     simp -implicitDefEqProofs (maxSteps:=2000000) only [push_cast,zA,zB,zC,zD,zE,zF,zG,↓reduceIte,reduceCtorEq,gT]
     refine Callx.hand [4,0] hsk (by decide) (by simp only [push_cast,zA,zB,zC,zD,zE,zF,zG,↓reduceIte,reduceCtorEq]) rfl rfl (by simp only [push_cast,zA,zB,zC,zD,zE,zF,zG,↓reduceIte,reduceCtorEq]<;>rfl) rfl (.inr ⟨rfl,by simp only [push_cast,zA,zB,zC,zD,zE,zF,zG,↓reduceIte,reduceCtorEq]⟩) ?_
     clear hsk hmk
     simp -implicitDefEqProofs (maxSteps:=2000000) only [push_cast,zA,zB,zC,zD,zE,zF,zG,↓reduceIte,reduceCtorEq,gT]
     generalize hKd : (powIn es ids).map (posN es)=K at *
     generalize hSd : srtN K=S at *
     intro _
     refine WL.wk (Wk.sealBoxP 2 [true,false] (ys:=[.ns,.t (.fn 166 [.po (gT es) 0])]) (ids:=[]) (by simp only [boxSeal,sealL,List.getElem?_cons_succ,List.getElem?_cons_zero,AV.take,takes,List.nil_append,List.append_nil]) rfl) ?_
     refine WL.wk (Wk.mapOf 3 (.sl 3 1 .leaf) rfl) ?_
     refine WL.loop (ι:=Nat × (Nat→Nat) × List Nat × (Nat→List Nat)) (D:=(fun i=>if i=30 then (999999,[]) else if i=6 then (13,[]) else (0,[]))) (fun q=>OI es S q.1 q.2.1 q.2.2.1 q.2.2.2) (fun q=>⟨179,[(2,gP es),(4,.ns),(6,.mr 0),(13,.rf 1 0),(14,.mr 2),(81,.sr 3),(82,.t (.i .i64 S.length)),(83,.t (.i .i64 q.1))],[ciM K q.2.1,plB es 4,clM q.2.2.1 q.2.2.2,nO S,nO (hpI es S (S.take q.1))]⟩) (fun q=>S.length - q.1) mixed (by kernel_rfl) (0,(fun _=>0),[],fun _=>[]) oi_start (Keep.wk (ids:=[some 0,some 2,some 3,some 5,none]) ?_) ?_
     ·simp only [push_cast,zA,zB,zC,zD,zE,zF,zG,↓reduceIte,reduceCtorEq,gT,killAll,List.take_zero,List.map_nil,hpI,List.foldl_nil]<;>first | rfl | exact ⟨rfl,rfl⟩
     ·rintro ⟨i,c,R,f⟩ hI
      dsimp only at hI ⊢
      have hSS : S.length≤300:=hSl
      simp -implicitDefEqProofs (maxSteps:=2000000) only [push_cast,zA,zB,zC,zD,zE,zF,zG,↓reduceIte,reduceCtorEq,gT]
      refine iteI (fun h=>⟨by omega,by omega,fun p hp=>?_⟩) (fun h=>?_)
      ·rw [Int.toNat_natCast] at hp
       have hpS:=List.mem_of_getElem? hp
       have hpl:=hSm p hpS
       obtain ⟨e,he⟩ : ∃ e,es[p]? = some e:=⟨_,List.getElem?_eq_getElem hpl⟩
       refine ⟨by omega,fun a ha=>?_⟩
       rw [Int.toNat_natCast,he] at ha
       cases ha
       have haP:=aP_at he
       have haL : (aP es p).length=e.auth.length:=by rw [haP,List.length_map]
       simp -implicitDefEqProofs (maxSteps:=2000000) only [push_cast,zA,zB,zC,zD,zE,zF,zG,↓reduceIte,reduceCtorEq,gT,eEvent]
       intro hal
       have hpi:=notin_take hSn hp
       refine WL.loop (ι:=Nat × (Nat→Nat) × List Nat × (Nat→List Nat)) (D:=(fun i=>if i=30 then (999999,[]) else if i=6 then (13,[]) else (0,[]))) (fun q=>IJ es S i p q.1 q.2.1 q.2.2.1 q.2.2.2) (fun q=>⟨179,[(2,gP es),(4,.ns),(6,.mr 0),(13,.rf 1 0),(14,.mr 2),(16,.t (.i .i64 p)),(81,.sr 3),(82,.t (.i .i64 S.length)),(83,.t (.i .i64 i)),(94,.t (eStringS e.auth)),(95,.t (.i .i64 e.auth.length)),(96,.t (.i .i64 q.1))],[ciM K q.2.1,plB es 4,clM q.2.2.1 q.2.2.2,nO S,nO (hpI es S (S.take i))]⟩) (fun q=>e.auth.length - q.1) mixed (by kernel_rfl) (0,c,R,f) (oi_in hI) (Keep.wk (ids:=[some 0,some 1,some 2,some 3,some 4]) ?_) ?_
       ·simp only [push_cast,zA,zB,zC,zD,zE,zF,zG,↓reduceIte,reduceCtorEq,gT]<;>rfl
       clear hI
       rintro ⟨j,c2,R2,f2⟩ hJ
       dsimp only at hJ ⊢
       have hjl:=hJ.le
       rw [haL] at hjl
       simp -implicitDefEqProofs (maxSteps:=2000000) only [push_cast,zA,zB,zC,zD,zE,zF,zG,↓reduceIte,reduceCtorEq,gT]
       refine iteI (fun h2=>⟨by omega,fun x hx=>?_⟩) (fun h2=>?_)
       ·rw [Int.toNat_natCast] at hx
        obtain ⟨hxt,hxp⟩:=auth_there hv he x (List.mem_of_getElem? hx)
        obtain ⟨hql,_,hqp⟩:=posN_there hxt
        have hq : (aP es p)[j]? = some (posN es x):=by rw [haP,List.getElem?_map,hx]; rfl
        generalize posN es x=k at *
        refine gLook rfl (fun k' hk'=>?_) (fun hk'=>by rw [hqp] at hk'; cases hk')
        rw [hqp] at hk'; cases hk'
        simp -implicitDefEqProofs (maxSteps:=2000000) only [push_cast,zA,zB,zC,zD,zE,zF,zG,↓reduceIte,reduceCtorEq,gT]
        refine lookF (ev:=nT) rfl hKn (fun hkK=>?_) (fun hkK=>?_)
        ·simp -implicitDefEqProofs (maxSteps:=2000000) only [push_cast,zA,zB,zC,zD,zE,zF,zG,↓reduceIte,reduceCtorEq,gT]
         refine lookF (ev:=nT) rfl hKn (fun _=>?_) (fun hh=>absurd (hKp.mem_iff.1 hpS) hh)
         simp -implicitDefEqProofs (maxSteps:=2000000) only [push_cast,zA,zB,zC,zD,zE,zF,zG,↓reduceIte,reduceCtorEq,gT]
         obtain ⟨hI2,hcp⟩:=ij_yes hv hJ hpS hpi hq (hKp.mem_iff.2 hkK)
         have hcl:=cJ_le (es:=es) (S:=S) (p:=p) (j:=j)
         have hu1:=(updFN (ev:=nT) (c:=c2) (v:=c2 p + 1) (k:=p) hKn).1
         have hu2:=(updFN (ev:=nT) (c:=c2) (v:=c2 p + 1) (k:=p) hKn).2
         rw [if_pos (hKp.mem_iff.1 hpS)] at hu1 hu2
         have hu2 : updV (List.map nT K) (List.map (fun x=>nT (c2 x)) K) (T.i .i64 p) (T.i .i64 (c2 p + 1))=K.map fun x=>nT (updF c2 p (c2 p + 1) x):=hu2
         rw [hu1,hu2]
         refine ⟨by unfold inI64; omega,fun _=>by omega,?_⟩
         refine VL.region ?_
         refine VL.go rfl (by show (_:Nat) < 179; decide) ?_
         dsimp only
         simp -implicitDefEqProofs (maxSteps:=2000000) only [push_cast,zA,zB,zC,zD,zE,zF,zG,↓reduceIte,reduceCtorEq,gT]
         refine VL.go rfl (by show (_:Nat) < 179; decide) ?_
         dsimp only
         simp -implicitDefEqProofs (maxSteps:=2000000) only [push_cast,zA,zB,zC,zD,zE,zF,zG,↓reduceIte,reduceCtorEq,gT]
         refine VL.go rfl (by show (_:Nat) < 179; decide) ?_
         dsimp only
         simp -implicitDefEqProofs (maxSteps:=2000000) only [push_cast,zA,zB,zC,zD,zE,zF,zG,↓reduceIte,reduceCtorEq,gT]
         refine VL.go rfl (by show (_:Nat) < 179; decide) ?_
         dsimp only
         simp -implicitDefEqProofs (maxSteps:=2000000) only [push_cast,zA,zB,zC,zD,zE,zF,zG,↓reduceIte,reduceCtorEq,gT]
         refine VL.takeM rfl rfl (by show (_:Nat) < 179; decide) ?_
         unfold vcTakeM
         simp -implicitDefEqProofs (maxSteps:=2000000) only [push_cast,zA,zB,zC,zD,zE,zF,zG,↓reduceIte,reduceCtorEq,gT]
         have hf2 : (f2 k).length≤301:=by
          rw [hJ.is k (hKp.mem_iff.2 hkK),List.length_append]
          have h4 : (rsF es k (S.take i)).length≤300:=Nat.le_trans (List.length_filter_le _ _) (by rw [List.length_take]; omega)
          split<;>simp<;>omega
         refine ⟨fun m xs hm hxs=>?_,fun hkR=>?_⟩
         ·obtain ⟨k',hRm,hkk⟩ : ∃ k',R2[m]? = some k' ∧ nT k'=nT k:=by
           rw [List.getElem?_map,Option.map_eq_some_iff] at hm; exact hm
          obtain rfl : k'=k:=n_inj _ _ hkk
          rw [List.getElem?_map,hRm] at hxs
          cases hxs
          refine VL.go rfl (by show (_:Nat) < 179; decide) ?_
          dsimp only
          simp -implicitDefEqProofs (maxSteps:=2000000) only [push_cast,zA,zB,zC,zD,zE,zF,zG,↓reduceIte,reduceCtorEq,gT]
          refine VL.go rfl (by show (_:Nat) < 179; decide) ?_
          dsimp only
          simp -implicitDefEqProofs (maxSteps:=2000000) only [push_cast,zA,zB,zC,zD,zE,zF,zG,↓reduceIte,reduceCtorEq,gT]
          refine ⟨rfl,by omega,?_⟩
          refine VL.go rfl (by show (_:Nat) < 179; decide) ?_
          dsimp only
          simp -implicitDefEqProofs (maxSteps:=2000000) only [push_cast,zA,zB,zC,zD,zE,zF,zG,↓reduceIte,reduceCtorEq,gT]
          refine ⟨rfl,by omega,by omega,?_⟩
          refine VL.putM rfl rfl trivial ?_
          unfold vcPutM
          simp -implicitDefEqProofs (maxSteps:=2000000) only [push_cast,zA,zB,zC,zD,zE,zF,zG,↓reduceIte,reduceCtorEq,gT]
          rw [if_pos (List.mem_of_getElem? hRm)] at hI2
          have hset : (R2.map fun x=>T.sl ((f2 x).map nT)).set m (T.sl ((f2 k').map nT ++ [T.i .i64 p]))=R2.map fun x=>T.sl ((updL f2 k' (f2 k' ++ [p]) x).map nT):=by
           have:=updL_set (f:=f2) (v:=f2 k' ++ [p]) (fun l=>T.sl (l.map nT)) hJ.rs.nodup hRm
           rw [List.map_append] at this
           exact this
          rw [hset]
          refine ⟨hm,VL.tail ?_⟩
          simp -implicitDefEqProofs (maxSteps:=2000000) only [push_cast,zA,zB,zC,zD,zE,zF,zG,↓reduceIte,reduceCtorEq,gT]
          refine ⟨by unfold inI64; omega,(j + 1,updF c2 p (c2 p + 1),R2,updL f2 k' (f2 k' ++ [p])),hI2,by dsimp only; omega,Keep.wk (ids:=[some 0,some 1,some 2,some 3,some 4]) ?_⟩
          simp only [push_cast,zA,zB,zC,zD,zE,zF,zG,↓reduceIte,reduceCtorEq,gT]<;>rfl
         ·refine VL.go rfl (by show (_:Nat) < 179; decide) ?_
          dsimp only
          simp -implicitDefEqProofs (maxSteps:=2000000) only [push_cast,zA,zB,zC,zD,zE,zF,zG,↓reduceIte,reduceCtorEq,gT]
          refine VL.go rfl (by show (_:Nat) < 179; decide) ?_
          dsimp only
          simp -implicitDefEqProofs (maxSteps:=2000000) only [push_cast,zA,zB,zC,zD,zE,zF,zG,↓reduceIte,reduceCtorEq,gT]
          refine ⟨rfl,by omega,?_⟩
          refine VL.go rfl (by show (_:Nat) < 179; decide) ?_
          dsimp only
          simp -implicitDefEqProofs (maxSteps:=2000000) only [push_cast,zA,zB,zC,zD,zE,zF,zG,↓reduceIte,reduceCtorEq,gT]
          refine ⟨rfl,by omega,by omega,?_⟩
          refine VL.putM rfl rfl trivial ?_
          unfold vcPutM
          simp -implicitDefEqProofs (maxSteps:=2000000) only [push_cast,zA,zB,zC,zD,zE,zF,zG,↓reduceIte,reduceCtorEq,gT]
          have hkR' : k ∉ R2:=fun hh=>hkR (List.mem_map.2 ⟨k,hh,rfl⟩)
          rw [if_neg hkR'] at hI2
          have hfk:=hJ.rs.out k (hKp.mem_iff.2 hkK) hkR'
          have hset : (R2.map fun x=>T.sl ((f2 x).map nT)) ++ [T.sl [T.i .i64 p]]=(R2 ++ [k]).map fun x=>T.sl ((updL f2 k (f2 k ++ [p]) x).map nT):=by
           have:=updL_snoc (f:=f2) (v:=f2 k ++ [p]) (fun l=>T.sl (l.map nT)) hkR'
           rw [← this,hfk]
           rfl
          have hsk : R2.map nT ++ [T.i .i64 k]=(R2 ++ [k]).map nT:=by rw [List.map_append]; rfl
          have hRl : R2.length≤300:=Nat.le_trans (len_sub hJ.rs.nodup hJ.rs.sub) hSS
          rw [hset,hsk]
          refine ⟨hkR,by omega,VL.tail ?_⟩
          simp -implicitDefEqProofs (maxSteps:=2000000) only [push_cast,zA,zB,zC,zD,zE,zF,zG,↓reduceIte,reduceCtorEq,gT]
          refine ⟨by unfold inI64; omega,(j + 1,updF c2 p (c2 p + 1),R2 ++ [k],updL f2 k (f2 k ++ [p])),hI2,by dsimp only; omega,Keep.wk (ids:=[some 0,some 1,some 2,some 3,some 4]) ?_⟩
          simp only [push_cast,zA,zB,zC,zD,zE,zF,zG,↓reduceIte,reduceCtorEq,gT]<;>rfl
        ·simp -implicitDefEqProofs (maxSteps:=2000000) only [push_cast,zA,zB,zC,zD,zE,zF,zG,↓reduceIte,reduceCtorEq,gT]
         refine ⟨by unfold inI64; omega,(j + 1,c2,R2,f2),ij_no hJ hq (fun hh=>hkK (hKp.mem_iff.1 hh)),by dsimp only; omega,Keep.wk (ids:=[some 0,some 1,some 2,some 3,some 4]) ?_⟩
         simp only [push_cast,zA,zB,zC,zD,zE,zF,zG,↓reduceIte,reduceCtorEq,gT]<;>rfl
       ·have hj : j=(aP es p).length:=by omega
        subst hj
        obtain ⟨hO,hcp⟩:=ij_end hJ hSn hp
        refine lookF (ev:=nT) rfl hKn (fun _=>?_) (fun hh=>absurd (hKp.mem_iff.1 hpS) hh)
        simp -implicitDefEqProofs (maxSteps:=2000000) only [push_cast,zA,zB,zC,zD,zE,zF,zG,↓reduceIte,reduceCtorEq,gT]
        obtain ⟨hhl,hhm⟩:=hpI_len (es:=es) (K:=S) (i:=i) hSn
        have hhs:=hpI_snoc (es:=es) (K:=S) hp
        refine iteI (fun h3=>?_) (fun h3=>?_)
        ·rw [if_pos (by omega)] at hhs
         have hpu:=pilePush (ltP es) 166 [.po (gT es) 0] (by decide) es.length (by omega) hlt (hpI es S (S.take i)) p (fun x hx=>hSm x (hhm x hx)) hpl (by omega) hB
         rw [← hhs] at hpu
         refine Callx.hand [1,4] hpu (by decide) (by simp only [push_cast,zA,zB,zC,zD,zE,zF,zG,↓reduceIte,reduceCtorEq]) rfl rfl (by simp only [push_cast,zA,zB,zC,zD,zE,zF,zG,↓reduceIte,reduceCtorEq]<;>rfl) rfl (.inr ⟨rfl,by simp only [push_cast,zA,zB,zC,zD,zE,zF,zG,↓reduceIte,reduceCtorEq]⟩) ?_
         simp -implicitDefEqProofs (maxSteps:=2000000) only [push_cast,zA,zB,zC,zD,zE,zF,zG,↓reduceIte,reduceCtorEq,gT]
         refine ⟨by unfold inI64; omega,(i + 1,c2,R2,f2),hO,by dsimp only; omega,Keep.wk (ids:=[some 0,some 1,some 2,some 3,some 5]) ?_⟩
         simp only [push_cast,zA,zB,zC,zD,zE,zF,zG,↓reduceIte,reduceCtorEq,gT]<;>rfl
        ·rw [if_neg (by omega)] at hhs
         refine ⟨by unfold inI64; omega,(i + 1,c2,R2,f2),hO,by dsimp only; omega,Keep.wk (ids:=[some 0,some 1,some 2,some 3,some 4]) ?_⟩
         dsimp only
         rw [hhs]
         simp only [push_cast,zA,zB,zC,zD,zE,zF,zG,↓reduceIte,reduceCtorEq,gT]<;>rfl
      ·have hi : i=S.length:=by have:=hI.le; omega
       subst hi
       obtain ⟨hc0,hf0⟩:=oi_end hI
       have hRs:=hI.rs
       rw [List.take_length]
       have hPI : PI es (powIn es ids) S [] (hpI es S S) c:=by
        have h0:=pi_start hv (powIn_there hids) ddF_nodup (srt:=S) (by rw [← hKd] at hKp; exact hKp)
        exact ⟨h0.sub,h0.nodup,h0.closed,h0.heap,h0.hn,h0.mem,fun p hp=>hc0 p hp,h0.is⟩
       clear hI hc0
       have hlS : (powIn es ids).length=S.length:=by rw [hKp.length_eq,← hKd,List.length_map]
       refine ⟨rfl,by omega,?_⟩
       refine WL.wk (Wk.seal 14 (y:=.mp (R.map nT) (R.map fun x=>T.sl ((f x).map nT))) (ids:=[2]) (by simp only [getL,AV.take,List.getElem?_cons_succ,List.getElem?_cons_zero,zA,if_false,if_true]) rfl) ?_
       refine WL.loop (ι:=List Nat × List Nat × (Nat→Nat)) (D:=(fun i=>if i=30 then (999999,[]) else if i=6 then (13,[]) else (0,[]))) (fun q=>PI es (powIn es ids) S q.1 q.2.1 q.2.2) (fun q=>⟨179,[(2,gP es),(4,.ns),(6,.mr 0),(13,.rf 1 0),(14,.t (.mp (R.map nT) (R.map fun x=>T.sl ((f x).map nT)))),(23,.sr 2)],[ciM K q.2.2,plB es 3,txP (q.1.map (idP es)),nO q.2.1]⟩) (fun q=>S.length - q.1.length) mixed (by kernel_rfl) ([],hpI es S S,c) hPI (Keep.wk (ids:=[some 0,some 1,some 5,some 4]) ?_) ?_
       ·simp only [push_cast,zA,zB,zC,zD,zE,zF,zG,↓reduceIte,reduceCtorEq,gT,killAll,List.map_nil]<;>rfl
       clear hPI
       rintro ⟨out,hp,c2⟩ hI
       dsimp only at hI ⊢
       have hPl:=pi_len hv (powIn_there hids) ddF_nodup (srt:=S) (by rw [← hKd] at hKp; exact hKp) hI
       simp -implicitDefEqProofs (maxSteps:=2000000) only [push_cast,zA,zB,zC,zD,zE,zF,zG,↓reduceIte,reduceCtorEq,gT]
       have hKp' : List.Perm S ((powIn es ids).map (posN es)):=by rw [hKd]; exact hKp
       have htI:=powIn_there hids
       intro _
       refine iteI (fun h2=>?_) (fun h2=>?_)
       ·have hne : hp≠[]:=by rintro rfl; simp at h2
        have hJ0:=pi_pop hv htI ddF_nodup hKp' hI hne
        have hpS : ∀ x∈hp,x < es.length:=fun x hx=>hSm x ((hI.mem x).1 hx).1
        have hpo:=pilePop (ltP es) 166 [.po (gT es) 0] (by decide) es.length (by omega) hlt hp hpS hne (by omega) hB
        have hxl : gN hp 0 < es.length:=hpS _ (List.mem_of_getElem? (gN_lt (List.length_pos_iff.2 hne)))
        refine Callx.hand [1,3] hpo (by decide) (by simp only [push_cast,zA,zB,zC,zD,zE,zF,zG,↓reduceIte,reduceCtorEq]) rfl rfl (by simp only [push_cast,zA,zB,zC,zD,zE,zF,zG,↓reduceIte,reduceCtorEq]<;>rfl) rfl (.inr ⟨rfl,by simp only [push_cast,zA,zB,zC,zD,zE,zF,zG,↓reduceIte,reduceCtorEq]⟩) ?_
        generalize gN hp 0=x at *
        generalize popL (ltP es) hp=hq at *
        clear hpo hI
        obtain ⟨e,he⟩ : ∃ e,es[x]? = some e:=⟨_,List.getElem?_eq_getElem hxl⟩
        simp -implicitDefEqProofs (maxSteps:=2000000) only [push_cast,zA,zB,zC,zD,zE,zF,zG,↓reduceIte,reduceCtorEq,gT]
        refine ⟨by omega,fun a ha=>?_⟩
        rw [Int.toNat_natCast,he] at ha
        cases ha
        simp -implicitDefEqProofs (maxSteps:=2000000) only [push_cast,zA,zB,zC,zD,zE,zF,zG,↓reduceIte,reduceCtorEq,gT,eEvent]
        have hxS:=hJ0.xs
        have hol : out.length≤300:=by omega
        have hidx : idP es x=e.id:=idP_at he
        refine ⟨rfl,by omega,rfl,by omega,by omega,?_⟩
        have hR1 : (rsF es x S).length≤300:=Nat.le_trans (List.length_filter_le _ _) hSS
        refine lookF (ev:=fun l : List Nat=>T.sl (l.map nT)) rfl hRs.nodup (fun hxR=>?_) (fun hxR=>?_)
        ·rw [hf0 x hxS]
         simp -implicitDefEqProofs (maxSteps:=2000000) only [push_cast,zA,zB,zC,zD,zE,zF,zG,↓reduceIte,reduceCtorEq,gT,eEvent]
         intro _
         refine WL.loop (ι:=Nat × List Nat × (Nat→Nat)) (D:=(fun i=>if i=30 then (999999,[]) else if i=6 then (13,[]) else (0,[]))) (fun q=>PJ es (powIn es ids) S out x q.1 q.2.1 q.2.2∧q.1≤(rsF es x S).length) (fun q=>⟨179,[(2,gP es),(4,.ns),(6,.mr 0),(13,.rf 1 0),(14,.t (.mp (R.map nT) (R.map fun x=>T.sl ((f x).map nT)))),(23,.sr 2),(160,.t (.sl ((rsF es x S).map nT))),(161,.t (.i .i64 (rsF es x S).length)),(162,.t (.i .i64 q.1))],[ciM K q.2.2,plB es 3,txP ((out ++ [x]).map (idP es)),nO q.2.1]⟩) (fun q=>(rsF es x S).length - q.1) mixed (by kernel_rfl) (0,hq,c2) ⟨hJ0,Nat.zero_le _⟩ (Keep.wk (ids:=[some 0,some 1,some 6,some 4]) ?_) ?_
         ·rw [List.map_append,List.map_cons,List.map_nil,hidx]
          simp only [push_cast,zA,zB,zC,zD,zE,zF,zG,↓reduceIte,reduceCtorEq,gT,List.map_append,List.map_cons,List.map_nil]<;>rfl
         clear hJ0
         rintro ⟨j,hh,c3⟩ ⟨hJ,hjl⟩
         dsimp only at hJ hjl ⊢
         simp -implicitDefEqProofs (maxSteps:=2000000) only [push_cast,zA,zB,zC,zD,zE,zF,zG,↓reduceIte,reduceCtorEq,gT]
         refine iteI (fun h3=>?_) (fun h3=>?_)
         ·refine ⟨by omega,fun q hq'=>?_⟩
          rw [Int.toNat_natCast] at hq'
          obtain ⟨hcu,hc0,hcn,hqS⟩:=pj_cnt hv htI ddF_nodup hKp' hJ hq'
          have hst:=pj_step hv htI ddF_nodup hKp' hJ hq'
          have hjl2:=pj_len hv htI ddF_nodup hKp' hJ
          have hql:=hSm q hqS
          have hqK:=hKp.mem_iff.1 hqS
          have hu1:=(updFN (ev:=nT) (c:=c3) (v:=c3 q - 1) (k:=q) hKn).1
          have hu2:=(updFN (ev:=nT) (c:=c3) (v:=c3 q - 1) (k:=q) hKn).2
          rw [if_pos hqK] at hu1 hu2
          have hu2 : updV (List.map nT K) (List.map (fun x=>nT (c3 x)) K) (T.i .i64 q) (T.i .i64 ((c3 q:Int) - 1))=K.map fun x=>nT (updF c3 q (c3 q - 1) x):=by
           have e : ((c3 q:Int) - 1)=((c3 q - 1 : Nat) : Int):=by omega
           rw [e]; exact hu2
          have hcl : c3 q≤301:=by
           rw [hcu]
           unfold unc
           refine Nat.le_trans (len_sub (m:=S) ((aP_nodup hv).filter _) fun y hy=>?_) (by omega)
           have:=(List.mem_filter.1 hy).2
           simp only [Bool.and_eq_true,decide_eq_true_eq] at this
           exact this.1
          refine lookF (ev:=nT) rfl hKn (fun _=>?_) (fun h=>absurd hqK h)
          simp -implicitDefEqProofs (maxSteps:=2000000) only [push_cast,zA,zB,zC,zD,zE,zF,zG,↓reduceIte,reduceCtorEq,gT]
          rw [hu1,hu2]
          refine ⟨by unfold inI64; omega,fun _=>by omega,lookF (ev:=nT) (c:=updF c3 q (c3 q - 1)) rfl hKn (fun _=>?_) (fun h=>absurd hqK h)⟩
          have hup : updF c3 q (c3 q - 1) q=c3 q - 1:=if_pos rfl
          rw [hup]
          simp -implicitDefEqProofs (maxSteps:=2000000) only [push_cast,zA,zB,zC,zD,zE,zF,zG,↓reduceIte,reduceCtorEq,gT]
          refine iteI (fun h4=>?_) (fun h4=>?_)
          ·rw [if_pos (by omega)] at hst
           have hpu:=pilePush (ltP es) 166 [.po (gT es) 0] (by decide) es.length (by omega) hlt hh q (fun y hy=>hSm y ((hJ.mem y).1 hy).1) hql (by omega) hB
           refine Callx.hand [1,3] hpu (by decide) (by simp only [push_cast,zA,zB,zC,zD,zE,zF,zG,↓reduceIte,reduceCtorEq]) rfl rfl (by simp only [push_cast,zA,zB,zC,zD,zE,zF,zG,↓reduceIte,reduceCtorEq]<;>rfl) rfl (.inr ⟨rfl,by simp only [push_cast,zA,zB,zC,zD,zE,zF,zG,↓reduceIte,reduceCtorEq]⟩) ?_
           simp -implicitDefEqProofs (maxSteps:=2000000) only [push_cast,zA,zB,zC,zD,zE,zF,zG,↓reduceIte,reduceCtorEq,gT]
           refine ⟨by unfold inI64; omega,(j + 1,pushL (ltP es) hh q,updF c3 q (c3 q - 1)),⟨hst,by dsimp only; omega⟩,by dsimp only; omega,Keep.wk (ids:=[some 0,some 1,some 2,some 4]) ?_⟩
           simp only [push_cast,zA,zB,zC,zD,zE,zF,zG,↓reduceIte,reduceCtorEq,gT]<;>rfl
          ·rw [if_neg (by omega)] at hst
           refine ⟨by unfold inI64; omega,(j + 1,hh,updF c3 q (c3 q - 1)),⟨hst,by dsimp only; omega⟩,by dsimp only; omega,Keep.wk (ids:=[some 0,some 1,some 2,some 3]) ?_⟩
           simp only [push_cast,zA,zB,zC,zD,zE,zF,zG,↓reduceIte,reduceCtorEq,gT]<;>rfl
         ·have hj : j=(rsF es x S).length:=by omega
          subst hj
          have hI2:=pj_end hv htI ddF_nodup hKp' hJ
          refine ⟨(out ++ [x],hh,c3),hI2,by simp only [List.length_append,List.length_singleton]; omega,Keep.wk (ids:=[some 0,some 1,some 2,some 3]) ?_⟩
          simp only [push_cast,zA,zB,zC,zD,zE,zF,zG,↓reduceIte,reduceCtorEq,gT]<;>rfl
        ·have hfx:=hRs.out x hxS hxR
         rw [hf0 x hxS] at hfx
         simp -implicitDefEqProofs (maxSteps:=2000000) only [push_cast,zA,zB,zC,zD,zE,zF,zG,↓reduceIte,reduceCtorEq,gT,eEvent]
         refine WL.loop (ι:=Unit) (D:=(fun i=>if i=30 then (999999,[]) else if i=6 then (13,[]) else (0,[]))) (fun _=>True) (fun _=>⟨179,[(2,gP es),(4,.ns),(6,.mr 0),(13,.rf 1 0),(14,.t (.mp (R.map nT) (R.map fun x=>T.sl ((f x).map nT)))),(23,.sr 2),(160,.t (.sl [])),(161,.t (.i .i64 0)),(162,.t (.i .i64 0))],[ciM K c2,plB es 3,txP ((out ++ [x]).map (idP es)),nO hq]⟩) (fun _=>0) mixed (by kernel_rfl) () trivial (Keep.wk (ids:=[some 0,some 1,some 6,some 4]) ?_) ?_
         ·rw [List.map_append,List.map_cons,List.map_nil,hidx]
          simp only [push_cast,zA,zB,zC,zD,zE,zF,zG,↓reduceIte,reduceCtorEq,gT,List.map_append,List.map_cons,List.map_nil]<;>rfl
         intro _ _
         simp -implicitDefEqProofs (maxSteps:=2000000) only [push_cast,zA,zB,zC,zD,zE,zF,zG,↓reduceIte,reduceCtorEq,gT]
         have hI2:=pj_end hv htI ddF_nodup hKp' (x:=x) (out:=out) (h:=hq) (c:=c2) (by rw [hfx]; exact hJ0)
         refine iteI (fun h=>absurd h (by decide)) (fun _=>?_)
         refine ⟨(out ++ [x],hq,c2),hI2,by simp only [List.length_append,List.length_singleton]; omega,Keep.wk (ids:=[some 0,some 1,some 2,some 3]) ?_⟩
         simp only [push_cast,zA,zB,zC,zD,zE,zF,zG,↓reduceIte,reduceCtorEq,gT]<;>rfl
       ·have hpn : hp=[]:=List.eq_nil_of_length_eq_zero (by omega)
        subst hpn
        have hend:=pi_end hv htI ddF_nodup hKp' hI
        have hpL : powL es ids=powTo es (powIn es ids) (powIn es ids).length:=rfl
        rw [hpL,← hend]
        exact Close.of [some 2] rfl rfl rfl (by simp only [push_cast,zA,zB,zC,zD,zE,zF,zG,↓reduceIte,reduceCtorEq]<;>rfl) (by simp only [push_cast,zA,zB,zC,zD,zE,zF,zG,↓reduceIte,reduceCtorEq]<;>rfl)
end Go.Proofs.YtmgdkkhnjkepiaaGreat.BX
namespace Go.Proofs.YtmgdkkhnjkepiaaGreat.BX
open Nat renaming reduceEqDiff → zA, reduceLT → zB, reduceLeDiff → zC, reduceAdd → zD, reduceMul → zE, reduceSub → zF, reduceBEq → zG
set_option linter.unusedSectionVars false
set_option linter.unusedSimpArgs false
set_option linter.unusedVariables false
open Go Go.RowKit
set_option maxRecDepth 20000
set_option maxHeartbeats 400000
variable [Bd]
theorem implPowerOrder (es:List Event) (ids:List (List UInt8)) (hD:¬ Bd.D) (hB:Bd.B≤2147483648) : Con P0 41 [eRoom ⟨es⟩,eStringS ids] (.tp [.sr 0,.t (.b (powB es ids))]) [txP (powR es ids)]:=by
 refine Con.intro (fn:=Tryz.f41) [.tmp 4,.tmp 5] (fun _=>(0,[])) mixed (by kernel_rfl) rfl (by decide) rfl (by rfl) (by kernel_rfl) ?_
 simp -implicitDefEqProofs (maxSteps:=2000000) only [push_cast,zA,zB,zC,zD,zE,zF,zG,↓reduceIte,reduceCtorEq,eRoom]
 have:=Bd.lo
 have no : powB es ids=false→powR es ids=[]:=fun h=>if_neg (by rw [h]; simp)
 refine Callx.closed (graphOf es hB) rfl rfl (.inl rfl) ?_
 cases hr : roomB es with
 | false =>
   have h1 : powB es ids=false:=by unfold powB; rw [hr]; rfl
   rw [no h1,h1]
   simp -implicitDefEqProofs (maxSteps:=2000000) only [push_cast,zA,zB,zC,zD,zE,zF,zG,↓reduceIte,reduceCtorEq,eRoom]
   exact Close.of [none] rfl rfl rfl (by simp only [push_cast,zA,zB,zC,zD,zE,zF,zG,↓reduceIte,reduceCtorEq]<;>rfl) (by simp only [push_cast,zA,zB,zC,zD,zE,zF,zG,↓reduceIte,reduceCtorEq]<;>rfl)
 | true =>
   simp -implicitDefEqProofs (maxSteps:=2000000) only [push_cast,zA,zB,zC,zD,zE,zF,zG,↓reduceIte,reduceCtorEq,eRoom,gT]
   intro _
   refine iteI (fun h2=>?_) (fun h2=>?_)
   ·have h1 : powB es ids=false:=by unfold powB; rw [decide_eq_false (by omega)]; simp
    rw [no h1,h1]
    exact Close.of [none] rfl rfl rfl (by simp only [push_cast,zA,zB,zC,zD,zE,zF,zG,↓reduceIte,reduceCtorEq]<;>rfl) (by simp only [push_cast,zA,zB,zC,zD,zE,zF,zG,↓reduceIte,reduceCtorEq]<;>rfl)
   refine Callx.closed (graphAll es ids) rfl rfl (.inl rfl) ?_
   cases hall : allIn es ids with
   | false =>
     have h1 : powB es ids=false:=by unfold powB; rw [hall]; simp
     rw [no h1,h1]
     simp -implicitDefEqProofs (maxSteps:=2000000) only [push_cast,zA,zB,zC,zD,zE,zF,zG,↓reduceIte,reduceCtorEq,eRoom]
     exact Close.of [none] rfl rfl rfl (by simp only [push_cast,zA,zB,zC,zD,zE,zF,zG,↓reduceIte,reduceCtorEq]<;>rfl) (by simp only [push_cast,zA,zB,zC,zD,zE,zF,zG,↓reduceIte,reduceCtorEq]<;>rfl)
   | true =>
     have h1 : powB es ids=true:=by unfold powB; rw [hall,hr,decide_eq_true (by omega)]; rfl
     have hv:=room_valid hr
     have hR : powR es ids=powL es ids:=if_pos h1
     have hg:=graphPowerOrder es hv ids (allIn_spec hall) (by omega) hD hB
     rw [← hR,gT] at hg
     rw [h1]
     simp -implicitDefEqProofs (maxSteps:=2000000) only [push_cast,zA,zB,zC,zD,zE,zF,zG,↓reduceIte,reduceCtorEq,eRoom]
     refine Callx.closed hg rfl rfl (.inr ⟨rfl,rfl⟩) ?_
     simp -implicitDefEqProofs (maxSteps:=2000000) only [push_cast,zA,zB,zC,zD,zE,zF,zG,↓reduceIte,reduceCtorEq,eRoom]
     exact Close.of [some 1] rfl rfl rfl (by simp only [push_cast,zA,zB,zC,zD,zE,zF,zG,↓reduceIte,reduceCtorEq]<;>rfl) (by simp only [push_cast,zA,zB,zC,zD,zE,zF,zG,↓reduceIte,reduceCtorEq]<;>rfl)
theorem powR_len (es:List Event) (ids:List (List UInt8)) : (powR es ids).length≤ids.length:=by
 unfold powR
 split
 ·exact powL_len
 ·simp
theorem lawPowerOrder (r:Room) (ids:List (List UInt8)) (hD:¬ Bd.D) (hB:mxs [eRoom r,eStringS ids]≤1048576→Bd.B≤2147483648) : Con P0 7 [eRoom r,eStringS ids] (.t (.b true)) []:=by
 refine Con.intro (fn:=Tryz.f7) [.tmp 4] (fun i=>if i=14 then (5,[]) else (0,[])) mixed (by kernel_rfl) rfl (by decide) rfl (by rfl) (by kernel_rfl) ?_
 simp -implicitDefEqProofs (maxSteps:=2000000) only [push_cast,zA,zB,zC,zD,zE,zF,zG,↓reduceIte,reduceCtorEq]
 refine Callx.closed (szRoom r _ (by omega) (by omega)) rfl rfl (.inl rfl) ?_
 simp -implicitDefEqProofs (maxSteps:=2000000) only [push_cast,zA,zB,zC,zD,zE,zF,zG,↓reduceIte,reduceCtorEq]
 rcases szR_cases (eRoom r).wt 1048576 with ⟨g1,g2⟩ | ⟨g1,g2⟩
 rotate_left
 ·simp only [g2]
  rw [if_pos (by omega)]
  trivial
 simp only [g2]
 rw [if_neg (by omega)]
 refine Callx.closed (szStringS ids _ (by omega) (by omega)) rfl rfl (.inl rfl) ?_
 simp -implicitDefEqProofs (maxSteps:=2000000) only [push_cast,zA,zB,zC,zD,zE,zF,zG,↓reduceIte,reduceCtorEq]
 rcases szR_cases (eStringS ids).wt (1048576 - (eRoom r).wt) with ⟨g3,g4⟩ | ⟨g3,g4⟩
 rotate_left
 ·simp only [g4]
  rw [if_pos (by omega)]
  trivial
 simp only [g4]
 rw [if_neg (by omega)]
 have hB:=hB (mxs_cons (mx_of (by omega)) (mxs_cons (mx_of (by omega)) mxs_nil))
 have hlo:=Bd.lo
 have hwr : (eRoom r).wt=(eEventS r.events).wt:=by simp [eRoom,T.wt,wts]
 have hle : r.events.length≤(eEventS r.events).wt:=by simp only [T.wt,List.length_map]; omega
 have hli : ids.length≤(eStringS ids).wt:=by simp only [T.wt,List.length_map]; omega
 have htl:=powR_len r.events ids
 have toR : ∀ {K:T→Prop},K (eRoom r)→CallV P0 16 [eRoom r] true K:=fun k=>CallV.of (r:=eRoom r) (toRoom hB r) (by simp only [push_cast,zA,zB,zC,zD,zE,zF,zG,↓reduceIte,reduceCtorEq]; rfl) rfl (.inl rfl) k
 have cS:=specPowerOrder r.events ids hB
 have cI:=implPowerOrder r.events ids hD hB
 generalize powR r.events ids=R at *
 generalize powB r.events ids=o at *
 refine Callx.closed (toRoom hB r) rfl rfl (.inl rfl) ?_
 simp -implicitDefEqProofs (maxSteps:=2000000) only [push_cast,zA,zB,zC,zD,zE,zF,zG,↓reduceIte,reduceCtorEq]
 refine Callx.closed (toStringS hB ids) rfl rfl (.inl rfl) ?_
 simp -implicitDefEqProofs (maxSteps:=2000000) only [push_cast,zA,zB,zC,zD,zE,zF,zG,↓reduceIte,reduceCtorEq]
 refine Callx.closed cS rfl rfl (.inr ⟨rfl,rfl⟩) ?_
 simp -implicitDefEqProofs (maxSteps:=2000000) only [push_cast,zA,zB,zC,zD,zE,zF,zG,↓reduceIte,reduceCtorEq]
 refine Callx.closed (toRoom hB r) rfl rfl (.inl rfl) ?_
 simp -implicitDefEqProofs (maxSteps:=2000000) only [push_cast,zA,zB,zC,zD,zE,zF,zG,↓reduceIte,reduceCtorEq]
 refine Callx.closed (toStringS hB ids) rfl rfl (.inl rfl) ?_
 simp -implicitDefEqProofs (maxSteps:=2000000) only [push_cast,zA,zB,zC,zD,zE,zF,zG,↓reduceIte,reduceCtorEq]
 refine Callx.closed cI rfl rfl (.inr ⟨rfl,rfl⟩) ?_
 simp -implicitDefEqProofs (maxSteps:=2000000) only [push_cast,zA,zB,zC,zD,zE,zF,zG,↓reduceIte,reduceCtorEq]
 refine Callx.closed (eqStringS R R) rfl rfl (.inr ⟨rfl,rfl⟩) ?_
 simp -implicitDefEqProofs (maxSteps:=2000000) only [push_cast,zA,zB,zC,zD,zE,zF,zG,↓reduceIte,reduceCtorEq]
 refine toR ?_
 simp -implicitDefEqProofs (maxSteps:=2000000) only [push_cast,zA,zB,zC,zD,zE,zF,zG,↓reduceIte,reduceCtorEq]
 refine CallV.t (eqRoom r r) (.inr rfl) ?_
 simp -implicitDefEqProofs (maxSteps:=2000000) only [push_cast,zA,zB,zC,zD,zE,zF,zG,↓reduceIte,reduceCtorEq]
 refine Callx.closed (toStringS hB ids) rfl rfl (.inl rfl) ?_
 simp -implicitDefEqProofs (maxSteps:=2000000) only [push_cast,zA,zB,zC,zD,zE,zF,zG,↓reduceIte,reduceCtorEq]
 refine Callx.closed (eqStringS ids ids) rfl rfl (.inr ⟨rfl,rfl⟩) ?_
 simp -implicitDefEqProofs (maxSteps:=2000000) only [push_cast,zA,zB,zC,zD,zE,zF,zG,↓reduceIte,reduceCtorEq]
 have ht1:=totEv_le r.events
 have htc:=totC (n:=1) (xs:=ids)
 refine Callx.hand [4] (markRoom r 1 (by omega) (by omega)) (by decide) (by simp only [push_cast,zA,zB,zC,zD,zE,zF,zG,↓reduceIte,reduceCtorEq]) rfl rfl (by simp only [push_cast,zA,zB,zC,zD,zE,zF,zG,↓reduceIte,reduceCtorEq]<;>rfl) rfl (.inr ⟨rfl,by simp only [push_cast,zA,zB,zC,zD,zE,zF,zG,↓reduceIte,reduceCtorEq]<;>rfl⟩) ?_
 simp -implicitDefEqProofs (maxSteps:=2000000) only [push_cast,zA,zB,zC,zD,zE,zF,zG,↓reduceIte,reduceCtorEq]
 refine Callx.hand [6] (markStringS ids (1 + (totL wEv r.events : Nat)) (by omega) (by omega)) (by decide) (by simp only [push_cast,zA,zB,zC,zD,zE,zF,zG,↓reduceIte,reduceCtorEq]) rfl rfl (by simp only [push_cast,zA,zB,zC,zD,zE,zF,zG,↓reduceIte,reduceCtorEq]<;>rfl) rfl (.inr ⟨rfl,by simp only [push_cast,zA,zB,zC,zD,zE,zF,zG,↓reduceIte,reduceCtorEq]<;>rfl⟩) ?_
 simp -implicitDefEqProofs (maxSteps:=2000000) only [push_cast,zA,zB,zC,zD,zE,zF,zG,↓reduceIte,reduceCtorEq]
 rw [if_neg (by omega)]
 refine Callx.closed (eqStringS R R) rfl rfl (.inr ⟨rfl,rfl⟩) ?_
 simp -implicitDefEqProofs (maxSteps:=2000000) only [push_cast,zA,zB,zC,zD,zE,zF,zG,↓reduceIte,reduceCtorEq]
 refine Callx.hand [7] (markStringS R 1 (by omega) (by omega)) (by decide) (by simp only [push_cast,zA,zB,zC,zD,zE,zF,zG,↓reduceIte,reduceCtorEq]) rfl rfl (by simp only [push_cast,zA,zB,zC,zD,zE,zF,zG,↓reduceIte,reduceCtorEq]<;>rfl) rfl (.inr ⟨rfl,by simp only [push_cast,zA,zB,zC,zD,zE,zF,zG,↓reduceIte,reduceCtorEq]<;>rfl⟩) ?_
 simp -implicitDefEqProofs (maxSteps:=2000000) only [push_cast,zA,zB,zC,zD,zE,zF,zG,↓reduceIte,reduceCtorEq]
 refine Callx.closed (heldStringS R 1 (by omega) (by omega)) rfl rfl (.inr ⟨rfl,rfl⟩) ?_
 simp -implicitDefEqProofs (maxSteps:=2000000) only [push_cast,zA,zB,zC,zD,zE,zF,zG,↓reduceIte,reduceCtorEq]
 rw [if_neg (by omega)]
 refine Callx.closed (toRoom hB r) rfl rfl (.inl rfl) ?_
 simp -implicitDefEqProofs (maxSteps:=2000000) only [push_cast,zA,zB,zC,zD,zE,zF,zG,↓reduceIte,reduceCtorEq]
 refine Callx.closed (toStringS hB ids) rfl rfl (.inl rfl) ?_
 simp -implicitDefEqProofs (maxSteps:=2000000) only [push_cast,zA,zB,zC,zD,zE,zF,zG,↓reduceIte,reduceCtorEq]
 refine Callx.closed cI rfl rfl (.inr ⟨rfl,rfl⟩) ?_
 simp -implicitDefEqProofs (maxSteps:=2000000) only [push_cast,zA,zB,zC,zD,zE,zF,zG,↓reduceIte,reduceCtorEq]
 refine Callx.closed (eqStringS R R) rfl rfl (.inr ⟨rfl,rfl⟩) ?_
 simp -implicitDefEqProofs (maxSteps:=2000000) only [push_cast,zA,zB,zC,zD,zE,zF,zG,↓reduceIte,reduceCtorEq]
 refine Callx.closed (heldStringS R 1 (by omega) (by omega)) rfl rfl (.inr ⟨rfl,rfl⟩) ?_
 simp -implicitDefEqProofs (maxSteps:=2000000) only [push_cast,zA,zB,zC,zD,zE,zF,zG,↓reduceIte,reduceCtorEq]
 rw [if_neg (by omega)]
 trivial
end Go.Proofs.YtmgdkkhnjkepiaaGreat.BX