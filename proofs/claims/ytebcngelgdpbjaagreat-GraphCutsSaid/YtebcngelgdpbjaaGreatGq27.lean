/- Part 27 of what the laws' proofs rest on. No condition. -/
import Derived.Test.YtebcngelgdpbjaaGreatGq26
set_option linter.all false
namespace Go.Proofs.YtebcngelgdpbjaaGreat
section
set_option maxRecDepth 100000
set_option maxHeartbeats 4000000
theorem zOd (l:List EvtA):(evR.cells l).all (wrOk false)=true:=by
 induction l with
 | nil=>rfl
 | cons a l ih =>
  simp only[Row.cells,List.flatMap_cons,List.all_append]at ih ⊢
  rw[ih,Bool.and_true]
  exact Q7m a
theorem RdEf.fst {h:List AB} {s:AV} {M:List EvF} (e:RdEf h s M):Rd evR h s (M.map (·.1)):=by
 have:=e.ev.s
 rw[List.map_map]at this
 exact this
theorem RdEf.okf {h:List AB} {s:AV} {M:List EvF} (e:RdEf h s M):∀x∈M.map (·.1),okL (fun i=>decide (i<h.length)) (evtF x)=true:=fun x hx=>by
 obtain ⟨y,hy,rfl⟩:=List.mem_map.1 hx
 exact e.ev.o (y.1,y.2.1) (List.mem_map.2 ⟨y,hy,rfl⟩)
open Classical in
noncomputable def JMz:List AV->List AB->Option (AV×List AB)
 | [a],h=>(z47 h a).bind fun M=>if M.length<=1000/\(M=[]->a=.ns) then some (apS evR (h.length+0) (M.map (·.1)),h++[resN evR true (M.map (·.1))]) else none
 | _,_=>none
theorem YCz:Spec Tryz.prog 82 JMz:=by
 intro args h v h' e
 unfold JMz at e
 split at e
 ·rename_i a
  obtain ⟨M,hM,e⟩:=KiG e
  split at e
  ·rename_i hc
   cases e
   have hs:=hM.fst
   have hoe:=Xad (r:=evR) hM.okf
   have hc0:M.map (·.1)=[]->a=.ns:=fun z=>hc.2 (List.map_eq_nil_iff.1 z)
   have hcl:(M.map (·.1)).length<=1000:=by rw[List.length_map];exact hc.1
   generalize M.map (·.1)=l at *
   refine FnAt.c (FnAt.run (by kernel_rfl) (T:=⟨[],[]⟩) ⟨trivial,trivial⟩ Tryz.func82 sw82 fun ho hh=>?_)
   simp only[XDA,Bool.and_eq_true]at ho
   unfold w82
   by_cases h0:l=[]
   ·subst h0
    rw[hc0 rfl]
    simp only[QhU,YqB,z16,Xq6,simprocAttr]
    rw[List.append_nil]
    exact Bt.pad _ _ 1
   ·have hn:l.length≠0:=fun z=>h0 (List.eq_nil_of_length_eq_zero z)
    obtain ⟨id,off,cap,k,xs,rfl,hb,h3,h4⟩:=hs.blk 0 (by omega)
    have f1:=hs.fx ho.1 (sz:=39) rfl
    have u1:=hs.src (sz:=39) rfl
    have nn:q70 (.sl id off l.length cap k) .ns=some false:=by rw[K7a,if_neg (fun z=>hn z.1)]
    have z1:=eq_false hn
    have z2:=eq_true (p:=l.length*136<=140737488355328/\l.length<=maxLen) ⟨by omega,by unfold maxLen;omega⟩
    simp only[QhU,YqB,z16,Xq6,simprocAttr,f1,u1,nn,z1,z2,zOd,oD,ne_eq,forall_const]
    have hx:apS evR (h.length+0) l=.sl (h.length+0) 0 l.length l.length (some 39):=by unfold apS;rw[if_neg hn];rfl
    rw[hx,qPl true hn]
    refine Bt.sel [1] hh (by decide) ⟨⟨_,rfl,_root_.id,KAd (fun i q=>by simp only[decide_eq_true_eq]at q ⊢;omega) _ hoe,KFJ hoe⟩,trivial⟩ (by simp only[KlC,FrSel,BlkSel,AV.ren,renL,AV.ok,okL,Option.some.injEq,exists_eq_left',List.length_cons,List.length_nil,Nat.reduceAdd,Nat.reduceLT,reduceCtorEq,implies_true,exists_eq'])
  ·cases e
 ·cases e
noncomputable def q0P:List AV->List AB->Option (AV×List AB)
 | [a,.p j 0],h=>(getE a).bind fun x=>(bxS h j).bind fun v=>(getS intR h v).bind fun xs=>some (.b (decide (¬vhas xs x.dot)),h)
 | _,_=>none
theorem XC9:Spec Tryz.prog 83 q0P:=by
 intro args h v h' e
 unfold q0P at e
 split at e
 ·rename_i a j
  obtain ⟨x,hx,e2⟩:=Kc6 e
  clear e
  subst hx
  obtain ⟨v,hv,e3⟩:=oQ.1 e2
  obtain ⟨xs,hs,e4⟩:=zZy e3
  clear e2 e3
  cases e4
  refine FnAt.c (FnAt.run (by kernel_rfl) (T:=⟨[⟨40,qY8,fun _=>[]⟩],[]⟩) ⟨⟨Jbk,trivial⟩,trivial⟩ Tryz.func83 sw83 fun ho hh=>?_)
  obtain ⟨a0,a1,a2,a3,a4,a5,a6⟩:=Zxc x
  have w1:=Q7m x
  have l1:=YXj x
  have c1:∀l:List AV,(AV.ag l).cells=l:=fun _=>rfl
  have t1:(evtF x).take 2=[.i .i64 x.dot.1,.i .i64 x.dot.2]:=rfl
  have g1:∀z,getS intR (h++z) v=some xs:=fun z=>(hs.app z).get
  have f1:=qbm (Xeg hv)
  have nn:(!decide (vhas xs (x.dot.1,x.dot.2)))=decide (¬vhas xs x.dot):=by rw[decide_not]
  unfold w83
  simp only[QhU,YqB,z16,KHD,Xq6,simprocAttr,CO.tmps,Opd.tmps,optT,qY8,a0,a1,a2,w1,l1,c1,t1,g1,f1,XJx,nn,List.drop_zero,Option.bind_some,if_true,oD,ne_eq,forall_const]
  exact Bt.dropB _ hh (by rw[decide_not])
 ·cases e
theorem Jbu {h:List AB} {i:Nat} {v:AV} (e:bxS h i=some v) (y:List AB):bxS (h++y) i=some v:=by
 obtain ⟨m,hm⟩:=Q97 e
 unfold bxS
 rw[List.getElem?_append_left (List.getElem?_eq_some_iff.1 hm).1,hm]
abbrev cutA (j:Nat):AV:=.f (.func 83) [] [.p j 0]
noncomputable def YKb:List AV->List AB->Option (AV×List AB)
 | [s,.f (.func f) [] [.p j 0]],h=>if f=83 then (bxS h j).bind fun v=>(getS intR h v).bind fun xs=>(getS evR h s).bind fun l=>some (.i .i64 (idx (fun x:EvtA=>¬vhas xs x.dot) l),h) else none
 | _,_=>none
theorem K4P:Spec Tryz.prog 143 YKb:=by
 intro args h v h' e
 unfold YKb at e
 split at e
 ·rename_i s f j
  split at e
  ·rename_i hf
   subst hf
   obtain ⟨v,hv,e⟩:=oQ.1 e
   obtain ⟨xs,hxs,e⟩:=zZy e
   obtain ⟨l,hs,e⟩:=zZy e
   cases e
   refine FnAt.c (FnAt.run (by kernel_rfl) (T:=⟨[⟨83,q0P,fun _=>[]⟩],[]⟩) ⟨⟨XC9,trivial⟩,trivial⟩ Tryz.func143 Xu1 fun ho hh=>?_)
   simp only[XDA,Bool.and_eq_true]at ho
   have f1:=hs.fx ho.1 (sz:=39) rfl
   have k0:=(qbm (Xeg hv)).1
   have b0:∀y,bxS (h++y) j=some v:=fun y=>Jbu hv y
   have g1:∀z,getS intR (h++z) v=some xs:=fun z=>(hxs.app z).get
   unfold w143
   simp only[QhU,YqB,z16,Xq6,simprocAttr,f1]
   refine zXM (S:=Nat) (fun i=>l.length-i) (fun i=>[s,cutA j]++tp 5++[.i .i64 l.length,.i .i64 i]++tp 10) (fun i=>i<=l.length/\idx (fun x:EvtA=>¬vhas xs x.dot) l=JFm (fun x:EvtA=>¬vhas xs x.dot) (l.drop i) i) 0 ⟨Nat.zero_le _,rfl⟩ (by simp only[z16,Xq6,simprocAttr]) fun i hi=>?_
   simp only[z16,Xq6,simprocAttr,f1]
   refine ⟨fun h2=>?_,fun h2=>?_⟩
   ·have e1:IntKind.i64.wrap ((i:Int)+1)=((i+1:Nat):Int):=ZWm (by have:=hs.2;unfold maxLen at this;unfold In64;omega)
    have e2:=KAy (fun x:EvtA=>¬vhas xs x.dot) evR.d i h2
    simp only[z16,Xq6,simprocAttr,f1,h2,e1,q0P,ZxE,Zz9,b0,g1,Option.bind_some]
    refine ⟨fun h3=>Bt.eq (by rw[hi.2,e2,if_pos h3]) (List.append_nil h),fun h3=>⟨i+1,⟨h2,?_⟩,by omega,Wk.refl _⟩⟩
    rw[hi.2,e2,if_neg h3]
   ·exact Bt.eq (by rw[hi.2,List.drop_eq_nil_of_le (by omega)];rfl) (List.append_nil h)
  ·cases e
 ·cases e
abbrev notU (xs:List Int):EvtA->Prop:=fun x=>¬vhas xs x.dot
open Classical in
noncomputable def ZjN:List AV->List AB->Option (AV×List AB)
 | [s,.f (.func f) [] [.p j 0]],h=>if f=83 then (bxS h j).bind fun v=>(getS intR h v).bind fun xs=>(getS evR h s).bind fun l=>match idOf s with
   | []=>if s=.ns then some (.ns,h) else none
   | [id]=>if s=apS evR id l/\l.length≠0/\h[id]?=some (resN evR true l)/\j≠id/\(∀k∈idOf v,k≠id)/\l.length<=1000/\(∀x∈l,okL (fun i=>decide (i<h.length)) (evtF x)=true) then some (rsl evR id (delP (notU xs) l),h.set id (resN evR true (delP (notU xs) l))) else none
   | _=>none
  else none
 | _,_=>none
def zE:EvtA:=⟨(0,0),⟨.ns,rfl⟩,0,[],[],KDO,⟨.ns,rfl⟩⟩
theorem Yy1 {h:List AB} {id:Nat} {B:AB} (e:h[id]?=some B):h.set id B=h:=(Y1G e:oB h id B=h)
theorem YVM:Spec Tryz.prog 81 ZjN:=by
 intro args h v' h' e
 unfold ZjN at e
 split at e
 ·rename_i s f j
  split at e
  ·rename_i hf
   subst hf
   obtain ⟨v,hv,e2⟩:=oQ.1 e
   obtain ⟨xs,hxs,e3⟩:=zZy e2
   obtain ⟨l,hs,e4⟩:=zZy e3
   clear e e2 e3
   split at e4
   ·split at e4
    ·rename_i hs0
     subst hs0
     cases e4
     have hl0:l=[]:=by
      have:=hs.len
      simp only[lenV,Option.some.injEq]at this
      exact List.eq_nil_of_length_eq_zero (by omega)
     subst hl0
     refine FnAt.c (FnAt.run (by kernel_rfl) (T:=⟨[⟨143,YKb,fun _=>[]⟩],[]⟩) ⟨⟨K4P,trivial⟩,trivial⟩ Tryz.func81 sw81 fun ho hh=>?_)
     have b0:∀y,bxS (h++y) j=some v:=fun y=>Jbu hv y
     have g1:∀z,getS intR (h++z) v=some xs:=fun z=>(hxs.app z).get
     have g2:∀z,getS evR (h++z) .ns=some []:=fun z=>(hs.app z).get
     have i0:idx (notU xs) ([]:List EvtA) = -1:=rfl
     unfold w81
     simp only[QhU,YqB,z16,KHD,Xq6,simprocAttr,CO.tmps,Opd.tmps,optT,YKb,b0,g1,g2,i0,Option.bind_some,if_true,oD,ne_eq,forall_const]
     exact Bt.eq rfl (List.append_nil h)
    ·cases e4
   ·rename_i id hid
    split at e4
    ·rename_i hcc
     obtain ⟨h1,h0,h2,hbn,hvn,hlen,hoks⟩:=hcc
     have hlt:=(List.getElem?_eq_some_iff.1 h2).1
     have b0:∀y,bxS (h++y) j=some v:=fun y=>Jbu hv y
     have g1:∀z,getS intR (h++z) v=some xs:=fun z=>(hxs.app z).get
     have hS:apS evR id l=.sl id 0 l.length l.length (some 39):=by unfold apS;rw[if_neg h0];rfl
     rw[hS]at h1
     subst h1
     have g2:∀z,getS evR (h++z) (.sl id 0 l.length l.length (some 39))=some l:=fun z=>(hs.app z).get
     rw[Option.some.injEq,Prod.mk.injEq]at e4
     obtain ⟨rfl,rfl⟩:=e4
     by_cases hn:idx (notU xs) l<0
     ·have hm1:=JuM (P:=notU xs) l 0 hn
      have hd:delP (notU xs) l=l:=ZSw fun q=>by
       have:=(zwC (notU xs) l).2 q
       omega
      rw[hd,Yy1 h2]
      have hr:rsl evR id l=.sl id 0 l.length l.length (some 39):=by unfold rsl;rw[if_neg h0];rfl
      rw[hr]
      refine FnAt.c (FnAt.run (by kernel_rfl) (T:=⟨[⟨143,YKb,fun _=>[]⟩],[]⟩) ⟨⟨K4P,trivial⟩,trivial⟩ Tryz.func81 sw81 fun ho hh=>?_)
      have hm2:idx (notU xs) l = -1:=hm1
      unfold w81
      simp only[QhU,YqB,z16,KHD,Xq6,simprocAttr,CO.tmps,Opd.tmps,optT,YKb,b0,g1,g2,hm2,Option.bind_some,if_true,oD,ne_eq,forall_const]
      exact Bt.eq rfl (List.append_nil h)
     ·obtain ⟨j0,hj0,hij,hdj⟩:=zZs (P:=notU xs) l 0 (by unfold idx at hn;omega)
      have hij2:idx (notU xs) l=(j0:Int):=by unfold idx;rw[hij,Nat.zero_add]
      refine FnAt.c (FnAt.run (by kernel_rfl) (T:=⟨[⟨143,YKb,fun _=>[]⟩,⟨83,q0P,fun _=>[]⟩],[]⟩) ⟨⟨K4P,XC9,trivial⟩,trivial⟩ Tryz.func81 sw81 fun ho hh=>?_)
      have nm1:((j0:Int) = -1)=False:=eq_false (by omega)
      have e0:IntKind.i64.wrap ((j0:Int)+1)=((j0+1:Nat):Int):=ZWm (by unfold In64;omega)
      have hjl:=Kvu (Xeg hv)
      unfold w81
      simp only[QhU,YqB,z16,KHD,Xq6,simprocAttr,CO.tmps,Opd.tmps,optT,lenV,YKb,b0,g1,g2,hij2,nm1,e0,Option.bind_some,if_true,oD,ne_eq,forall_const]
      refine q2X (S:=Nat×Nat×List EvtA) (fun σ=>l.length-σ.1) (fun σ=>[.sl id 0 l.length l.length (some 39),cutA j]++tp 3++[.i .i64 σ.2.1,.i .i64 σ.1]++tp 35) (fun σ=>oB h id (resN evR true σ.2.2)++[]) (fun σ=>DelS (notU xs) evR.d l σ.2.2 σ.1 σ.2.1/\∀x∈σ.2.2,x∈l) (j0+1,j0,l) ⟨⟨rfl,Nat.lt_succ_self _,hj0,hdj.symm,fun _ _=>rfl⟩,fun _ hx=>hx⟩ (by rw[Y1G h2];exact Bt.wk (by simp only[z16,Xq6,simprocAttr])) fun σ hσ=>?_
      obtain ⟨m,k,L⟩:=σ
      obtain ⟨hd,hsub⟩:=hσ
      dsimp only at hd hsub ⊢
      have hL:=hd.len
      have hk:=hd.lt
      have hle:=hd.le
      have b1:∀y,bxS (oB h id (resN evR true L)++y) j=some v:=fun y=>by
       obtain ⟨mm,hm⟩:=Q97 hv
       unfold bxS
       rw[ZrG hjl hbn,hm]
      have g3:∀z,getS intR (oB h id (resN evR true L)++z) v=some xs:=fun z=>by
       exact ((JkI hxs hvn _).app z).get
      have hokL:(resN evR true L).ok (fun i=>decide (i<h.length))=true:=qn4 fun x hx=>hoks x (hsub x hx)
      have q1:∀c,(id<h.length+c)=True:=fun c=>eq_true (by omega)
      have q2:∀c,(j<h.length+c)=True:=fun c=>eq_true (by omega)
      have q3:∀sel,selN h.length sel id=id:=fun sel=>ZiE hlt
      have q4:∀sel,selN h.length sel j=j:=fun sel=>ZiE hjl
      by_cases hml:m<l.length
      ·have g4:((m:Int)<(l.length:Int))=True:=eq_true (by omega)
       have g5:((0:Int)<=(m:Int)/\(m:Int)<(l.length:Int))=True:=eq_true (by omega)
       have g6:((0:Int)<=(k:Int)/\(k:Int)<(l.length:Int))=True:=eq_true (by omega)
       have e3:IntKind.i64.wrap ((m:Int)+1)=((m+1:Nat):Int):=ZWm (by unfold In64;omega)
       have e5:IntKind.i64.wrap ((k:Int)+1)=((k+1:Nat):Int):=ZWm (by unfold In64;omega)
       have ld:=fun x=>ztc (r:=evR) (m:=true) (sz:=39) hlt hL hml rfl x
       rw[hd.tl m (Nat.le_refl _)]at ld
       have st:=fun x=>Zaz (r:=evR) (sz:=39) hlt hL (show k<l.length by omega) rfl (y:=l.getD m evR.d) (Q7m _) x
       obtain ⟨x,hx⟩:∃x,l.getD m evR.d=x:=⟨_,rfl⟩
       have hxl:x∈l:=by rw[<-hx,List.getD_eq_getElem?_getD,List.getElem?_eq_getElem hml];exact List.getElem_mem hml
       rw[hx]at ld st
       have w1:=Q7m x
       have l1:=YXj x
       have c1:∀l:List AV,(AV.ag l).cells=l:=fun _=>rfl
       have lt:(evtF x).take 39=evtF x:=List.take_of_length_le (by rw[l1];exact Nat.le_refl _)
       have iA:∀(n t:Int) ,iadV 39 (.sl id 0 l.length l.length (some 39)) (.i .i64 t)=if 0<=t/\t<(l.length:Int) then some (elP 39 (.sl id 0 l.length l.length (some 39)) t.toNat 0) else none:=fun _ t=>hs.iad .i64 t
       have iB:=iA 0
       simp only[ZxE]at ld st
       rcases emG (vhas xs x.dot) with q|q
       ·have q':decide (¬vhas xs x.dot)=false:=decide_eq_false (not_not_intro (of_eq_true q))
        simp only[QhU,YqB,z16,qdd,Qgj,simprocAttr,CO.tmps,Opd.tmps,optT,lenV,ZxG,g4,g5,g6,iB,e3,e5,ld,st,ovE,w1,l1,lt,c1,q0P,Zz9,b1,g3,q',XJx,Int.toNat_natCast,List.drop_zero,Option.bind_some,Option.map_some,Bool.not_false,Bool.not_true,if_true,oD,ne_eq,forall_const]
        have hs2:∀y∈L.set k x,y∈l:=fun y hy=>by
         rcases List.mem_or_eq_of_mem_set hy with hy|rfl
         ·exact hsub y hy
         ·exact hxl
        have hd2:=hd.keep hml (by rw[hx];exact not_not_intro (of_eq_true q))
        rw[hx]at hd2
        refine ⟨by omega,(m+1,k+1,L.set k x),⟨hd2,hs2⟩,by dsimp only;omega,?_⟩
        dsimp only
        exact Bt.selO2 [] hh (qn4 fun y hy=>hoks y (hs2 y hy)) (by decide) (by simp only[KlC,FrSel,BlkSel,AV.ren,renL,AV.ok,okL,Option.some.injEq,exists_eq_left',List.length_cons,List.length_nil,Nat.reduceAdd,Nat.reduceLT,reduceCtorEq,implies_true,exists_eq']) (by simp only[tp_0,tp_s,List.cons_append,List.nil_append,KlC,FrSel,BlkSel,AV.ren,renL,AV.ok,okL,Option.some.injEq,exists_eq_left',List.length_cons,List.length_nil,Nat.reduceAdd,Nat.reduceLT,reduceCtorEq,implies_true,exists_eq',q1,q2,q3,q4,hlt,hjl])
       ·have q':decide (¬vhas xs x.dot)=true:=decide_eq_true (of_eq_false q)
        simp only[QhU,YqB,z16,qdd,Qgj,simprocAttr,CO.tmps,Opd.tmps,optT,lenV,ZxG,g4,g5,g6,iB,e3,e5,ld,st,ovE,w1,l1,lt,c1,q0P,Zz9,b1,g3,q',XJx,Int.toNat_natCast,List.drop_zero,Option.bind_some,Option.map_some,Bool.not_false,Bool.not_true,if_true,oD,ne_eq,forall_const]
        have hd2:=hd.skip hml (by rw[hx];exact of_eq_false q)
        refine ⟨(m+1,k,L),⟨hd2,hsub⟩,by dsimp only;omega,?_⟩
        dsimp only
        exact Bt.selO2 [] hh hokL (by decide) (by simp only[KlC,FrSel,BlkSel,AV.ren,renL,AV.ok,okL,Option.some.injEq,exists_eq_left',List.length_cons,List.length_nil,Nat.reduceAdd,Nat.reduceLT,reduceCtorEq,implies_true,exists_eq']) (by simp only[tp_0,tp_s,List.cons_append,List.nil_append,KlC,FrSel,BlkSel,AV.ren,renL,AV.ok,okL,Option.some.injEq,exists_eq_left',List.length_cons,List.length_nil,Nat.reduceAdd,Nat.reduceLT,reduceCtorEq,implies_true,exists_eq',q1,q2,q3,q4,hlt,hjl])
      ·have g4:((m:Int)<(l.length:Int))=False:=eq_false (by omega)
       have hkl:k<l.length:=by omega
       have sI:=Y7I (id:=id) hkl (show (39:Nat)≠0 by decide)
       have sJ:=XH0 (id:=id) (sz:=39) (Nat.le_of_lt hkl)
       have zi:∀(zl:List AV),zl=evR.f zE->∀x,clrW (oB h id (resN evR true L)++x) zl (.sl id (0+k*39) (l.length-k) (l.length-k) (some 39))=some (.tu [],oB h id (resN evR true (L.take k++List.replicate (l.length-k) zE))++x):=fun zl hz x=>by
        rw[hz]
        exact qYO (r:=evR) hlt (by omega) (by omega) rfl (Q7m _) _ x
       have zj:=zi [.i .i64 0,.i .i64 0,.ns,.i .i64 0,.s [],.s [],oZ,oZ,oZ,oZ,oZ,oZ,oZ,oZ,oZ,oZ,oZ,oZ,oZ,oZ,oZ,oZ,oZ,oZ,oZ,oZ,oZ,oZ,oZ,oZ,oZ,oZ,oZ,oZ,oZ,oZ,oZ,oZ,.ns] rfl
       simp only[QhU,YqB,z16,qdd,Qgj,simprocAttr,CO.tmps,Opd.tmps,optT,lenV,g4,sI,sJ,JeJ,zj,oD,ne_eq,forall_const]
       have hm:(L.take k++List.replicate (l.length-k) zE).take k=delP (notU xs) l:=by
        rw[List.take_left' (by rw[List.length_take];omega),hd.hd]
        have:m=l.length:=by omega
        rw[this,List.take_length]
       exact zNV (r:=evR) hlt (by rw[List.length_append,List.length_take,List.length_replicate];omega) (by omega) (by omega) hm
    ·cases e4
   ·cases e4
  ·cases e
 ·cases e
end
section
set_option maxRecDepth 100000
set_option maxHeartbeats 4000000
def ksM (M:List (Int×Int)):List ((Int×Int)×AV):=M.map fun d=>(d,.ag [])
def mtB (M:List (Int×Int)):AB:=mpB dotK true (ksM M)
theorem Yxs (q:Nat->Bool) (M:List (Int×Int)):(mtB M).ok q=true:=by
 show okL q (kvF dotK (ksM M))=true
 induction M with
 | nil=>rfl
 | cons d M ih =>
  have h3:(dotK.f d).ok q=true:=rfl
  have h4:(AV.ag []).ok q=true:=rfl
  show okL q (dotK.f d::.ag []::kvF dotK (ksM M))=true
  simp only[XDA,h3,h4,Bool.true_and]
  exact ih
theorem JT1 {M M':List (Int×Int)} (e:mtB M=mtB M'):M=M':=by
 unfold mtB mpB at e
 simp only[AB.mo.injEq,true_and]at e
 have e2:=e.2
 clear e
 induction M generalizing M' with
 | nil=>cases M' with
  | nil=>rfl
  | cons d M'=>cases e2
 | cons d M ih=>cases M' with
  | nil=>cases e2
  | cons d' M' =>
   simp only[ksM,List.map_cons,kvF,List.cons.injEq,true_and]at e2
   rw[ih e2.2]
   have:=e2.1
   simp only[dotK,AV.ag.injEq]at this
   rw[dotR.inj _ _ this]
theorem QEY {M:List (Int×Int)} {d:Int×Int}:(d∈M->∃j,fndM dotK d (ksM M) 0=some (j,.ag []))/\(d∉M->fndM dotK d (ksM M) 0=none):=by
 constructor
 ·intro h
  cases e:fndM dotK d (ksM M) 0 with
  | none=>exact absurd rfl (zr4 dotK |>.1 e _ (List.mem_map.2 ⟨d,h,rfl⟩))
  | some jv =>
   obtain ⟨j,v⟩:=jv
   obtain ⟨d',_,h3⟩:=List.mem_map.1 (List.mem_of_getElem? (Jp7 dotK e).2)
   rw[Prod.mk.injEq]at h3
   exact ⟨j,by rw[<-h3.2]⟩
 ·intro h
  refine (zr4 dotK).2 fun e he=>?_
  obtain ⟨d',hd',rfl⟩:=List.mem_map.1 he
  rintro rfl
  exact h hd'
theorem YHQ {M:List (Int×Int)} {d:Int×Int} (h:d∉M):mpB dotK true (putM dotK (ksM M) d (.ag []))=mtB (M++[d]):=by
 unfold putM
 rw[QEY.2 h]
 show mpB dotK true (ksM M++[(d,.ag [])])=mpB dotK true (ksM (M++[d]))
 unfold ksM
 rw[List.map_append]
 rfl
abbrev zQ4 (j:Nat):AV:=.f (.func 87) [.p j 0] []
structure PastH (h0:List AB) (l:List EvD) (j bid mid:Nat) (H:List AB):Prop where
 old:(H.take h0.length).map AB.freeze=h0
 hj:ZMh H j=some [.m bid,.m mid,zQ4 j]
 hb:∃mb,H[bid]?=some (mpB dotK mb (entE l))
open Classical in
noncomputable def Kaa (h0:List AB) (l:List EvD) (n k j bid mid:Nat):List AV->List AB->Option (AV×List AB)
 | [.p j' 0,.ag [.i .i64 a,.i .i64 b]],H=>if c:(j'=j/\PastH h0 l j bid mid H/\wtN (dpE l (a,b)) n<k)/\∃M,H[mid]?=some (mtB M) then some (.tu [],H.set mid (mtB (pSt (dpE l) k c.2.choose (a,b)))) else none
 | _,_=>none
theorem zRt {h0:List AB} {l:List EvD} {n k j bid mid:Nat} {H:List AB} {M:List (Int×Int)} {d:Int×Int} (hp:PastH h0 l j bid mid H) (hm:H[mid]?=some (mtB M)) (hw:wtN (dpE l d) n<k):Kaa h0 l n k j bid mid [.p j 0,.ag [.i .i64 d.1,.i .i64 d.2]] H=some (.tu [],H.set mid (mtB (pSt (dpE l) k M d))):=by
 have c:(j=j/\PastH h0 l j bid mid H/\wtN (dpE l (d.1,d.2)) n<k)/\∃M,H[mid]?=some (mtB M):=⟨⟨rfl,hp,hw⟩,M,hm⟩
 rw[Kaa,dif_pos c]
 have q:=JT1 (Option.some.inj (hm.symm.trans c.2.choose_spec))
 exact congrArg (fun M=>some (AV.tu [],H.set mid (mtB (pSt (dpE l) k M d)))) q.symm
theorem PastH.oB {h0:List AB} {l:List EvD} {j bid mid:Nat} {h:List AB} (hp:PastH h0 l j bid mid h) (h1:j≠mid) (h2:bid≠mid) (h3:h0.length<=mid) (M:List (Int×Int)) (L:List AB):PastH h0 l j bid mid (Go.Proofs.YtebcngelgdpbjaaGreat.oB (h.map AB.freeze) mid (mtB M)++L):=by
 obtain ⟨p1,p2,mb,p3⟩:=hp
 have hl:h0.length<=h.length:=by
  have:=congrArg List.length p1
  rw[List.length_map,List.length_take]at this
  omega
 have hjl:j<(h.map AB.freeze).length:=by rw[List.length_map];exact Kvu p2
 have hbl:bid<(h.map AB.freeze).length:=by rw[List.length_map];exact (List.getElem?_eq_some_iff.1 p3).1
 refine ⟨?_,?_,false,?_⟩
 ·rw[List.take_append_of_le_length (by rw[ZxG,List.length_map];exact hl)]
  have:(Go.Proofs.YtebcngelgdpbjaaGreat.oB (h.map AB.freeze) mid (mtB M)).take h0.length=(h.map AB.freeze).take h0.length:=by
   refine List.ext_getElem? fun i=>?_
   rw[List.getElem?_take,List.getElem?_take]
   split
   ·unfold Go.Proofs.YtebcngelgdpbjaaGreat.oB
    rw[List.getElem?_set_ne (by omega)]
   ·rfl
  rw[this,<-List.map_take]
  conv=>rhs;rw[<-p1]
  rw[List.map_map]
  refine List.map_congr_left fun B _=>?_
  cases B <;> rfl
 ·unfold ZMh at p2 ⊢
  rw[ZrG hjl h1,List.getElem?_map]
  cases e:h[j]? with
  | none=>rw[e]at p2;cases p2
  | some B =>
   rw[e]at p2
   cases B <;> first|exact p2|cases p2
 ·rw[ZrG hbl h2,List.getElem?_map,p3]
  rfl
theorem Xso {α:Type} {r:Row α} {h h':List AB} {s:AV} {l:List α} (hm:∀id xs,ZMh h id=some xs->ZMh h' id=some xs) (e:Rd r h s l):Rd r h' s l:=by
 refine ⟨?_,e.2⟩
 have h1:=e.1
 cases s <;> first|exact h1|skip
 rename_i id off len cap k
 simp only[rdS]at h1 ⊢
 split at h1
 ·rename_i h0
  rw[if_pos h0]
  exact h1
 ·rename_i h0
  rw[if_neg h0]
  obtain ⟨xs,hx,h2⟩:=oQ.1 h1
  rw[hm id xs hx,Option.bind_some]
  exact h2
theorem Z3u {h0 H:List AB} (ho:(H.take h0.length).map AB.freeze=h0) (id:Nat) (xs:List AV) (e:ZMh h0 id=some xs):ZMh H id=some xs:=by
 have hlt:=Kvu e
 unfold ZMh at e ⊢
 have h1:h0[id]?=(H[id]?).map AB.freeze:=by
  conv=>lhs;rw[<-ho]
  rw[List.getElem?_map,List.getElem?_take,if_pos hlt]
 rw[h1]at e
 cases hB:H[id]? with
 | none=>rw[hB]at e;cases e
 | some B =>
  rw[hB]at e
  cases B <;> first|exact e|cases e
theorem QPZ {h0 h:List AB} {mid:Nat} (ho:(h.take h0.length).map AB.freeze=h0) (hm:h0.length<=mid) (B:AB) (L:List AB):((Go.Proofs.YtebcngelgdpbjaaGreat.oB h mid B++L).take h0.length).map AB.freeze=h0:=by
 have hl:h0.length<=h.length:=by
  have:=congrArg List.length ho
  rw[List.length_map,List.length_take]at this
  omega
 rw[List.take_append_of_le_length (by rw[ZxG];exact hl)]
 have:(Go.Proofs.YtebcngelgdpbjaaGreat.oB h mid B).take h0.length=h.take h0.length:=by
  refine List.ext_getElem? fun i=>?_
  rw[List.getElem?_take,List.getElem?_take]
  split
  ·unfold Go.Proofs.YtebcngelgdpbjaaGreat.oB
   rw[List.getElem?_set_ne (by omega)]
  ·rfl
 rw[this]
 exact ho
theorem JTj (ag ks ok z x k):(CO.lkp ag ks ok z x k).isM=true:=oI rfl
theorem JXM (ag ks x k v):(CO.mup ag ks x k v).isM=true:=oI rfl
theorem ok_m (q:Nat->Bool) (id:Nat):(AV.m id).ok q=q id:=by simp [AV.ok]
theorem zDe (T:Env) (ev:Opd->AV) (ag ks ok z x k):wsC T ev (.lkp ag ks ok z x k)=[]:=oI rfl
theorem YqJ (T:Env) (ev:Opd->AV) (ag ks x k v):wsC T ev (.mup ag ks x k v)=idOf (ev x):=oI rfl
theorem QzY (id:Nat):idOf (.m id)=[id]:=oI rfl
def fldA (off:Nat):AV->Option AV
 | .ag l=>l[off]?
 | _=>none
theorem XBR (off:Nat) (l:List AV):fldA off (.ag l)=l[off]?:=oI rfl
theorem Q3r {T:Env} {fr:List AV} {h:List AB} (off:Nat) (x:Opd):opR T (.fld off none x) fr h=(fldA off (x.ev fr)).map (·,h):=by
 unfold opR fldA
 simp only[CO.isCall,CO.run]
 cases x.ev fr <;> rfl
theorem zkk {h0:List AB} {l:List EvD} {n:Nat} (hV:GV (dpE l) n) (hd:∀e∈l,Rd intR h0 e.1.deps.a e.2/\okL (fun i=>decide (i<h0.length)) (evtF e.1)=true) (hn:(l.map (·.1.dot)).Nodup) {j bid mid:Nat} (h1:j≠mid) (h2:bid≠mid) (h3:h0.length<=j/\h0.length<=bid/\h0.length<=mid) :
  ∀k,Spec Tryz.prog 87 (Kaa h0 l n k j bid mid)
 | 0=>fun args h v h' e=>by
  unfold Kaa at e
  split at e
  ·split at e
   ·rename_i c
    exact absurd c.1.2.2 (Nat.not_lt_zero _)
   ·cases e
  ·cases e
 | k+1=>fun args h v h' e=>by
  unfold Kaa at e
  split at e
  ·rename_i j' a b
   split at e
   ·rename_i c
    obtain ⟨⟨hj',hp,hw⟩,hM⟩:=c
    subst hj'
    have hm:=hM.choose_spec
    generalize hM.choose=M at *
    cases e
    refine FnAt.c (FnAt.run (by kernel_rfl) (T:=⟨[⟨87,Kaa h0 l n k j' bid mid,fun _=>[mid]⟩],[]⟩) ⟨⟨zkk hV hd hn h1 h2 h3 k,trivial⟩,trivial⟩ Tryz.func87 sw87 fun ho hh=>?_)
    have hmid:=(List.getElem?_eq_some_iff.1 hm).1
    have e0:h++[]=oB h mid (mtB M)++[]:=by rw[Y1G hm]
    rw[e0]
    unfold w87
    have hmidz:mid<(h.map AB.freeze).length:=by rw[List.length_map];exact hmid
    have hj:=hp.hj
    have hjl:=Kvu hj
    obtain ⟨mb,hb⟩:=hp.hb
    have hbl:=(List.getElem?_eq_some_iff.1 hb).1
    have q1:∀c,(j'<h.length+c)=True:=fun c=>eq_true (by omega)
    have q2:∀c,(bid<h.length+c)=True:=fun c=>eq_true (by omega)
    have q3:∀c,(mid<h.length+c)=True:=fun c=>eq_true (by omega)
    have sj:∀M L o,ldV (oB h mid (mtB M)++L) none (.p j' o)=[AV.m bid,.m mid,zQ4 j'][o]?:=fun M L o=>by
     rw[ZJG hj h1]
     simp only[ldV,hj,Option.bind_some]
    have hd1:(a,b)=(a,b):=rfl
    obtain ⟨cs,sl,hlk,hcs2,hsl,hco⟩:∃cs sl,lkR false (.ag [.i .i64 0,.i .i64 0,.ns,.i .i64 0,.s [],.s [],oZ,oZ,oZ,oZ,oZ,oZ,oZ,oZ,oZ,oZ,oZ,oZ,oZ,oZ,oZ,oZ,oZ,oZ,oZ,oZ,oZ,oZ,oZ,oZ,oZ,oZ,oZ,oZ,oZ,oZ,oZ,oZ,.ns]) (fndM dotK (a,b) (entE l) 0)=.ag cs/\cs[2]?=some sl/\Rd intR h0 sl (dpE l (a,b))/\okL (fun i=>decide (i<h0.length)) cs=true:=by
     cases hf:fndM dotK (a,b) (entE l) 0 with
     | none =>
      refine ⟨_,.ns,rfl,rfl,?_,rfl⟩
      have:dpE l (a,b)=[]:=by
       rcases Z7t l (a,b) with e|⟨e,he,hde,_⟩
       ·exact e
       ·exact absurd hde (JQM.1 hf e he)
      rw[this]
      exact ⟨rfl,Nat.zero_le _⟩
     | some jv =>
      obtain ⟨jj,v⟩:=jv
      obtain ⟨o,ho',hod,rfl⟩:=QjS hf
      have hdo:=hd o ho'
      refine ⟨_,o.1.deps.a,rfl,(Zxc o.1).2.2.1,?_,hdo.2⟩
      have:=QEz hn ho'
      rw[hod]at this
      rw[this]
      exact hdo.1
    have hdl:∀x∈dpE l (a,b),0<=x/\x<=1048576:=hV.pos (a,b)
    have keyM:∀M L k,k<h.length->k≠mid->((oB h mid (mtB M)).map AB.freeze++L)[k]?=(h[k]?).map AB.freeze:=fun M L k hk hne=>by
     rw[zMD,ZrG (by rw[List.length_map];exact hk) hne,List.getElem?_map]
    have keyM2:∀M L,((oB h mid (mtB M)).map AB.freeze++L)[mid]?=some (mpB dotK false (ksM M)):=fun M L=>by
     rw[zMD,K6A hmidz]
     rfl
    have lkb:∀M L,lkV ((oB h mid (mtB M)).map AB.freeze++L) true [.i,.i] false (.ag [.i .i64 0,.i .i64 0,.ns,.i .i64 0,.s [],.s [],oZ,oZ,oZ,oZ,oZ,oZ,oZ,oZ,oZ,oZ,oZ,oZ,oZ,oZ,oZ,oZ,oZ,oZ,oZ,oZ,oZ,oZ,oZ,oZ,oZ,oZ,oZ,oZ,oZ,oZ,oZ,oZ,.ns]) (.m bid) (.ag [.i .i64 a,.i .i64 b])=some (.ag cs):=fun M L=>by
     have:=JMn dotK (h:=(oB h mid (mtB M)).map AB.freeze++L) (id:=bid) (m:=false) (l:=entE l) (by rw[keyM M L bid hbl h2,hb];rfl) false (.ag [.i .i64 0,.i .i64 0,.ns,.i .i64 0,.s [],.s [],oZ,oZ,oZ,oZ,oZ,oZ,oZ,oZ,oZ,oZ,oZ,oZ,oZ,oZ,oZ,oZ,oZ,oZ,oZ,oZ,oZ,oZ,oZ,oZ,oZ,oZ,oZ,oZ,oZ,oZ,oZ,oZ,.ns]) (a,b)
     rw[hlk]at this
     exact this
    have lkm:∀M L z x y,lkV ((oB h mid (mtB M)).map AB.freeze++L) true [.i,.i] true z (.m mid) (.ag [.i .i64 x,.i .i64 y])=some (lkR true z (fndM dotK (x,y) (ksM M) 0)):=fun M L z x y=>JMn dotK (keyM2 M L) true z (x,y)
    have hl0:h0.length<=h.length:=by
     have:=congrArg List.length hp.old
     rw[List.length_map,List.length_take]at this
     omega
    have hso:=zFH.1 hco 2 _ hcs2
    have sok:sl.ok (fun i=>decide (i<h.length))=true:=AV.ok_mono (fun i q=>by simp only[decide_eq_true_eq]at q ⊢;omega) sl hso
    have soc:∀c,sl.ok (fun i=>decide (i<h.length+c))=true:=fun c=>AV.ok_mono (fun i q=>by simp only[decide_eq_true_eq]at q ⊢;omega) sl hso
    have sor:∀sel,Wk (sl.ren (selN h.length sel)) sl:=fun sel=>Wk.ren (fun i hi=>ZiE hi) sok
    have soq:∀c lo hi anc past,sl.ok (qOk (h.length+c) lo hi anc past)=true:=fun c lo hi anc past=>AV.ok_mono (fun i q=>YO3 (by simp only[decide_eq_true_eq]at q;omega)) sl sok
    have csq2:∀c lo hi anc past,okL (qOk (h.length+c) lo hi anc past) cs=true:=fun c lo hi anc past=>KAd (fun i q=>YO3 (by have:=of_decide_eq_true q;omega)) cs hco
    have sstr:=q5E hsl.isSl
    have slen:=hsl.len
    have siad:∀k m,iadV 1 sl (.i k m)=if 0<=m/\m<((dpE l (a,b)).length:Int) then some (elP 1 sl m.toNat 0) else none:=hsl.iad
    have srd:∀M,Rd intR (oB h mid (mtB M)) sl (dpE l (a,b)):=fun M=>by
     have:=QPZ hp.old h3.2.2 (mtB M) []
     rw[List.append_nil]at this
     exact Xso (Z3u this) hsl
    have sld:∀M L i,i<(dpE l (a,b)).length->ldV (oB h mid (mtB M)++L) none (elP 1 sl i 0)=some (.i .i64 ((dpE l (a,b)).getD i 0)):=fun M L i hi=>((srd M).app L).ld i 0 hi Nat.zero_lt_one
    obtain ⟨dl,hdl'⟩:∃dl,dpE l (a,b)=dl:=⟨_,rfl⟩
    rw[hdl']at hdl siad sld slen hsl
    simp only[QhU,YqB,z16,qdd,Qgj,if_true,if_false,reduceIte,Nat.reduceAdd,Nat.reduceSub,Nat.reduceLeDiff,Nat.reduceEqDiff,Nat.reduceMul,Nat.reduceLT,Int.reduceLT,Int.reduceLE,Int.reduceEq,CO.tmps,Opd.tmps,optT,Nat.reducePow,Nat.reduceDiv,Nat.reduceMod,ZxG,qlG,JTj,zDe,ok_m,Q3r,XBR,sj,q1,q2,q3,X1A,ZxG,lkb,hcs2,sstr,slen,Option.map_some,List.getElem?_cons_zero,List.getElem?_cons_succ,X01,zMZ hmid hh,Yxs,csq2,soq]
    have hun:∀(i:Nat) (m:Nat),i<dl.length->1<=m->(m:Int)<=dl.getD i 0->vhas (dpE l (a,b)) (((i+1:Nat):Int),(m:Int)):=fun i m hi h1 h2=>by
     have hg:dl[i]?=some (dl.getD i 0):=by rw[List.getD_eq_getElem?_getD,List.getElem?_eq_getElem hi];rfl
     have:=qt6 hg (by omega)
     rw[hdl']
     exact ⟨by dsimp only;omega,by dsimp only;omega,by dsimp only;rw[this];exact h2⟩
    have hres:pSt (dpE l) (k+1) M (a,b)=pOut (pSt (dpE l) k) dl 0 M:=by rw[pSt,hdl']
    rw[hres]
    have qne:∀c,(h.length+c=mid)=False:=fun c=>eq_false (by omega)
    have qnl:∀c,(h.length+c<=mid)=False:=fun c=>eq_false (by omega)
    have lr0:∀z,lkR true z none=.tu [z,.b false]:=fun _=>rfl
    have lr1:∀z j v,lkR true z (some (j,v))=.tu [v,.b true]:=fun _ _ _=>rfl
    have hll:dl.length<=9223372036854775807:=by have:=hsl.2;unfold maxLen at this;omega
    have hjr:∀sel,selN h.length sel j'=j':=fun sel=>ZiE hjl
    refine q2X (S:=Nat×List (Int×Int)) (fun σ=>dl.length-σ.1) (fun σ=>[.p j' 0]++tp 15++[sl,.i .i64 (dl.length:Int),.i .i64 (σ.1:Int)]++tp 36) (fun σ=>oB h mid (mtB σ.2)++[]) (fun σ=>σ.1<=dl.length/\pOut (pSt (dpE l) k) (dl.drop σ.1) σ.1 σ.2=pOut (pSt (dpE l) k) dl 0 M) (0,M) ⟨Nat.zero_le _,rfl⟩ ?_ fun σ hσ=>?_
    ·exact Bt.selO [] hh (fun q=>Yxs q M) (by decide) (by simp only[KlC,FrSel,BlkSel,AV.ren,renL,AV.ok,okL,Option.some.injEq,exists_eq_left',List.length_cons,List.length_nil,Nat.reduceAdd,Nat.reduceLT,reduceCtorEq,implies_true,exists_eq']) (by simp only[tp_0,tp_s,List.cons_append,List.nil_append,KlC,FrSel,BlkSel,AV.ren,renL,AV.ok,okL,Option.some.injEq,exists_eq_left',List.length_cons,List.length_nil,Nat.reduceAdd,Nat.reduceLT,reduceCtorEq,implies_true,exists_eq',sok,soc,sor,q1,hjl,hjr,Int.natCast_zero])
    obtain ⟨i,M1⟩:=σ
    obtain ⟨i1,i2⟩:=hσ
    dsimp only at i1 i2 ⊢
    by_cases g:i<dl.length
    ·have g':((i:Int)<(dl.length:Int))=True:=eq_true (by omega)
     have e1:IntKind.i64.wrap ((i:Int)+1)=((i+1:Nat):Int):=ZWm (by unfold In64;omega)
     have hge:((0:Int)<=(i:Int)/\(i:Int)<(dl.length:Int))=True:=eq_true (by omega)
     have hmem:dl.getD i 0∈dl:=by rw[List.getD_eq_getElem?_getD,List.getElem?_eq_getElem g];exact List.getElem_mem g
     have hpos:=hdl _ hmem
     obtain ⟨m0,hm0⟩:∃m0:Nat,dl.getD i 0=(m0:Int):=⟨(dl.getD i 0).toNat,by omega⟩
     have hdrop:pOut (pSt (dpE l) k) (dl.drop i) i M1=pOut (pSt (dpE l) k) (dl.drop (i+1)) (i+1) (pIn (pSt (dpE l) k) ((i+1:Nat):Int) m0 M1):=by
      have hgd:dl[i]=(m0:Int):=by rw[<-hm0,List.getD_eq_getElem?_getD,List.getElem?_eq_getElem g];rfl
      rw[List.drop_eq_getElem_cons g,pOut,hgd,Int.toNat_natCast]
     rw[hdrop]at i2
     have m0':m0<=1048576:=by omega
     simp only[QhU,YqB,z16,qdd,Qgj,if_true,if_false,reduceIte,Nat.reduceAdd,Nat.reduceSub,Nat.reduceLeDiff,Nat.reduceEqDiff,Nat.reduceMul,Nat.reduceLT,Int.reduceLT,Int.reduceLE,Int.reduceEq,CO.tmps,Opd.tmps,optT,Nat.reducePow,Nat.reduceDiv,Nat.reduceMod,ZxG,sj,q1,q2,q3,g',g,hge,siad,sld,hm0,Int.toNat_natCast]
     refine q2X (S:=Nat×List (Int×Int)) (fun τ=>τ.1) (fun τ=>[.p j' 0]++tp 3++[.i .i64 (i:Int)]++tp 1++[.i .i64 (τ.1:Int)]++tp 9++[sl,.i .i64 (dl.length:Int),.i .i64 (i:Int)]++tp 36) (fun τ=>oB h mid (mtB τ.2)++[]) (fun τ=>τ.1<=m0/\pIn (pSt (dpE l) k) ((i+1:Nat):Int) τ.1 τ.2=pIn (pSt (dpE l) k) ((i+1:Nat):Int) m0 M1) (m0,M1) ⟨Nat.le_refl _,rfl⟩ ?_ fun τ hτ=>?_
     ·refine Bt.wk ?_
      simp only[z16,Xq6,if_true,if_false,reduceIte,Nat.reduceAdd,Nat.reduceSub,Nat.reduceLeDiff,Nat.reduceEqDiff,Nat.reduceMul,Nat.reduceLT,Int.reduceLT,Int.reduceLE,Int.reduceEq]
     obtain ⟨m,M2⟩:=τ
     obtain ⟨j1,j2⟩:=hτ
     dsimp only at j1 j2 ⊢
     cases m with
     | zero =>
      have z':((0:Int)<((0:Nat):Int))=False:=eq_false (by omega)
      rw[pIn]at j2
      rw[<-j2]at i2
      simp only[QhU,YqB,z16,qdd,Qgj,if_true,if_false,reduceIte,Nat.reduceAdd,Nat.reduceSub,Nat.reduceLeDiff,Nat.reduceEqDiff,Nat.reduceMul,Nat.reduceLT,Int.reduceLT,Int.reduceLE,Int.reduceEq,CO.tmps,Opd.tmps,optT,Nat.reducePow,Nat.reduceDiv,Nat.reduceMod,z',e1]
      refine ⟨(i+1,M2),⟨g,i2⟩,by dsimp only;omega,?_⟩
      dsimp only
      refine Bt.wk ?_
      simp only[z16,Xq6,if_true,if_false,reduceIte,Nat.reduceAdd,Nat.reduceSub,Nat.reduceLeDiff,Nat.reduceEqDiff,Nat.reduceMul,Nat.reduceLT,Int.reduceLT,Int.reduceLE,Int.reduceEq]
     | succ m =>
      have z':((0:Int)<((m+1:Nat):Int))=True:=eq_true (by omega)
      by_cases hin:(((i+1:Nat):Int),((m+1:Nat):Int))∈M2
      ·obtain ⟨jj,hf⟩:=QEY.1 hin
       rw[pIn,if_pos hin]at j2
       rw[<-j2]at i2
       simp only[QhU,YqB,z16,qdd,Qgj,if_true,if_false,reduceIte,Nat.reduceAdd,Nat.reduceSub,Nat.reduceLeDiff,Nat.reduceEqDiff,Nat.reduceMul,Nat.reduceLT,Int.reduceLT,Int.reduceLE,Int.reduceEq,CO.tmps,Opd.tmps,optT,Nat.reducePow,Nat.reduceDiv,Nat.reduceMod,ZxG,qlG,JTj,zDe,ok_m,sj,q1,q2,q3,X1A,lkm,hf,lr1,z',e1,Option.map_some,List.getElem?_cons_zero,List.getElem?_cons_succ,X01,zMZ hmid hh,Yxs]
       refine ⟨(i+1,M2),⟨g,i2⟩,by dsimp only;omega,?_⟩
       dsimp only
       exact Bt.selO [] hh (fun q=>Yxs q M2) (by decide) (by simp only[KlC,FrSel,BlkSel,AV.ren,renL,AV.ok,okL,Option.some.injEq,exists_eq_left',List.length_cons,List.length_nil,Nat.reduceAdd,Nat.reduceLT,reduceCtorEq,implies_true,exists_eq']) (by simp only[tp_0,tp_s,List.cons_append,List.nil_append,KlC,FrSel,BlkSel,AV.ren,renL,AV.ok,okL,Option.some.injEq,exists_eq_left',List.length_cons,List.length_nil,Nat.reduceAdd,Nat.reduceLT,reduceCtorEq,implies_true,exists_eq',sok,soc,sor,q1,hjl,hjr])
      ·have hf:=QEY.2 hin
       rw[pIn,if_neg hin]at j2
       have hx:=hun i (m+1) g (by omega) (by rw[hm0];omega)
       have hwx:wtN (dpE l (((i+1:Nat):Int),((m+1:Nat):Int))) n<k:=Nat.lt_of_lt_of_le (hV.lt hx) (Nat.le_of_lt_succ hw)
       have mu:∀L,muV (oB (h.map AB.freeze) mid (mtB M2)++L) true [.i,.i] (.m mid) (.ag [.i .i64 ((i+1:Nat):Int),.i .i64 ((m+1:Nat):Int)]) (.ag [])=some (oB (h.map AB.freeze) mid (mtB (M2++[(((i+1:Nat):Int),((m+1:Nat):Int))]))++L):=fun L=>by
        have:=KBJ dotK hmidz (ksM M2) L (((i+1:Nat):Int),((m+1:Nat):Int)) (.ag [])
        rw[YHQ hin]at this
        exact this
       have tp:∀M3 L,Kaa h0 l n k j' bid mid [.p j' 0,.ag [.i .i64 ((i+1:Nat):Int),.i .i64 ((m+1:Nat):Int)]] (oB (h.map AB.freeze) mid (mtB M3)++L)=some (.tu [],oB (h.map AB.freeze) mid (mtB (pSt (dpE l) k M3 (((i+1:Nat):Int),((m+1:Nat):Int))))++L):=fun M3 L=>by
        rw[zRt (hp.oB h1 h2 h3.2.2 M3 L) (K6A hmidz _ _) hwx,Xqv hmidz]
       have em:IntKind.i64.wrap (((m+1:Nat):Int)-1)=(m:Int):=by rw[ZWm (by unfold In64;omega)];omega
       simp only[QhU,YqB,z16,qdd,Qgj,if_true,if_false,reduceIte,Nat.reduceAdd,Nat.reduceSub,Nat.reduceLeDiff,Nat.reduceEqDiff,Nat.reduceMul,Nat.reduceLT,Int.reduceLT,Int.reduceLE,Int.reduceEq,CO.tmps,Opd.tmps,optT,Nat.reducePow,Nat.reduceDiv,Nat.reduceMod,ZxG,qlG,KhU,JTj,JXM,zDe,YqJ,QzY,ok_m,sj,q1,q2,q3,X1A,zhj rfl hmid,QGw hmid,XgJ hmidz,Z3V,ZlO,List.length_map,lkm,hf,lr0,mu,tp,qne,qnl,z',e1,em,Option.map_some,List.getElem?_cons_zero,List.getElem?_cons_succ,X01,zMZ hmid hh,Yxs]
       refine ⟨(m,pSt (dpE l) k (M2++[(((i+1:Nat):Int),((m+1:Nat):Int))]) (((i+1:Nat):Int),((m+1:Nat):Int))),⟨by dsimp only;omega,j2⟩,Nat.lt_succ_self _,?_⟩
       dsimp only
       exact Bt.selO [] hh (fun q=>Yxs q _) (by decide) (by simp only[KlC,FrSel,BlkSel,AV.ren,renL,AV.ok,okL,Option.some.injEq,exists_eq_left',List.length_cons,List.length_nil,Nat.reduceAdd,Nat.reduceLT,reduceCtorEq,implies_true,exists_eq']) (by simp only[tp_0,tp_s,List.cons_append,List.nil_append,KlC,FrSel,BlkSel,AV.ren,renL,AV.ok,okL,Option.some.injEq,exists_eq_left',List.length_cons,List.length_nil,Nat.reduceAdd,Nat.reduceLT,reduceCtorEq,implies_true,exists_eq',sok,soc,sor,q1,hjl,hjr])
    ·have g':((i:Int)<(dl.length:Int))=False:=eq_false (by omega)
     rw[List.drop_eq_nil_of_le (by omega),pOut]at i2
     rw[<-i2]
     simp only[QhU,YqB,z16,qdd,Qgj,if_true,if_false,reduceIte,Nat.reduceAdd,Nat.reduceSub,Nat.reduceLeDiff,Nat.reduceEqDiff,Nat.reduceMul,Nat.reduceLT,Int.reduceLT,Int.reduceLE,Int.reduceEq,CO.tmps,Opd.tmps,optT,Nat.reducePow,Nat.reduceDiv,Nat.reduceMod,g']
     rw[List.append_nil]
     exact Bt.refl _ _ _
   ·cases e
  ·cases e
end
end Go.Proofs.YtebcngelgdpbjaaGreat
